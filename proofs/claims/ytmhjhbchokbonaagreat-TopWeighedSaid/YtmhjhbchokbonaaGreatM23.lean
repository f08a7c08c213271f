/- stand.Show of the law's own hull (printed by mkT18.py). The law's Awake: the walk (printed by mkT19.py). The law's own hull: its values. No program is named here. Awake. -/
import Derived.Test.YtmhjhbchokbonaaGreatM0
import Derived.Test.YtmhjhbchokbonaaGreatM19
import Derived.Test.YtmhjhbchokbonaaGreatM20
import Derived.Test.YtmhjhbchokbonaaGreatM21
import Derived.Test.YtmhjhbchokbonaaGreatM22
set_option maxRecDepth 1000000
set_option maxHeartbeats 16000000
namespace Go.Proofs.YtmhjhbchokbonaaGreat
open Go.RowKit
theorem show24_any (A : Option Addr) (B : Nat) (w : World) (hH : H5Rd w B hull5 A 3) (hB : B ≤ w.heap.size) :
  Calls Tryz.prog 24 #[.agg #[.slice A 3 3, iv 200, iv 800], iv 134] w fun e w' => BW w w' ∧ ∃ A1 c1 A2 c2, e = .returned (.tuple #[.agg #[.slice A1 3 c1, .slice A2 3 c2], iv 3, iv 0]) ∧ Rd1 iv w' w'.heap.size A1 heavyW ∧ Rd1 iv w' w'.heap.size A2 heavyL := by
 have hx0 : hull5.ps[0]? = some ⟨⟨#[98, 111, 119]⟩, 100, 1000, 1200, 50, 10, 12⟩ := rfl
 obtain ⟨b0, o0, rfl, hb0B, e0, e1, e2, e3, e4, e5, e6⟩ := stAt hH.ps hx0
 obtain ⟨b1, o1, hbo1, _, e10, e11, e12, e13, e14, e15, e16⟩ := stAt hH.ps (i := 1) (x := ⟨⟨#[109, 105, 100]⟩, 400, 500, 600, 100, 4, 5⟩) rfl
 obtain ⟨b2, o2, hbo2, _, e20, e21, e22, e23, e24, e25, e26⟩ := stAt hH.ps (i := 2) (x := ⟨⟨#[115, 116, 101, 114, 110]⟩, 900, 2000, 2000, 100, 20, 20⟩) rfl
 injection hbo1 with hbo1
 injection hbo1 with h11 h12
 injection hbo2 with hbo2
 injection hbo2 with h21 h22
 subst h11 h12 h21 h22
 obtain ⟨gt, hgt⟩ := ex (w.heap.size + 1)
 obtain ⟨W1, hW1⟩ := ex (((w.alloc (.cells #[.slice (some ⟨b0, o0, none⟩) 3 3, iv 200, iv 800] 24)).alloc (.cells #[.slice none 0 0, .slice none 0 0] 49)))
 have hbW1 : BW w W1 := by rw [← hW1]; exact (belowA (belowA (belowR _) _) _)
 have hzW1 : W1.heap.size = w.heap.size + 2 := by rw [← hW1]; simp
 have k0 : Blk W1 w.heap.size 24 #[.slice (some ⟨b0, o0, none⟩) 3 3, iv 200, iv 800] := by
  rw [← hW1]
  exact (Blk.new w 24 #[.slice (some ⟨b0, o0, none⟩) 3 3, iv 200, iv 800]).alloc (.cells #[.slice none 0 0, .slice none 0 0] 49)
 have k1 : Blk W1 gt 49 #[.slice none 0 0, .slice none 0 0] := by
  rw [← hW1, ← hgt]
  have := Blk.new (w.alloc (.cells #[.slice (some ⟨b0, o0, none⟩) 3 3, iv 200, iv 800] 24)) 49 #[.slice none 0 0, .slice none 0 0]
  rw [World.size_alloc] at this
  exact this
 have hwe : Calls Tryz.prog 58 #[.agg #[.slice (some ⟨b0, o0, none⟩) 3 3, iv 200, iv 800], iv 134] W1 (Rt W1 (.tuple #[.agg #[.slice (some ⟨b0, o0, none⟩) 3 3, iv 200, iv 800], iv 0])) := wet58_any hull5 (some ⟨b0, o0, none⟩) B 3 134 W1 (hH.below hbW1 hB) (by omega) hull5_chk (by omega) (by omega)
 have HWE := Lq hwe
 have HLE : Hid (∀ V, BW W1 V → Calls Tryz.prog 59 #[.agg #[.slice (some ⟨b0, o0, none⟩) 3 3, iv 200, iv 800], iv 134] V (Rt V (sumsV (leastK hull5 0 134) (leastK hull5 1 134) (leastK hull5 2 134)))) := Lq fun V hb => least59_any hull5 (some ⟨b0, o0, none⟩) B 3 134 V ((hH.below hbW1 hB).below hb (by omega)) (by have := hb.size; omega) hull5_ok (by omega) (by omega)
 have HWY : Hid (∀ V, Calls Tryz.prog 63 #[sumsV (leastK hull5 0 134) (leastK hull5 1 134) (leastK hull5 2 134)] V (Rt V (iv 3))) := Lq fun V => by have := why63_any (leastK hull5 0 134) (leastK hull5 1 134) (leastK hull5 2 134) V; rw [show whyOf (leastK hull5 0 134) (leastK hull5 1 134) (leastK hull5 2 134) = 3 from val_why134] at this; exact this
 have HB1 := Lq hbW1
 have HEE0 : Hid (∀ V, BW w V → V.cell? ⟨b0, o0, none⟩ = some (.string ⟨#[98, 111, 119]⟩) ∧ V.cell? ⟨b0, o0 + 1, none⟩ = some (iv 100) ∧ V.cell? ⟨b0, o0 + 2, none⟩ = some (iv 1000) ∧ V.cell? ⟨b0, o0 + 3, none⟩ = some (iv 1200) ∧ V.cell? ⟨b0, o0 + 4, none⟩ = some (iv 50) ∧ V.cell? ⟨b0, o0 + 5, none⟩ = some (iv 10) ∧ V.cell? ⟨b0, o0 + 6, none⟩ = some (iv 12)) := Lq fun V hb => ⟨keepC hb e0, keepC hb e1, keepC hb e2, keepC hb e3, keepC hb e4, keepC hb e5, keepC hb e6⟩
 have HEE1 : Hid (∀ V, BW w V → V.cell? ⟨b0, o0 + 7, none⟩ = some (.string ⟨#[109, 105, 100]⟩) ∧ V.cell? ⟨b0, o0 + 7 + 1, none⟩ = some (iv 400) ∧ V.cell? ⟨b0, o0 + 7 + 2, none⟩ = some (iv 500) ∧ V.cell? ⟨b0, o0 + 7 + 3, none⟩ = some (iv 600) ∧ V.cell? ⟨b0, o0 + 7 + 4, none⟩ = some (iv 100) ∧ V.cell? ⟨b0, o0 + 7 + 5, none⟩ = some (iv 4) ∧ V.cell? ⟨b0, o0 + 7 + 6, none⟩ = some (iv 5)) := Lq fun V hb => ⟨keepC hb e10, keepC hb e11, keepC hb e12, keepC hb e13, keepC hb e14, keepC hb e15, keepC hb e16⟩
 have HEE2 : Hid (∀ V, BW w V → V.cell? ⟨b0, o0 + 14, none⟩ = some (.string ⟨#[115, 116, 101, 114, 110]⟩) ∧ V.cell? ⟨b0, o0 + 14 + 1, none⟩ = some (iv 900) ∧ V.cell? ⟨b0, o0 + 14 + 2, none⟩ = some (iv 2000) ∧ V.cell? ⟨b0, o0 + 14 + 3, none⟩ = some (iv 2000) ∧ V.cell? ⟨b0, o0 + 14 + 4, none⟩ = some (iv 100) ∧ V.cell? ⟨b0, o0 + 14 + 5, none⟩ = some (iv 20) ∧ V.cell? ⟨b0, o0 + 14 + 6, none⟩ = some (iv 20)) := Lq fun V hb => ⟨keepC hb e20, keepC hb e21, keepC hb e22, keepC hb e23, keepC hb e24, keepC hb e25, keepC hb e26⟩
 have K1 := Lq k1
 have p0 := k0.c 0
 have p1 := k0.c 1
 have p2 := k0.c 2
 clear hH hbW1 k0 k1 hwe e0 e1 e2 e3 e4 e5 e6 e10 e11 e12 e13 e14 e15 e16 e20 e21 e22 e23 e24 e25 e26 hx0
 go_enter Tryz.func24, Tryz.ntmps24
 go_wp2_with fail
 refine HWE.out.mono ?_
 rintro e w2 ⟨rfl, hb2⟩
 obtain ⟨g7, hg7⟩ := ex w2.heap.size
 obtain ⟨Wa, hWa⟩ := ex (w2.alloc (.cells #[.slice (some ⟨b0, o0, none⟩) 3 3, iv 200, iv 800] 119))
 have hba : BW w2 Wa := by rw [← hWa]; exact belowA (belowR _) _
 have k7 : Blk Wa g7 119 #[.slice (some ⟨b0, o0, none⟩) 3 3, iv 200, iv 800] := by rw [← hWa, ← hg7]; exact Blk.new w2 119 _
 have Xa := Lq (belowT hb2 hba)
 have hza := hb2.size
 have q0 := k7.c 0
 have q1 := k7.c 1
 have q2 := k7.c 2
 have K7 := Lq k7
 have hz7 : g7 < Wa.heap.size := k7.lt
 clear hb2 hba k7 p0 p1 p2 hW1 HWE
 go_wp2_with fail
 refine (HLE.out _ Xa.out).mono ?_
 rintro e w3 ⟨rfl, hb3⟩
 have Y3 := Lq hb3
 clear hb3 q0 q1 q2 hWa
 go_wp2_with fail
 refine (HWY.out _).mono ?_
 rintro e w4 ⟨rfl, hb4⟩
 have Y4 := Lq (belowT Y3.out hb4)
 have k7 := K7.out.same (Y4.out.block _ K7.out.lt)
 have q0 := k7.c 0
 have q1 := k7.c 1
 have q2 := k7.c 2
 have hlv := levers66_any (some ⟨b0, o0, none⟩) 3 3 200 800 w4
 obtain ⟨gb, hgb⟩ := ex w4.heap.size
 rw [hgb] at hlv
 have HLV := Lq hlv
 clear hb4 k7 hlv
 go_wp2_with fail
 refine HLV.out.mono ?_
 rintro e w5 ⟨rfl, hb5, gb1, gb2, _⟩
 have Y5 := Lq (belowT Y4.out hb5)
 have q0' := fun W => (idx138 gb W).2.2
 have k7 := K7.out.same (Y5.out.block _ K7.out.lt)
 have q0 := k7.c 0
 have hw31 : IntKind.i64.wrap (3 - 1) = 2 := by decide
 have hw32 : IntKind.i64.wrap 2 = 2 := by decide
 have hm2 : max (0 : Int) 2 = 2 := by decide
 obtain ⟨g8, hg8⟩ := ex w5.heap.size
 obtain ⟨W3, hW3⟩ := ex (w5.alloc (.cells #[.func (.func 104) #[] #[pT gb 0], .func (.func 105) #[] #[], .func (.func 106) #[] #[]] 137))
 have hb3 : BW w5 W3 := by rw [← hW3]; exact belowA (belowR _) _
 have k8 : Blk W3 g8 137 #[.func (.func 104) #[] #[pT gb 0], .func (.func 105) #[] #[], .func (.func 106) #[] #[]] := by rw [← hW3, ← hg8]; exact Blk.new w5 137 _
 have X3 := Lq (belowT Xa.out (belowT Y5.out hb3))
 have hz3 : w.heap.size + 2 ≤ w5.heap.size := by have := Xa.out.size; have := Y5.out.size; omega
 have hz38 : g8 < W3.heap.size := k8.lt
 have q7 := keepC hb3 q0
 have HG8 : Hid (∀ V, OnlyAt W3 V gt → V.cell? ⟨g8, 0, none⟩ = some (.func (.func 104) #[] #[pT gb 0]) ∧ V.cell? ⟨gb, 2, none⟩ = some (iv 800)) := Lq fun V ho => ⟨ho.cell (k8.cell 0) (by omega), ho.cell (keepC hb3 gb2) (by have := Xa.out.size; have := Y4.out.size; omega)⟩
 have HE0 : Hid (∀ V, OnlyAt W3 V gt → V.cell? ⟨b0, o0, none⟩ = some (.string ⟨#[98, 111, 119]⟩) ∧ V.cell? ⟨b0, o0 + 1, none⟩ = some (iv 100) ∧ V.cell? ⟨b0, o0 + 2, none⟩ = some (iv 1000) ∧ V.cell? ⟨b0, o0 + 3, none⟩ = some (iv 1200) ∧ V.cell? ⟨b0, o0 + 4, none⟩ = some (iv 50) ∧ V.cell? ⟨b0, o0 + 5, none⟩ = some (iv 10) ∧ V.cell? ⟨b0, o0 + 6, none⟩ = some (iv 12)) := Lq fun V ho => by
  obtain ⟨e0, e1, e2, e3, e4, e5, e6⟩ := HEE0.out W3 (belowT HB1.out X3.out)
  exact ⟨ho.cell e0 (by omega), ho.cell e1 (by omega), ho.cell e2 (by omega), ho.cell e3 (by omega), ho.cell e4 (by omega), ho.cell e5 (by omega), ho.cell e6 (by omega)⟩
 have HE1 : Hid (∀ V, OnlyAt W3 V gt → V.cell? ⟨b0, o0 + 7, none⟩ = some (.string ⟨#[109, 105, 100]⟩) ∧ V.cell? ⟨b0, o0 + 7 + 1, none⟩ = some (iv 400) ∧ V.cell? ⟨b0, o0 + 7 + 2, none⟩ = some (iv 500) ∧ V.cell? ⟨b0, o0 + 7 + 3, none⟩ = some (iv 600) ∧ V.cell? ⟨b0, o0 + 7 + 4, none⟩ = some (iv 100) ∧ V.cell? ⟨b0, o0 + 7 + 5, none⟩ = some (iv 4) ∧ V.cell? ⟨b0, o0 + 7 + 6, none⟩ = some (iv 5)) := Lq fun V ho => by
  obtain ⟨e0, e1, e2, e3, e4, e5, e6⟩ := HEE1.out W3 (belowT HB1.out X3.out)
  exact ⟨ho.cell e0 (by omega), ho.cell e1 (by omega), ho.cell e2 (by omega), ho.cell e3 (by omega), ho.cell e4 (by omega), ho.cell e5 (by omega), ho.cell e6 (by omega)⟩
 have HE2 : Hid (∀ V, OnlyAt W3 V gt → V.cell? ⟨b0, o0 + 14, none⟩ = some (.string ⟨#[115, 116, 101, 114, 110]⟩) ∧ V.cell? ⟨b0, o0 + 14 + 1, none⟩ = some (iv 900) ∧ V.cell? ⟨b0, o0 + 14 + 2, none⟩ = some (iv 2000) ∧ V.cell? ⟨b0, o0 + 14 + 3, none⟩ = some (iv 2000) ∧ V.cell? ⟨b0, o0 + 14 + 4, none⟩ = some (iv 100) ∧ V.cell? ⟨b0, o0 + 14 + 5, none⟩ = some (iv 20) ∧ V.cell? ⟨b0, o0 + 14 + 6, none⟩ = some (iv 20)) := Lq fun V ho => by
  obtain ⟨e0, e1, e2, e3, e4, e5, e6⟩ := HEE2.out W3 (belowT HB1.out X3.out)
  exact ⟨ho.cell e0 (by omega), ho.cell e1 (by omega), ho.cell e2 (by omega), ho.cell e3 (by omega), ho.cell e4 (by omega), ho.cell e5 (by omega), ho.cell e6 (by omega)⟩
 have HBG0 : Hid (Blk W3 gt 49 #[.slice none 0 0, .slice none 0 0]) := Lq (K1.out.same (X3.out.block _ K1.out.lt))
 have hgtz : gt < W3.heap.size := HBG0.out.lt
 clear hb5 gb1 gb2 hb3 k8 k7 hgb
 go_wp2_with fail
 clear hW3 hg8 q0 q7
 go_loopw [35] (fun vj wr => ∃ vW vL, ((vj = iv 0 ∧ Hid (wr.ownsRow W3.heap.size 3 1 vW 0 []) ∧ Hid (wr.ownsRow W3.heap.size 3 1 vL 0 [])) ∨ (vj = iv 1 ∧ Hid (wr.ownsRow W3.heap.size 3 1 vW 1 [iv 1000]) ∧ Hid (wr.ownsRow W3.heap.size 3 1 vL 1 [iv 12])) ∨ (vj = iv 2 ∧ Hid (wr.ownsRow W3.heap.size 3 1 vW 2 [iv 1000, iv 500]) ∧ Hid (wr.ownsRow W3.heap.size 3 1 vL 2 [iv 12, iv 5])) ∨ (vj = iv 3 ∧ Hid (wr.ownsRow W3.heap.size 3 1 vW 3 [iv 1000, iv 500, iv 2000]) ∧ Hid (wr.ownsRow W3.heap.size 3 1 vL 3 [iv 12, iv 5, iv 20]))) ∧ Hid (∀ g, vW.ownBlock = some g → vL.ownBlock ≠ some g) ∧ Hid (Blk wr gt 49 #[vW, vL]) ∧ Hid (OnlyAt W3 wr gt)) (fun vj _ => 3 - (intOf vj).toNat)
 case atStart => exact ⟨_, _, .inl ⟨rfl, Lq (World.ownsRow_nil _ _ _ _), Lq (World.ownsRow_nil _ _ _ _)⟩, Lq (fun g e => by cases e), HBG0, Lq (OnlyAt.of_below (belowR _) _)⟩
 case round =>
  clear HBG0
  obtain ⟨vW, vL, hcase, HDIS, HBG, HO⟩ := hrel
  rcases hcase with ⟨rfl, OWN, OWL⟩ | ⟨rfl, OWN, OWL⟩ | ⟨rfl, OWN, OWL⟩ | ⟨rfl, OWN, OWL⟩
  ·have hO := HO.out
   obtain ⟨d0, d1, d2, d3, d4, d5, d6⟩ := HE0.out _ hO
   obtain ⟨s0, s1⟩ := HG8.out _ hO
   have hbg := HBG.out
   obtain ⟨gx, hgx⟩ := ex wr.heap.size
   obtain ⟨W5, hW5⟩ := ex (wr.alloc (.cells #[.string ⟨#[98, 111, 119]⟩, iv 100, iv 1000, iv 1200, iv 50, iv 10, iv 12] 42))
   have hb5 : BW wr W5 := by rw [← hW5]; exact belowA (belowR _) _
   have kx : Blk W5 gx 42 #[.string ⟨#[98, 111, 119]⟩, iv 100, iv 1000, iv 1200, iv 50, iv 10, iv 12] := by rw [← hW5, ← hgx]; exact Blk.new wr 42 _
   have t0 := keepC hb5 s0
   have x0 := kx.c 0
   have x1 := kx.c 1
   have x2 := kx.c 2
   have x3 := kx.c 3
   have x4 := kx.c 4
   have x5 := kx.c 5
   have x6 := kx.c 6
   have ha := arm104_any ⟨⟨#[98, 111, 119]⟩, 100, 1000, 1200, 50, 10, 12⟩ gb 800 W5 (keepC hb5 s1) (by simp) (by omega)
   have HA : Hid (Calls Tryz.prog 104 #[.agg #[.string ⟨#[98, 111, 119]⟩, iv 100, iv 1000, iv 1200, iv 50, iv 10, iv 12], pT gb 0] W5 (Rt W5 (iv 700))) := Lq ha
   have hgxz : W3.heap.size ≤ gx := by have := hO.size; omega
   have hzx : gx < W5.heap.size := kx.lt
   have HB5 := Lq hb5
   have KX := Lq kx
   clear hb5 kx ha hO s0 s1 hbg
   have hdn : decide (((700) : Int) < 0) = false := by decide
   go_wp2_with fail
   clear hW5 d0 d1 d2 d3 d4 d5 d6 t0 x0 x1 x2 x3 x4 x5 x6
   refine HA.out.mono ?_
   rintro e V ⟨rfl, hb⟩
   have hbV := belowT HB5.out hb
   have hOW := own_below OWN.out hbV
   have hOL := own_below OWL.out hbV
   have hGT : Blk V gt 49 #[vW, vL] := HBG.out.same (hbV.block _ HBG.out.lt)
   have hKX : Blk V gx 42 #[.string ⟨#[98, 111, 119]⟩, iv 100, iv 1000, iv 1200, iv 50, iv 10, iv 12] := KX.out.same (hb.block _ KX.out.lt)
   have hg1 : some gt ≠ vW.ownBlock := fun e => by have := (hOW.lt _ e.symm).1; omega
   have hg2 : some gt ≠ vL.ownBlock := fun e => by have := (hOL.lt _ e.symm).1; omega
   have hx1 : some gx ≠ vW.ownBlock := fun e => by have := (OWN.out.lt _ e.symm).2; omega
   have hx2 : some gx ≠ vL.ownBlock := fun e => by have := (OWL.out.lt _ e.symm).2; omega
   have hSK : ∀ W, KeptO V W vW.ownBlock vL.ownBlock → W.cell? ⟨gt, 0, none⟩ = some vW ∧ W.cell? ⟨gt, 1, none⟩ = some vL ∧ W.cell? ⟨gx, 2, none⟩ = some (iv 1000) ∧ W.cell? ⟨gx, 6, none⟩ = some (iv 12) := fun W hk => ⟨(hk.blk hGT hg1 hg2).cell 0, (hk.blk hGT hg1 hg2).cell 1, (hk.blk hKX hx1 hx2).cell 2, (hk.blk hKX hx1 hx2).cell 6⟩
   have hbas : W3.heap.size ≤ V.heap.size := Nat.le_trans HO.out.size hbV.size
   have HOV := Lq (HO.out.more hbV)
   have HOWV := Lq hOW
   have HOLV := Lq hOL
   have HGTV := Lq hGT
   have HSKV := Lq hSK
   clear hb hbV hOW hOL hGT hKX hSK hgx HA
   go_upto_region 11 with fail
   refine reg24_11 (base := W3.heap.size) (gt := gt) (gx := gx) (n := 0) (vW := vW) (vL := vL) (by omega) hbas HOWV.out HOLV.out HDIS.out HGTV.out hg1 hg2 HSKV.out (fun W hb => HSKV.out W (KeptO.of_below hb)) ?_
   intro u100 u101 u102 u103 u104 u105 u106 u107 u108 u109 u110 u111 u112 u113 u114 u115 wx hwx
   obtain ⟨g, c, g2, c2, W, hT, rfl⟩ := hwx
   have hOn : OnlyAt W3 W gt := ⟨hT.kept.os.trans HOV.out.os, hT.kept.tape.trans HOV.out.tape, hT.kept.output.trans HOV.out.output, Nat.le_trans HOV.out.size hT.kept.size, fun k hk hne => (hT.kept.block k (Nat.lt_of_lt_of_le hk HOV.out.size) (fun e => by have := (HOWV.out.lt _ e.symm).1; omega) (fun e => by have := (HOLV.out.lt _ e.symm).1; omega)).trans (HOV.out.block k hk hne)⟩
   have hgg1 : g ≠ gt := fun e => by have : W3.heap.size ≤ g := (hT.ow.lt _ (rfl : (Value.slice (some ⟨g, 0, none⟩) (0 + 1) c).ownBlock = some g)).1; omega
   have hgg2 : g2 ≠ gt := fun e => by have : W3.heap.size ≤ g2 := (hT.ol.lt _ (rfl : (Value.slice (some ⟨g2, 0, none⟩) (0 + 1) c2).ownBlock = some g2)).1; omega
   obtain ⟨wx, hwx⟩ := ex ((W.setCell ⟨gt, 0, none⟩ (.slice (some ⟨g, 0, none⟩) (0 + 1) c)).setCell ⟨gt, 1, none⟩ (.slice (some ⟨g2, 0, none⟩) (0 + 1) c2))
   have hWx : OnlyAt W wx gt := by rw [← hwx]; exact (OnlyAt.of_set (belowR W) gt 0 _).set 1 _
   have HRW : Hid (wx.ownsRow W3.heap.size 3 1 (.slice (some ⟨g, 0, none⟩) 1 c) 1 [iv 1000]) := Lq (hWx.own hT.ow (by simp [Value.ownBlock]; exact hgg1))
   have HRL : Hid (wx.ownsRow W3.heap.size 3 1 (.slice (some ⟨g2, 0, none⟩) 1 c2) 1 [iv 12]) := Lq (hWx.own hT.ol (by simp [Value.ownBlock]; exact hgg2))
   have HRD : Hid (∀ x, (Value.slice (some ⟨g, 0, none⟩) 1 c).ownBlock = some x → (Value.slice (some ⟨g2, 0, none⟩) 1 c2).ownBlock ≠ some x) := Lq fun x e => hT.dis x e
   have hGW : Blk W gt 49 #[vW, vL] := hT.kept.blk HGTV.out hg1 hg2
   have HRG : Hid (Blk wx gt 49 #[.slice (some ⟨g, 0, none⟩) 1 c, .slice (some ⟨g2, 0, none⟩) 1 c2]) := Lq (by rw [← hwx]; exact (hGW.set_ 0 _).set_ 1 _)
   have HRO := Lq (hOn.trans hWx)
   rw [hwx]
   clear hT hOn hgg1 hgg2 hwx hWx hGW
   go_wp2_with fail
   go_roundw
   case rel => exact ⟨_, _, .inr (.inl ⟨rfl, HRW, HRL⟩), HRD, HRG, HRO⟩
   case measure => simp [intOf]
  ·have hO := HO.out
   obtain ⟨d0, d1, d2, d3, d4, d5, d6⟩ := HE1.out _ hO
   obtain ⟨s0, s1⟩ := HG8.out _ hO
   have hbg := HBG.out
   obtain ⟨gx, hgx⟩ := ex wr.heap.size
   obtain ⟨W5, hW5⟩ := ex (wr.alloc (.cells #[.string ⟨#[109, 105, 100]⟩, iv 400, iv 500, iv 600, iv 100, iv 4, iv 5] 42))
   have hb5 : BW wr W5 := by rw [← hW5]; exact belowA (belowR _) _
   have kx : Blk W5 gx 42 #[.string ⟨#[109, 105, 100]⟩, iv 400, iv 500, iv 600, iv 100, iv 4, iv 5] := by rw [← hW5, ← hgx]; exact Blk.new wr 42 _
   have t0 := keepC hb5 s0
   have x0 := kx.c 0
   have x1 := kx.c 1
   have x2 := kx.c 2
   have x3 := kx.c 3
   have x4 := kx.c 4
   have x5 := kx.c 5
   have x6 := kx.c 6
   have ha := arm104_any ⟨⟨#[109, 105, 100]⟩, 400, 500, 600, 100, 4, 5⟩ gb 800 W5 (keepC hb5 s1) (by simp) (by omega)
   have HA : Hid (Calls Tryz.prog 104 #[.agg #[.string ⟨#[109, 105, 100]⟩, iv 400, iv 500, iv 600, iv 100, iv 4, iv 5], pT gb 0] W5 (Rt W5 (iv 400))) := Lq ha
   have hgxz : W3.heap.size ≤ gx := by have := hO.size; omega
   have hzx : gx < W5.heap.size := kx.lt
   have HB5 := Lq hb5
   have KX := Lq kx
   clear hb5 kx ha hO s0 s1 hbg
   have hdn : decide (((400) : Int) < 0) = false := by decide
   go_wp2_with fail
   clear hW5 d0 d1 d2 d3 d4 d5 d6 t0 x0 x1 x2 x3 x4 x5 x6
   refine HA.out.mono ?_
   rintro e V ⟨rfl, hb⟩
   have hbV := belowT HB5.out hb
   have hOW := own_below OWN.out hbV
   have hOL := own_below OWL.out hbV
   have hGT : Blk V gt 49 #[vW, vL] := HBG.out.same (hbV.block _ HBG.out.lt)
   have hKX : Blk V gx 42 #[.string ⟨#[109, 105, 100]⟩, iv 400, iv 500, iv 600, iv 100, iv 4, iv 5] := KX.out.same (hb.block _ KX.out.lt)
   have hg1 : some gt ≠ vW.ownBlock := fun e => by have := (hOW.lt _ e.symm).1; omega
   have hg2 : some gt ≠ vL.ownBlock := fun e => by have := (hOL.lt _ e.symm).1; omega
   have hx1 : some gx ≠ vW.ownBlock := fun e => by have := (OWN.out.lt _ e.symm).2; omega
   have hx2 : some gx ≠ vL.ownBlock := fun e => by have := (OWL.out.lt _ e.symm).2; omega
   have hSK : ∀ W, KeptO V W vW.ownBlock vL.ownBlock → W.cell? ⟨gt, 0, none⟩ = some vW ∧ W.cell? ⟨gt, 1, none⟩ = some vL ∧ W.cell? ⟨gx, 2, none⟩ = some (iv 500) ∧ W.cell? ⟨gx, 6, none⟩ = some (iv 5) := fun W hk => ⟨(hk.blk hGT hg1 hg2).cell 0, (hk.blk hGT hg1 hg2).cell 1, (hk.blk hKX hx1 hx2).cell 2, (hk.blk hKX hx1 hx2).cell 6⟩
   have hbas : W3.heap.size ≤ V.heap.size := Nat.le_trans HO.out.size hbV.size
   have HOV := Lq (HO.out.more hbV)
   have HOWV := Lq hOW
   have HOLV := Lq hOL
   have HGTV := Lq hGT
   have HSKV := Lq hSK
   clear hb hbV hOW hOL hGT hKX hSK hgx HA
   go_upto_region 11 with fail
   refine reg24_11 (base := W3.heap.size) (gt := gt) (gx := gx) (n := 1) (vW := vW) (vL := vL) (by omega) hbas HOWV.out HOLV.out HDIS.out HGTV.out hg1 hg2 HSKV.out (fun W hb => HSKV.out W (KeptO.of_below hb)) ?_
   intro u100 u101 u102 u103 u104 u105 u106 u107 u108 u109 u110 u111 u112 u113 u114 u115 wx hwx
   obtain ⟨g, c, g2, c2, W, hT, rfl⟩ := hwx
   have hOn : OnlyAt W3 W gt := ⟨hT.kept.os.trans HOV.out.os, hT.kept.tape.trans HOV.out.tape, hT.kept.output.trans HOV.out.output, Nat.le_trans HOV.out.size hT.kept.size, fun k hk hne => (hT.kept.block k (Nat.lt_of_lt_of_le hk HOV.out.size) (fun e => by have := (HOWV.out.lt _ e.symm).1; omega) (fun e => by have := (HOLV.out.lt _ e.symm).1; omega)).trans (HOV.out.block k hk hne)⟩
   have hgg1 : g ≠ gt := fun e => by have : W3.heap.size ≤ g := (hT.ow.lt _ (rfl : (Value.slice (some ⟨g, 0, none⟩) (1 + 1) c).ownBlock = some g)).1; omega
   have hgg2 : g2 ≠ gt := fun e => by have : W3.heap.size ≤ g2 := (hT.ol.lt _ (rfl : (Value.slice (some ⟨g2, 0, none⟩) (1 + 1) c2).ownBlock = some g2)).1; omega
   obtain ⟨wx, hwx⟩ := ex ((W.setCell ⟨gt, 0, none⟩ (.slice (some ⟨g, 0, none⟩) (1 + 1) c)).setCell ⟨gt, 1, none⟩ (.slice (some ⟨g2, 0, none⟩) (1 + 1) c2))
   have hWx : OnlyAt W wx gt := by rw [← hwx]; exact (OnlyAt.of_set (belowR W) gt 0 _).set 1 _
   have HRW : Hid (wx.ownsRow W3.heap.size 3 1 (.slice (some ⟨g, 0, none⟩) 2 c) 2 [iv 1000, iv 500]) := Lq (hWx.own hT.ow (by simp [Value.ownBlock]; exact hgg1))
   have HRL : Hid (wx.ownsRow W3.heap.size 3 1 (.slice (some ⟨g2, 0, none⟩) 2 c2) 2 [iv 12, iv 5]) := Lq (hWx.own hT.ol (by simp [Value.ownBlock]; exact hgg2))
   have HRD : Hid (∀ x, (Value.slice (some ⟨g, 0, none⟩) 2 c).ownBlock = some x → (Value.slice (some ⟨g2, 0, none⟩) 2 c2).ownBlock ≠ some x) := Lq fun x e => hT.dis x e
   have hGW : Blk W gt 49 #[vW, vL] := hT.kept.blk HGTV.out hg1 hg2
   have HRG : Hid (Blk wx gt 49 #[.slice (some ⟨g, 0, none⟩) 2 c, .slice (some ⟨g2, 0, none⟩) 2 c2]) := Lq (by rw [← hwx]; exact (hGW.set_ 0 _).set_ 1 _)
   have HRO := Lq (hOn.trans hWx)
   rw [hwx]
   clear hT hOn hgg1 hgg2 hwx hWx hGW
   go_wp2_with fail
   go_roundw
   case rel => exact ⟨_, _, .inr (.inr (.inl ⟨rfl, HRW, HRL⟩)), HRD, HRG, HRO⟩
   case measure => simp [intOf]
  ·have hO := HO.out
   obtain ⟨d0, d1, d2, d3, d4, d5, d6⟩ := HE2.out _ hO
   obtain ⟨s0, s1⟩ := HG8.out _ hO
   have hbg := HBG.out
   obtain ⟨gx, hgx⟩ := ex wr.heap.size
   obtain ⟨W5, hW5⟩ := ex (wr.alloc (.cells #[.string ⟨#[115, 116, 101, 114, 110]⟩, iv 900, iv 2000, iv 2000, iv 100, iv 20, iv 20] 42))
   have hb5 : BW wr W5 := by rw [← hW5]; exact belowA (belowR _) _
   have kx : Blk W5 gx 42 #[.string ⟨#[115, 116, 101, 114, 110]⟩, iv 900, iv 2000, iv 2000, iv 100, iv 20, iv 20] := by rw [← hW5, ← hgx]; exact Blk.new wr 42 _
   have t0 := keepC hb5 s0
   have x0 := kx.c 0
   have x1 := kx.c 1
   have x2 := kx.c 2
   have x3 := kx.c 3
   have x4 := kx.c 4
   have x5 := kx.c 5
   have x6 := kx.c 6
   have ha := arm104_any ⟨⟨#[115, 116, 101, 114, 110]⟩, 900, 2000, 2000, 100, 20, 20⟩ gb 800 W5 (keepC hb5 s1) (by simp) (by omega)
   have HA : Hid (Calls Tryz.prog 104 #[.agg #[.string ⟨#[115, 116, 101, 114, 110]⟩, iv 900, iv 2000, iv 2000, iv 100, iv 20, iv 20], pT gb 0] W5 (Rt W5 (iv (-100)))) := Lq ha
   have hgxz : W3.heap.size ≤ gx := by have := hO.size; omega
   have hzx : gx < W5.heap.size := kx.lt
   have HB5 := Lq hb5
   have KX := Lq kx
   clear hb5 kx ha hO s0 s1 hbg
   have hdn : decide (((-100) : Int) < 0) = true := by decide
   go_wp2_with fail
   clear hW5 d0 d1 d2 d3 d4 d5 d6 t0 x0 x1 x2 x3 x4 x5 x6
   refine HA.out.mono ?_
   rintro e V ⟨rfl, hb⟩
   have hbV := belowT HB5.out hb
   have hOW := own_below OWN.out hbV
   have hOL := own_below OWL.out hbV
   have hGT : Blk V gt 49 #[vW, vL] := HBG.out.same (hbV.block _ HBG.out.lt)
   have hKX : Blk V gx 42 #[.string ⟨#[115, 116, 101, 114, 110]⟩, iv 900, iv 2000, iv 2000, iv 100, iv 20, iv 20] := KX.out.same (hb.block _ KX.out.lt)
   have hg1 : some gt ≠ vW.ownBlock := fun e => by have := (hOW.lt _ e.symm).1; omega
   have hg2 : some gt ≠ vL.ownBlock := fun e => by have := (hOL.lt _ e.symm).1; omega
   have hx1 : some gx ≠ vW.ownBlock := fun e => by have := (OWN.out.lt _ e.symm).2; omega
   have hx2 : some gx ≠ vL.ownBlock := fun e => by have := (OWL.out.lt _ e.symm).2; omega
   have hSK : ∀ W, KeptO V W vW.ownBlock vL.ownBlock → W.cell? ⟨gt, 0, none⟩ = some vW ∧ W.cell? ⟨gt, 1, none⟩ = some vL ∧ W.cell? ⟨gx, 3, none⟩ = some (iv 2000) ∧ W.cell? ⟨gx, 5, none⟩ = some (iv 20) := fun W hk => ⟨(hk.blk hGT hg1 hg2).cell 0, (hk.blk hGT hg1 hg2).cell 1, (hk.blk hKX hx1 hx2).cell 3, (hk.blk hKX hx1 hx2).cell 5⟩
   have hbas : W3.heap.size ≤ V.heap.size := Nat.le_trans HO.out.size hbV.size
   have HOV := Lq (HO.out.more hbV)
   have HOWV := Lq hOW
   have HOLV := Lq hOL
   have HGTV := Lq hGT
   have HSKV := Lq hSK
   clear hb hbV hOW hOL hGT hKX hSK hgx HA
   go_upto_region 10 with fail
   refine reg24_10 (base := W3.heap.size) (gt := gt) (gx := gx) (n := 2) (vW := vW) (vL := vL) (by omega) hbas HOWV.out HOLV.out HDIS.out HGTV.out hg1 hg2 HSKV.out (fun W hb => HSKV.out W (KeptO.of_below hb)) ?_
   intro u100 u101 u102 u103 u104 u105 u106 u107 u108 u109 u110 u111 u112 u113 u114 u115 wx hwx
   obtain ⟨g, c, g2, c2, W, hT, rfl⟩ := hwx
   have hOn : OnlyAt W3 W gt := ⟨hT.kept.os.trans HOV.out.os, hT.kept.tape.trans HOV.out.tape, hT.kept.output.trans HOV.out.output, Nat.le_trans HOV.out.size hT.kept.size, fun k hk hne => (hT.kept.block k (Nat.lt_of_lt_of_le hk HOV.out.size) (fun e => by have := (HOWV.out.lt _ e.symm).1; omega) (fun e => by have := (HOLV.out.lt _ e.symm).1; omega)).trans (HOV.out.block k hk hne)⟩
   have hgg1 : g ≠ gt := fun e => by have : W3.heap.size ≤ g := (hT.ow.lt _ (rfl : (Value.slice (some ⟨g, 0, none⟩) (2 + 1) c).ownBlock = some g)).1; omega
   have hgg2 : g2 ≠ gt := fun e => by have : W3.heap.size ≤ g2 := (hT.ol.lt _ (rfl : (Value.slice (some ⟨g2, 0, none⟩) (2 + 1) c2).ownBlock = some g2)).1; omega
   obtain ⟨wx, hwx⟩ := ex ((W.setCell ⟨gt, 0, none⟩ (.slice (some ⟨g, 0, none⟩) (2 + 1) c)).setCell ⟨gt, 1, none⟩ (.slice (some ⟨g2, 0, none⟩) (2 + 1) c2))
   have hWx : OnlyAt W wx gt := by rw [← hwx]; exact (OnlyAt.of_set (belowR W) gt 0 _).set 1 _
   have HRW : Hid (wx.ownsRow W3.heap.size 3 1 (.slice (some ⟨g, 0, none⟩) 3 c) 3 [iv 1000, iv 500, iv 2000]) := Lq (hWx.own hT.ow (by simp [Value.ownBlock]; exact hgg1))
   have HRL : Hid (wx.ownsRow W3.heap.size 3 1 (.slice (some ⟨g2, 0, none⟩) 3 c2) 3 [iv 12, iv 5, iv 20]) := Lq (hWx.own hT.ol (by simp [Value.ownBlock]; exact hgg2))
   have HRD : Hid (∀ x, (Value.slice (some ⟨g, 0, none⟩) 3 c).ownBlock = some x → (Value.slice (some ⟨g2, 0, none⟩) 3 c2).ownBlock ≠ some x) := Lq fun x e => hT.dis x e
   have hGW : Blk W gt 49 #[vW, vL] := hT.kept.blk HGTV.out hg1 hg2
   have HRG : Hid (Blk wx gt 49 #[.slice (some ⟨g, 0, none⟩) 3 c, .slice (some ⟨g2, 0, none⟩) 3 c2]) := Lq (by rw [← hwx]; exact (hGW.set_ 0 _).set_ 1 _)
   have HRO := Lq (hOn.trans hWx)
   rw [hwx]
   clear hT hOn hgg1 hgg2 hwx hWx hGW
   go_wp2_with fail
   go_roundw
   case rel => exact ⟨_, _, .inr (.inr (.inr (⟨rfl, HRW, HRL⟩))), HRD, HRG, HRO⟩
   case measure => simp [intOf]
  ·have hbg := HBG.out
   have hO := HO.out
   obtain ⟨gW, cW, rfl, hgW, _, _⟩ := own_form OWN.out (by omega)
   obtain ⟨gL, cL, rfl, hgL, _, _⟩ := own_form OWL.out (by omega)
   have y0 := hbg.c 0
   have y1 := hbg.c 1
   have f0 := hbg.frozen 0
   have f1 := hbg.frozen 1
   have hl := hbg.lt
   have hbz := hO.below (belowT HB1.out X3.out) (by omega)
   clear hbg hO
   go_wp2_with fail
   obtain ⟨wx, hwx⟩ := ex ((wr.setCell ⟨gt, 0, none⟩ (.slice (some ⟨gW, 0, none⟩) 3 cW)).setCell ⟨gt, 1, none⟩ (.slice (some ⟨gL, 0, none⟩) 3 cL))
   have hWx : OnlyAt wr wx gt := by rw [← hwx]; exact (OnlyAt.of_set (belowR wr) gt 0 _).set 1 _
   have kx : Blk wx gt 49 #[.slice (some ⟨gW, 0, none⟩) 3 cW, .slice (some ⟨gL, 0, none⟩) 3 cL] := by rw [← hwx]; exact (HBG.out.set_ 0 _).set_ 1 _
   have hbx : BW w wx := by rw [← hwx]; exact belowS (belowS hbz (by dsimp only; omega) _) (by dsimp only; omega) _
   have hrW := hWx.own OWN.out (by simp [Value.ownBlock]; omega)
   have hrL := hWx.own OWL.out (by simp [Value.ownBlock]; omega)
   rw [hwx]
   have y0 := kx.c 0
   have y1 := kx.c 1
   clear hwx f0 f1
   refine bodyPost_ret (v := .tuple #[.agg #[.slice (some ⟨gW, 0, none⟩) 3 cW, .slice (some ⟨gL, 0, none⟩) 3 cL], iv 3, iv 0]) (by simp [results, Tryz.results24, go_sem, y0, y1]) rfl ?_
   exact ⟨hbx, some ⟨gW, 0, none⟩, cW, some ⟨gL, 0, none⟩, cL, rfl, own_rdP (xs := heavyW) hrW rfl, own_rdP (xs := heavyL) hrL rfl⟩
@[go_sem] theorem eq62 (a b c d e f : Int) (w : World) : (Op.equalIn 10000 62 (.agg #[iv a, iv b, iv c]) (.agg #[iv d, iv e, iv f])).run Tryz.prog w = .ok (a == d && (b == e && c == f)) w := by
 have u3 := Tryz.underlying3
 have a3 := Tryz.isAgg3
 have z3 := Tryz.sizeOf3
 have hS : Tryz.prog.underlying 62 = some (.struct (Tryz.prog.fieldsOf 62)) := by kernel_rfl
 have hp : Tryz.prog.stoodInHeld 62 = false := by kernel_rfl
 rw [show (10000 : Nat) = 9999 + 1 from rfl, run_equalIn_agg w 9999 62 _ _ hS hp]
 simp only [Program.fieldsOf, Tryz.underlying62]
 go_simp
 by_cases h1 : a = d <;> by_cases h2 : b = e <;> by_cases h3 : c = f <;> simp [h1, h2, h3]
theorem H5Rd.on {w w' : World} {h : StH} {A : Option Addr} {cap : Nat} (H : H5Rd w w.heap.size h A cap) (hb : BW w w') : H5Rd w' w'.heap.size h A cap := (H.below hb (Nat.le_refl _)).more hb.size
theorem T5Rd.on {w w' : World} {a b : List Int} {A B : Option Addr} (H : T5Rd w w.heap.size a b A B) (hb : BW w w') : T5Rd w' w'.heap.size a b A B := (H.below hb (Nat.le_refl _)).more hb.size
section
variable {A A1 A2 : Option Addr} {w : World}
theorem balance5 (hH : H5Rd w w.heap.size hull5 A 3) (hT : T5Rd w w.heap.size heavyW heavyL A1 A2) : Calls Tryz.prog 14 #[.agg #[.slice A 3 3, iv 200, iv 800], .agg #[.slice A1 3 3, .slice A2 3 3], iv 134] w (Rt w (.tuple #[.agg #[iv 1642, iv 990800, iv (-5600)], iv 0])) := by
 have := balance14_any hull5 A _ 3 heavyW heavyL A1 A2 3 3 134 w hH hT (Nat.le_refl _) hull5_chk heavy_truth (by omega) (by omega)
 rw [val_in134.1, val_in134.2.1, val_in134.2.2] at this
 exact this
theorem least5 (hH : H5Rd w w.heap.size hull5 A 3) : Calls Tryz.prog 15 #[.agg #[.slice A 3 3, iv 200, iv 800], iv 150] w (Rt w (.tuple #[.agg #[iv 1050, iv 730000, iv (-140000)], iv 0])) := by
 have := least15_any hull5 A _ 3 150 w hH (Nat.le_refl _) hull5_chk (by omega) (by omega)
 rw [val_least150.1, val_least150.2.1, val_least150.2.2] at this
 exact this
theorem why5 (hH : H5Rd w w.heap.size hull5 A 3) : Calls Tryz.prog 16 #[.agg #[.slice A 3 3, iv 200, iv 800], .agg #[iv 0, iv 150]] w (Rt w (.tuple #[iv 3, iv 134, iv 0])) := by
 have := why16_any hull5 A _ 3 0 150 w hH (Nat.le_refl _) hull5_chk (by omega) (by omega) (by omega)
 rw [first150] at this
 exact this
theorem show5 (hH : H5Rd w w.heap.size hull5 A 3) : Calls Tryz.prog 24 #[.agg #[.slice A 3 3, iv 200, iv 800], iv 134] w fun e w' => BW w w' ∧ ∃ A1 c1 A2 c2, e = .returned (.tuple #[.agg #[.slice A1 3 c1, .slice A2 3 c2], iv 3, iv 0]) ∧ Rd1 iv w' w'.heap.size A1 heavyW ∧ Rd1 iv w' w'.heap.size A2 heavyL := show24_any A _ w hH (Nat.le_refl _)
theorem forces5 (hH : H5Rd w w.heap.size hull5 A 3) (hT : T5Rd w w.heap.size heavyW heavyL A1 A2) : Calls Tryz.prog 17 #[.agg #[.slice A 3 3, iv 200, iv 800], .agg #[.slice A1 3 3, .slice A2 3 3], iv 0] w fun e w' => BW w w' ∧ ∃ g t, e = .returned (.tuple #[.slice (some ⟨g, 0, none⟩) 2 2, iv 0]) ∧ Blk w' g t #[iv 200, iv 700000, iv 800, iv 1400000] := by
 have := forces17_any hull5 A _ 3 heavyW heavyL A1 A2 3 3 0 w hH hT (Nat.le_refl _) hull5_chk heavy_truth (by omega) (by omega) (by rw [val_in0.1, val_in0.2.1, val_in0.2.2]; decide)
 rw [val_in0.2.1, val_in0.2.2] at this
 exact this
theorem bears5_2 (hH : H5Rd w w.heap.size hull5 A 3) (hT : T5Rd w w.heap.size heavyW heavyL A1 A2) {bl : Nat} (hL : Blk w bl 89 #[iv 300, iv 525000, iv 700, iv 1575000]) : Calls Tryz.prog 25 #[.agg #[.slice A 3 3, iv 200, iv 800], .agg #[.slice A1 3 3, .slice A2 3 3], iv 0, .slice (some ⟨bl, 0, none⟩) 2 2] w (Rt w (.tuple #[.bool true, iv 0])) :=
 bears25_2 A A1 A2 _ bl w hH hT (Nat.le_refl _) ⟨hL.cell 0, hL.cell 1, hL.cell 2, hL.cell 3⟩
theorem bears5_1 (hH : H5Rd w w.heap.size hull5 A 3) (hT : T5Rd w w.heap.size heavyW heavyL A1 A2) {bl : Nat} (hL : Blk w bl 89 #[iv 300, iv 525000, iv 700, iv 1575000]) : Calls Tryz.prog 25 #[.agg #[.slice A 3 3, iv 200, iv 800], .agg #[.slice A1 3 3, .slice A2 3 3], iv 0, .slice (some ⟨bl, 0, none⟩) 1 2] w (Rt w (.tuple #[.bool false, iv 0])) :=
 bears25_1 A A1 A2 _ bl w hH hT (Nat.le_refl _) ⟨hL.cell 0, hL.cell 1, hL.cell 2, hL.cell 3⟩
theorem same5 {A B C D : Option Addr} {c d : Nat} (h1 : Rd1 iv w w.heap.size A heavyW) (h2 : Rd1 iv w w.heap.size B heavyL) (hT : T5Rd w w.heap.size heavyW heavyL C D) : Calls Tryz.prog 29 #[.agg #[.slice A 3 c, .slice B 3 d], .agg #[.slice C 3 3, .slice D 3 3]] w (Rt w (.bool true)) :=
 same29_any heavyW heavyL heavyW heavyL A B C D _ c d 3 3 w h1 h2 hT.ws hT.ls (by simp [heavyW]) (by simp [heavyW]) rfl rfl (by simp [heavyL]) (Nat.le_refl _)
theorem alike5 {g g2 : Nat} {t t2 : TypeId} (h1 : Blk w g t #[iv 200, iv 700000, iv 800, iv 1400000]) (h2 : Blk w g2 t2 #[iv 200, iv 700000, iv 800, iv 1400000]) : Calls Tryz.prog 30 #[.slice (some ⟨g, 0, none⟩) 2 2, .slice (some ⟨g2, 0, none⟩) 2 2] w (Rt w (.bool true)) := by
 have := alike_any (some ⟨g, 0, none⟩) (some ⟨g2, 0, none⟩) [(200, 700000), (800, 1400000)] [(200, 700000), (800, 1400000)] w.heap.size 2 2 w (Blk.rdN encSp_len (xs := [(200, 700000), (800, 1400000)]) h1 h1.lt) (Blk.rdN encSp_len (xs := [(200, 700000), (800, 1400000)]) h2 h2.lt) (by simp) (by simp) (Nat.le_refl _)
 rw [decide_eq_true rfl] at this
 exact this
theorem tide5 (hH : H5Rd w w.heap.size hull5 A 3) : Calls Tryz.prog 27 #[.agg #[.slice A 3 3, iv 200, iv 800]] w (Rt w (.tuple #[iv 133, iv 0])) := tide27_any hull5 A _ 3 w hH (Nat.le_refl _) hull5_chk first1000
theorem ballast5_1 (hH : H5Rd w w.heap.size hull5 A 3) : Calls Tryz.prog 28 #[.agg #[.slice A 3 3, iv 200, iv 800], iv 1, .agg #[iv 0, iv 150]] w (Rt w (.tuple #[iv 350, iv 0])) := ballast28_1 A _ w hH (Nat.le_refl _)
theorem ballast5_0 (hH : H5Rd w w.heap.size hull5 A 3) : Calls Tryz.prog 28 #[.agg #[.slice A 3 3, iv 200, iv 800], iv 0, .agg #[iv 0, iv 150]] w (Rt w (.tuple #[iv 0, iv 2])) := ballast28_0 A _ w hH (Nat.le_refl _)
end
theorem awake5_any (w : World) : Calls Tryz.prog 5 #[] w (Rt w (.bool true)) := by
 have HH := Lq hull21_any
 have HV := Lq heavy22_any
 have HSP := Lq span23_any
 go_enter Tryz.func5, Tryz.ntmps5
 go_wp2_with fail
 refine (HH.out _).mono ?_
 rintro e w1 ⟨hb, A1, rfl, hh⟩
 have Z1 : Hid (BW w w1) := Lq (hb)
 have H1 := Lq hh
 clear hh
 clear hb
 go_wp2_with fail
 refine (HV.out _).mono ?_
 rintro e w2 ⟨hb, B2, C2, rfl, hh⟩
 have Z2 : Hid (BW w1 w2) := Lq (hb)
 have V2 := Lq hh
 clear hh
 clear hb
 go_wp2_with fail
 refine (balance5 (H1.out.on Z2.out) V2.out).mono ?_
 rintro e w3 ⟨rfl, hb⟩
 have Z3 : Hid (BW w2 w3) := Lq (hb)
 clear hb
 go_wp2_with fail
 refine (HH.out _).mono ?_
 rintro e w4 ⟨hb, A4, rfl, hh⟩
 have Z4 : Hid (BW w3 w4) := Lq (belowT (belowA (belowR w3) _) hb)
 have H4 := Lq hh
 have BK1 : Hid (Blk w4 w3.heap.size 62 #[iv 1642, iv 990800, iv (-5600)]) := Lq ((Blk.new w3 62 _).same (hb.block _ (by simp)))
 clear hh
 clear hb
 go_wp2_with fail
 refine (least5 H4.out).mono ?_
 rintro e w5 ⟨rfl, hb⟩
 have Z5 : Hid (BW w4 w5) := Lq (hb)
 clear hb
 go_wp2_with fail
 refine (HH.out _).mono ?_
 rintro e w6 ⟨hb, A6, rfl, hh⟩
 have Z6 : Hid (BW w5 w6) := Lq (belowT (belowA (belowR w5) _) hb)
 have H6 := Lq hh
 have BK2 : Hid (Blk w6 w5.heap.size 62 #[iv 1050, iv 730000, iv (-140000)]) := Lq ((Blk.new w5 62 _).same (hb.block _ (by simp)))
 clear hh
 clear hb
 go_wp2_with fail
 refine (HSP.out _ _ _).mono ?_
 rintro e w7 ⟨rfl, hb⟩
 have Z7 : Hid (BW w6 w7) := Lq (hb)
 clear hb
 go_wp2_with fail
 refine (why5 (H6.out.on Z7.out)).mono ?_
 rintro e w8 ⟨rfl, hb⟩
 have Z8 : Hid (BW w7 w8) := Lq (hb)
 clear hb
 go_wp2_with fail
 refine (HH.out _).mono ?_
 rintro e w9 ⟨hb, A9, rfl, hh⟩
 have Z9 : Hid (BW w8 w9) := Lq (hb)
 have H9 := Lq hh
 clear hh
 clear hb
 go_wp2_with fail
 refine (show5 H9.out).mono ?_
 rintro e w10 ⟨hb, SA, sc, SB, sd, rfl, hs1, hs2⟩
 have Z10 : Hid (BW w9 w10) := Lq (hb)
 have SH : Hid (Rd1 iv w10 w10.heap.size SA heavyW ∧ Rd1 iv w10 w10.heap.size SB heavyL) := Lq ⟨hs1, hs2⟩
 clear hs1 hs2
 clear hb
 go_wp2_with fail
 refine (HH.out _).mono ?_
 rintro e w11 ⟨hb, A11, rfl, hh⟩
 have Z11 : Hid (BW w10 w11) := Lq (belowT (belowA (belowR w10) _) hb)
 have H11 := Lq hh
 have BK4 : Hid (Blk w11 w10.heap.size 49 #[.slice SA 3 sc, .slice SB 3 sd]) := Lq ((Blk.new w10 49 _).same (hb.block _ (by simp)))
 clear hh
 clear hb
 go_wp2_with fail
 refine (HV.out _).mono ?_
 rintro e w12 ⟨hb, B12, C12, rfl, hh⟩
 have Z12 : Hid (BW w11 w12) := Lq (hb)
 have V12 := Lq hh
 clear hh
 clear hb
 go_wp2_with fail
 refine (forces5 (H11.out.on Z12.out) V12.out).mono ?_
 rintro e w13 ⟨hb, fg, ft, rfl, hf⟩
 have Z13 : Hid (BW w12 w13) := Lq (hb)
 have BF := Lq hf
 clear hf
 clear hb
 go_wp2_with fail
 refine (HH.out _).mono ?_
 rintro e w14 ⟨hb, A14, rfl, hh⟩
 have Z14 : Hid (BW w13 w14) := Lq (hb)
 have H14 := Lq hh
 clear hh
 clear hb
 go_wp2_with fail
 refine (HV.out _).mono ?_
 rintro e w15 ⟨hb, B15, C15, rfl, hh⟩
 have Z15 : Hid (BW w14 w15) := Lq (hb)
 have V15 := Lq hh
 clear hh
 clear hb
 go_wp2_with fail
 refine (two26_any _).mono ?_
 rintro e w16 ⟨rfl, hb⟩
 have Z16 : Hid (BW w15 w16) := Lq (by rw [hb]; exact belowA (belowR _) _)
 have BT16 : Hid (Blk w16 w15.heap.size 89 #[iv 300, iv 525000, iv 700, iv 1575000]) := Lq (by rw [hb]; exact Blk.new w15 89 _)
 clear hb
 go_wp2_with fail
 refine (bears5_2 ((H14.out.on Z15.out).on Z16.out) (V15.out.on Z16.out) BT16.out).mono ?_
 rintro e w17 ⟨rfl, hb⟩
 have Z17 : Hid (BW w16 w17) := Lq (hb)
 clear hb
 go_wp2_with fail
 refine (HH.out _).mono ?_
 rintro e w18 ⟨hb, A18, rfl, hh⟩
 have Z18 : Hid (BW w17 w18) := Lq (hb)
 have H18 := Lq hh
 clear hh
 clear hb
 go_wp2_with fail
 refine (HV.out _).mono ?_
 rintro e w19 ⟨hb, B19, C19, rfl, hh⟩
 have Z19 : Hid (BW w18 w19) := Lq (hb)
 have V19 := Lq hh
 clear hh
 clear hb
 go_wp2_with fail
 refine (two26_any _).mono ?_
 rintro e w20 ⟨rfl, hb⟩
 have Z20 : Hid (BW w19 w20) := Lq (by rw [hb]; exact belowA (belowR _) _)
 have BT20 : Hid (Blk w20 w19.heap.size 89 #[iv 300, iv 525000, iv 700, iv 1575000]) := Lq (by rw [hb]; exact Blk.new w19 89 _)
 clear hb
 have hslc : ∀ W, (Instr.slice 67 (.slice (some ⟨w19.heap.size, 0, none⟩) 2 2) none (some (iv 1)) none).run Tryz.prog W = .ok (.slice (some ⟨w19.heap.size, 0, none⟩) 1 2) W := fun W => by simp [Instr.slice, run_underlying Tryz.underlying67, go_sem]
 go_wp2_with fail
 refine (bears5_1 ((H18.out.on Z19.out).on Z20.out) (V19.out.on Z20.out) BT20.out).mono ?_
 rintro e w21 ⟨rfl, hb⟩
 have Z21 : Hid (BW w20 w21) := Lq (hb)
 clear hb
 go_wp2_with fail
 refine (HH.out _).mono ?_
 rintro e w22 ⟨hb, A22, rfl, hh⟩
 have Z22 : Hid (BW w21 w22) := Lq (hb)
 have H22 := Lq hh
 clear hh
 clear hb
 go_wp2_with fail
 refine (tide5 H22.out).mono ?_
 rintro e w23 ⟨rfl, hb⟩
 have Z23 : Hid (BW w22 w23) := Lq (hb)
 clear hb
 go_wp2_with fail
 refine (HH.out _).mono ?_
 rintro e w24 ⟨hb, A24, rfl, hh⟩
 have Z24 : Hid (BW w23 w24) := Lq (hb)
 have H24 := Lq hh
 clear hh
 clear hb
 go_wp2_with fail
 refine (HSP.out _ _ _).mono ?_
 rintro e w25 ⟨rfl, hb⟩
 have Z25 : Hid (BW w24 w25) := Lq (hb)
 clear hb
 go_wp2_with fail
 refine (ballast5_1 (H24.out.on Z25.out)).mono ?_
 rintro e w26 ⟨rfl, hb⟩
 have Z26 : Hid (BW w25 w26) := Lq (hb)
 clear hb
 go_wp2_with fail
 refine (HH.out _).mono ?_
 rintro e w27 ⟨hb, A27, rfl, hh⟩
 have Z27 : Hid (BW w26 w27) := Lq (hb)
 have H27 := Lq hh
 clear hh
 clear hb
 go_wp2_with fail
 refine (HSP.out _ _ _).mono ?_
 rintro e w28 ⟨rfl, hb⟩
 have Z28 : Hid (BW w27 w28) := Lq (hb)
 clear hb
 go_wp2_with fail
 refine (ballast5_0 (H27.out.on Z28.out)).mono ?_
 rintro e w29 ⟨rfl, hb⟩
 have Z29 : Hid (BW w28 w29) := Lq (hb)
 clear hb
 go_wp2_with fail
 obtain ⟨p1, hp1⟩ := ex w3.heap.size
 obtain ⟨p2, hp2⟩ := ex w5.heap.size
 obtain ⟨p4, hp4⟩ := ex w10.heap.size
 have k1 := BK1.out.same (((belowT (belowT (belowT (belowT (belowT (belowT (belowT (belowT (belowT (belowT (belowT (belowT (belowT (belowT (belowT (belowT (belowT (belowT (belowT (belowT (belowT (belowT (belowT (belowT Z5.out Z6.out) Z7.out) Z8.out) Z9.out) Z10.out) Z11.out) Z12.out) Z13.out) Z14.out) Z15.out) Z16.out) Z17.out) Z18.out) Z19.out) Z20.out) Z21.out) Z22.out) Z23.out) Z24.out) Z25.out) Z26.out) Z27.out) Z28.out) Z29.out)).block _ BK1.out.lt)
 have k2 := BK2.out.same (((belowT (belowT (belowT (belowT (belowT (belowT (belowT (belowT (belowT (belowT (belowT (belowT (belowT (belowT (belowT (belowT (belowT (belowT (belowT (belowT (belowT (belowT Z7.out Z8.out) Z9.out) Z10.out) Z11.out) Z12.out) Z13.out) Z14.out) Z15.out) Z16.out) Z17.out) Z18.out) Z19.out) Z20.out) Z21.out) Z22.out) Z23.out) Z24.out) Z25.out) Z26.out) Z27.out) Z28.out) Z29.out)).block _ BK2.out.lt)
 have k4 := BK4.out.same (((belowT (belowT (belowT (belowT (belowT (belowT (belowT (belowT (belowT (belowT (belowT (belowT (belowT (belowT (belowT (belowT (belowT Z12.out Z13.out) Z14.out) Z15.out) Z16.out) Z17.out) Z18.out) Z19.out) Z20.out) Z21.out) Z22.out) Z23.out) Z24.out) Z25.out) Z26.out) Z27.out) Z28.out) Z29.out)).block _ BK4.out.lt)
 have kf := BF.out.same (((belowT (belowT (belowT (belowT (belowT (belowT (belowT (belowT (belowT (belowT (belowT (belowT (belowT (belowT (belowT Z14.out Z15.out) Z16.out) Z17.out) Z18.out) Z19.out) Z20.out) Z21.out) Z22.out) Z23.out) Z24.out) Z25.out) Z26.out) Z27.out) Z28.out) Z29.out)).block _ BF.out.lt)
 rw [hp1] at k1
 rw [hp2] at k2
 rw [hp4] at k4
 have HC : Hid (∀ W, BW w29 W → W.cell? ⟨p1, 0, none⟩ = some (iv 1642) ∧ W.cell? ⟨p1, 1, none⟩ = some (iv 990800) ∧ W.cell? ⟨p1, 2, none⟩ = some (iv (-5600)) ∧ W.cell? ⟨p2, 0, none⟩ = some (iv 1050) ∧ W.cell? ⟨p2, 1, none⟩ = some (iv 730000) ∧ W.cell? ⟨p2, 2, none⟩ = some (iv (-140000)) ∧ W.cell? ⟨p4, 0, none⟩ = some (.slice SA 3 sc) ∧ W.cell? ⟨p4, 1, none⟩ = some (.slice SB 3 sd)) := Lq fun W hb => ⟨keepC hb (k1.cell 0), keepC hb (k1.cell 1), keepC hb (k1.cell 2), keepC hb (k2.cell 0), keepC hb (k2.cell 1), keepC hb (k2.cell 2), keepC hb (k4.cell 0), keepC hb (k4.cell 1)⟩
 have KF := Lq kf
 have hsh := (belowT (belowT (belowT (belowT (belowT (belowT (belowT (belowT (belowT (belowT (belowT (belowT (belowT (belowT (belowT (belowT (belowT (belowT Z11.out Z12.out) Z13.out) Z14.out) Z15.out) Z16.out) Z17.out) Z18.out) Z19.out) Z20.out) Z21.out) Z22.out) Z23.out) Z24.out) Z25.out) Z26.out) Z27.out) Z28.out) Z29.out)
 have SHL : Hid (Rd1 iv w29 w29.heap.size SA heavyW ∧ Rd1 iv w29 w29.heap.size SB heavyL) := Lq ⟨(SH.out.1.below hsh (Nat.le_refl _)).more hsh.size, (SH.out.2.below hsh (Nat.le_refl _)).more hsh.size⟩
 have HB0 := Lq ((belowT (belowT (belowT (belowT (belowT (belowT (belowT (belowT (belowT (belowT (belowT (belowT (belowT (belowT (belowT (belowT (belowT (belowT (belowT (belowT (belowT (belowT (belowT (belowT (belowT (belowT (belowT (belowT Z1.out Z2.out) Z3.out) Z4.out) Z5.out) Z6.out) Z7.out) Z8.out) Z9.out) Z10.out) Z11.out) Z12.out) Z13.out) Z14.out) Z15.out) Z16.out) Z17.out) Z18.out) Z19.out) Z20.out) Z21.out) Z22.out) Z23.out) Z24.out) Z25.out) Z26.out) Z27.out) Z28.out) Z29.out))
 have HBD := Lq (belowDq (belowR w29))
 rw [hp1, hp2, hp4]
 clear k1 k2 k4 kf hp1 hp2 hp4 hsh BK1 BK2 BK4 BF SH
 simp only [List.append_eq, List.cons_append, List.nil_append]
 go_region_held3 (fun W => W.cell? ⟨p1, 0, none⟩ = some (iv 1642) ∧ W.cell? ⟨p1, 1, none⟩ = some (iv 990800) ∧ W.cell? ⟨p1, 2, none⟩ = some (iv (-5600)) ∧ W.cell? ⟨p2, 0, none⟩ = some (iv 1050) ∧ W.cell? ⟨p2, 1, none⟩ = some (iv 730000) ∧ W.cell? ⟨p2, 2, none⟩ = some (iv (-140000)) ∧ W.cell? ⟨p4, 0, none⟩ = some (.slice SA 3 sc) ∧ W.cell? ⟨p4, 1, none⟩ = some (.slice SB 3 sd)) (first | exact HC.out _ HBD.out | exact HC.out _ HBa.out | exact HC.out _ HBb.out | exact HC.out _ (belowA HBb.out _) | exact HC.out _ HBc.out) (first | (go_at_call 22; (with_reducible refine (HV.out _).mono ?_); rintro e wa ⟨hba, Ba, Ca, rfl, hVa⟩; have HBa := Lq (belowT HBD.out hba); have HVa := Lq hVa; clear hba hVa) | (go_at_call 29; (with_reducible refine (same5 ((SHL.out.1.below HBa.out (Nat.le_refl _)).more HBa.out.size) ((SHL.out.2.below HBa.out (Nat.le_refl _)).more HBa.out.size) HVa.out).mono ?_); rintro e wb ⟨rfl, hbb⟩; have HBb := Lq (belowT HBa.out hbb); clear hbb) | (go_at_call 30; (with_reducible refine (alike5 ((KF.out.same (HBb.out.block _ KF.out.lt)).alloc _) (Blk.new wb 89 _)).mono ?_); rintro e wc ⟨rfl, hbc⟩; have HBc := Lq (belowT (belowA HBb.out _) hbc); clear hbc))
 go_wp2_with fail
 go_ret
 exact ⟨rfl, belowT HB0.out HBc.out⟩
def treeA : List Nd := treeTo ((allW [] 4).map ndOf) 1
def treeB : List Nd := treeTo ((allW wgh7 4).map ndOf) 2
theorem tree_none {N : List Nd} (h : IsTree hul7 [] N) : N = treeA := by
 obtain ⟨X, hp, _, rfl⟩ := h
 have e : allW [] hul7.ps.length = [⟨15, 0, 400000⟩] := by kernel_rfl
 rw [e] at hp
 have hX := List.perm_singleton.1 hp.symm
 rw [hX]
 have e2 : allW [] 4 = [⟨15, 0, 400000⟩] := e
 unfold treeA
 rw [e2]
 rfl
theorem tree_one {N : List Nd} (h : IsTree hul7 wgh7 N) : N = treeB := by
 obtain ⟨X, hp, hs, rfl⟩ := h
 have e : allW wgh7 hul7.ps.length = [⟨12, 350, 360⟩, ⟨15, 0, 400000⟩] := by kernel_rfl
 rw [e] at hp
 have e2 : allW wgh7 4 = [⟨12, 350, 360⟩, ⟨15, 0, 400000⟩] := e
 have hX : X = [⟨12, 350, 360⟩, ⟨15, 0, 400000⟩] := by
  have hl := hp.length_eq
  match X, hl with
  | [a, b], _ =>
   have ha := hp.symm.subset (List.mem_cons_self (a := a) (l := [b]))
   have hb := hp.symm.subset (show b ∈ [a, b] by simp)
   have hc := hp.subset (show (⟨12, 350, 360⟩ : Wgh) ∈ [(⟨12, 350, 360⟩ : Wgh), ⟨15, 0, 400000⟩] by simp)
   have hd := hp.subset (show (⟨15, 0, 400000⟩ : Wgh) ∈ [(⟨12, 350, 360⟩ : Wgh), ⟨15, 0, 400000⟩] by simp)
   simp only [List.pairwise_cons, List.mem_cons, List.not_mem_nil, or_false, forall_eq] at hs
   have hs := hs.1
   simp only [List.mem_cons, List.not_mem_nil, or_false] at ha hb hc hd
   rcases ha with rfl | rfl
   ·rcases hb with rfl | rfl
    ·rcases hd with hd | hd <;> (injection hd with hd; exact absurd hd (by decide))
    ·rfl
   ·rcases hb with rfl | rfl
    ·exact absurd hs (by decide)
    ·rcases hc with hd | hd <;> (injection hd with hd; exact absurd hd (by decide))
 rw [hX]
 unfold treeB
 rw [e2]
 rfl
theorem pre_none : openPre hul7 [] = 0 := by decide +kernel
theorem pre_one : openPre hul7 wgh7 = 0 := by decide +kernel
def wts (a b c d : Int) (i : Nat) : Int := match i with
 | 0 => a
 | 1 => b
 | 2 => c
 | _ => d
theorem feas_none : Feas hul7 [] := by
 refine ⟨wts 100 200 50 300, fun i p hp => ?_, fun x hx => by cases hx⟩
 match i, hp with
 | 0, hp => injection hp with hp; subst hp; decide
 | 1, hp => injection hp with hp; subst hp; decide
 | 2, hp => injection hp with hp; subst hp; decide
 | 3, hp => injection hp with hp; subst hp; decide
theorem feas_one : Feas hul7 wgh7 := by
 refine ⟨wts 100 200 50 300, fun i p hp => ?_, fun x hx => ?_⟩
 ·match i, hp with
  | 0, hp => injection hp with hp; subst hp; decide
  | 1, hp => injection hp with hp; subst hp; decide
  | 2, hp => injection hp with hp; subst hp; decide
  | 3, hp => injection hp with hp; subst hp; decide
 ·rw [wgh7, List.mem_singleton] at hx
  subst hx
  decide +kernel
theorem openE_none : openE hul7 [] = 0 := by unfold openE; rw [if_pos pre_none, if_pos feas_none]
theorem openE_one : openE hul7 wgh7 = 0 := by unfold openE; rw [if_pos pre_one, if_pos feas_one]
theorem canF_mono (h : Hul) (N : List Nd) (b : Nat) {x y : Nat} (hxy : x ≤ y) (hc : canF h N b x = true) : canF h N b y = true := by
 unfold canF at hc ⊢
 rw [List.any_eq_true] at hc ⊢
 obtain ⟨C, hC, hf⟩ := hc
 refine ⟨C, hC, ?_⟩
 unfold fitsCut at hf ⊢
 simp only [Bool.not_eq_true', anyTo, List.any_eq_false] at hf ⊢
 intro i hi
 have := hf i hi
 simp only [decide_eq_true_eq] at this ⊢
 omega
theorem lightW_is {h : Hul} {N : List Nd} {b v : Nat} (hv : v + 1 ≤ h.ps.length * 100000 + 1) (h1 : canF h N b (v + 1 : Nat) = true) (h0 : canF h N b v = false) : lightW h N b = v + 1 := by
 have hl := searchF_least (pred := fun k => canF h N b k) (fun a c hac hp => canF_mono h N b hac hp) (h.ps.length * 100000 + 2) 0 (h.ps.length * 100000 + 1) (Nat.zero_le _) (by omega) (fun k hk => by omega)
 obtain ⟨_, l2, l3, l4⟩ := hl
 have e : searchF (fun k => canF h N b k) (h.ps.length * 100000 + 2) 0 (h.ps.length * 100000 + 1) = lightW h N b := rfl
 rw [e] at l2 l3 l4
 obtain ⟨R, hR⟩ := ex (lightW h N b)
 rw [hR] at l2 l3 l4 ⊢
 rcases Nat.lt_trichotomy R (v + 1) with hlt | heq | hgt
 ·have hp := l4 (by omega)
  have := canF_mono h N b (show R ≤ v by omega) hp
  rw [h0] at this
  cases this
 ·exact heq
 ·have := l3 (v + 1) hgt
  rw [h1] at this
  cases this
theorem val_few1 : fewOf hul7 treeB = (2, [0, 0, 1, 1, 0, 0, 0, 0]) := by kernel_rfl
theorem val_bad0b : badAt hul7 treeA (blkTo (cut8 [0, 0, 1, 1]) 4) (manyTo (cut8 [0, 0, 1, 1]) 4) = 1 := by kernel_rfl
theorem val_light2 : lightW hul7 treeA 2 = 390 := lightW_is (v := 389) (by decide) (by kernel_rfl) (by kernel_rfl)
theorem val_spans : spansV hul7 treeB 4 = [(100, 120), (200, 220), (50, 60), (300, 310)] := by kernel_rfl
theorem val_lim : limL treeB 12 (mostV hul7 treeB 12) hul7.ps 4 = [100, 200, 50, 310] := by kernel_rfl
theorem val_pull1 : pullV hul7 (leastV hul7 treeB 12) (mostV hul7 treeB 12) = (175, 216) := by kernel_rfl
end Go.Proofs.YtmhjhbchokbonaaGreat
namespace Go.Proofs.YtmhjhbchokbonaaGreat
open Go.RowKit Go.Shelf
attribute [local go_sem] Oper.semAt_some
theorem weights7 {w : World} {A J AL : Option Addr} (hH : HulRd w w.heap.size hul7 A 4 J 3) (hL : RdN 3 encWgh w w.heap.size AL wgh7) :
  Calls Tryz.prog 12 #[hv hul7 A 4 J 3, .slice AL 1 1] w fun e w' => BW w w' ∧ ∃ A cap, e = .returned (.tuple #[.slice A 4 cap, iv 0]) ∧ RdN 2 encSp w' w'.heap.size A [(100, 120), (200, 220), (50, 60), (300, 310)] := by
 refine (weights_any hul7 A J w.heap.size 4 3 AL wgh7 1 w hH hL (by decide) (Nat.le_refl _)).mono ?_
 rintro e w' ⟨hb, h | ⟨_, _, _, N, A', cap', hN, rfl, ho⟩⟩
 ·exact absurd openE_one h.1
 ·refine ⟨hb, A', cap', rfl, ?_⟩
  rw [tree_one hN] at ho
  have : (spansV hul7 treeB hul7.ps.length) = [(100, 120), (200, 220), (50, 60), (300, 310)] := val_spans
  rw [this] at ho
  obtain ⟨A2, cap2, e2, hr, _⟩ := own_rdN (xs := [((100 : Int), (120 : Int)), (200, 220), (50, 60), (300, 310)]) encSp_len ho
  injection e2 with e2 _ _
  subst e2
  exact hr
theorem pull7 {w : World} {A J AL : Option Addr} (hH : HulRd w w.heap.size hul7 A 4 J 3) (hL : RdN 3 encWgh w w.heap.size AL wgh7) :
  Calls Tryz.prog 33 #[hv hul7 A 4 J 3, .slice AL 1 1, iv 12] w fun e w' => BW w w' ∧ e = .returned (.tuple #[.agg #[iv 175, iv 216], iv 0]) := by
 refine (pull_any hul7 A J w.heap.size 4 3 AL wgh7 1 12 w hH hL (by decide) (Nat.le_refl _)).mono ?_
 rintro e w' ⟨hb, h | ⟨_, _, _, _, N, hN, rfl⟩⟩
 ·exact absurd (by unfold enterE; rw [if_pos openE_one]; kernel_rfl) h.1
 ·refine ⟨hb, ?_⟩
  rw [tree_one hN]
  have : pullV hul7 (leastV hul7 treeB (12 : Int).toNat) (mostV hul7 treeB (12 : Int).toNat) = (175, 216) := val_pull1
  rw [this]
theorem pull75 {w : World} {A J : Option Addr} (hH : HulRd w w.heap.size hul7 A 4 J 3) :
  Calls Tryz.prog 33 #[hv hul7 A 4 J 3, .slice none 0 0, iv 5] w fun e w' => BW w w' ∧ e = .returned (.tuple #[.agg #[iv 0, iv 0], iv 6]) := by
 have he : enterE hul7 [] 5 = 6 := by unfold enterE; rw [if_pos openE_none]; kernel_rfl
 refine (pull_any hul7 A J w.heap.size 4 3 none [] 0 5 w hH RdN.nil (by decide) (Nat.le_refl _)).mono ?_
 rintro e w' ⟨hb, ⟨_, rfl⟩ | h⟩
 ·exact ⟨hb, by rw [he]⟩
 ·exact absurd h.1 (by rw [he]; decide)
theorem heaviest7 {w : World} {A J AL : Option Addr} (hH : HulRd w w.heap.size hul7 A 4 J 3) (hL : RdN 3 encWgh w w.heap.size AL wgh7) :
  Calls Tryz.prog 34 #[hv hul7 A 4 J 3, .slice AL 1 1, iv 12] w fun e w' => BW w w' ∧ ∃ A cap, e = .returned (.tuple #[.slice A 4 cap, iv 0]) ∧ Rd1 iv w' w'.heap.size A [100, 200, 50, 310] := by
 refine (heaviest_any hul7 A J w.heap.size 4 3 AL wgh7 1 12 w hH hL (by decide) (Nat.le_refl _)).mono ?_
 rintro e w' ⟨hb, h | ⟨_, _, _, _, N, A', cap', hN, rfl, ho⟩⟩
 ·exact absurd (by unfold enterE; rw [if_pos openE_one]; kernel_rfl) h.1
 ·refine ⟨hb, A', cap', rfl, ?_⟩
  rw [tree_one hN] at ho
  have : limL treeB (12 : Int).toNat (mostV hul7 treeB (12 : Int).toNat) hul7.ps hul7.ps.length = [100, 200, 50, 310] := val_lim
  rw [this] at ho
  exact own_rdP ho rfl
theorem bad70 {w : World} {A J AN : Option Addr} {capN : Nat} {ns : List Int} {v : Int} (hc : cutOkTo ns ns.length = true) (hl : ns.length = 4) (hva : badAt hul7 treeA (blkTo (cut8 ns) 4) (manyTo (cut8 ns) 4) = v) (hH : HulRd w w.heap.size hul7 A 4 J 3) (hN : Rd1 iv w w.heap.size AN ns) :
  Calls Tryz.prog 35 #[hv hul7 A 4 J 3, .slice none 0 0, .slice AN 4 capN] w fun e w' => BW w w' ∧ e = .returned (.tuple #[iv v, iv 0]) := by
 have hb := bad_any hul7 A J w.heap.size 4 3 none [] 0 AN ns capN w hH RdN.nil (by decide) hN (by rw [hl]; decide) (Nat.le_refl _)
 rw [hl] at hb
 refine hb.mono ?_
 rintro e w' ⟨hb, h | ⟨_, _, _, h | h | ⟨_, _, N, hN, rfl⟩⟩⟩
 ·exact absurd openE_none h.1
 ·exact absurd hl h.1
 ·rw [hc] at h; exact absurd h.2.1 (by decide)
 ·refine ⟨hb, ?_⟩
  rw [tree_none hN]
  have : badAt hul7 treeA (blkTo (cut8 ns) hul7.ps.length) (manyTo (cut8 ns) hul7.ps.length) = v := hva
  rw [this]
theorem fewest7 {w : World} {A J AL : Option Addr} (hH : HulRd w w.heap.size hul7 A 4 J 3) (hL : RdN 3 encWgh w w.heap.size AL wgh7) :
  Calls Tryz.prog 36 #[hv hul7 A 4 J 3, .slice AL 1 1] w fun e w' => BW w w' ∧ ∃ A cap, e = .returned (.tuple #[.slice A 4 cap, iv 0]) ∧ Rd1 iv w' w'.heap.size A [0, 0, 1, 1] := by
 refine (fewest_any hul7 A J w.heap.size 4 3 AL wgh7 1 w hH hL (by decide) (Nat.le_refl _)).mono ?_
 rintro e w' ⟨hb, h | ⟨_, _, _, N, hN, h | ⟨_, A', cap', rfl, ho⟩⟩⟩
 ·exact absurd openE_one h.1
 ·rw [tree_one hN, val_few1] at h; exact absurd h.1 (by decide)
 ·refine ⟨hb, A', cap', rfl, ?_⟩
  rw [tree_one hN, val_few1] at ho
  exact own_rdP (xs := [(0 : Int), 0, 1, 1]) ho rfl
theorem count7 {F : Nat → Int × Int} {b L : Nat} {x : Int} (hb1 : 1 ≤ b ∧ b ≤ 8) (hL : lightW hul7 treeA b = L) (hl : L ≤ 400000) (hF : F L = (x, 0)) {w : World} {e : Ending} {w' : World} (h : CountOne F hul7 [] b w e w') : BW w w' ∧ e = .returned (.tuple #[iv x, iv 0]) := by
 obtain ⟨hb, h | h | ⟨_, _, _, _, _, N, hN, h | h⟩⟩ := h
 ·exact absurd openE_none h.1
 ·exact absurd (by omega) h.2.1
 ·rw [tree_none hN, Int.toNat_natCast, hL] at h
  exact absurd h.1 (by simp [hul7]; omega)
 ·rw [tree_none hN, Int.toNat_natCast, hL, hF] at h
  exact ⟨hb, h.2⟩
theorem winch7 {b L : Nat} {x : Int} (hb1 : 1 ≤ b ∧ b ≤ 8) (hL : lightW hul7 treeA b = L) (hl : L ≤ 400000) (hF : winchOf hul7 L = (x, 0)) {w : World} {A J : Option Addr} (hH : HulRd w w.heap.size hul7 A 4 J 3) :
  Calls Tryz.prog 37 #[hv hul7 A 4 J 3, .slice none 0 0, iv b] w fun e w' => BW w w' ∧ e = .returned (.tuple #[iv x, iv 0]) :=
 (winch_any hul7 A J w.heap.size 4 3 none [] 0 b w hH RdN.nil (by decide) (Nat.le_refl _)).mono fun e w' h => count7 hb1 hL hl hF h
theorem sand7 {b L : Nat} {x : Int} (hb1 : 1 ≤ b ∧ b ≤ 8) (hL : lightW hul7 treeA b = L) (hl : L ≤ 400000) (hF : sandOf hul7 L = (x, 0)) {w : World} {A J : Option Addr} (hH : HulRd w w.heap.size hul7 A 4 J 3) :
  Calls Tryz.prog 38 #[hv hul7 A 4 J 3, .slice none 0 0, iv b] w fun e w' => BW w w' ∧ e = .returned (.tuple #[iv x, iv 0]) :=
 (sand_any hul7 A J w.heap.size 4 3 none [] 0 b w hH RdN.nil (by decide) (Nat.le_refl _)).mono fun e w' h => count7 hb1 hL hl hF h
end Go.Proofs.YtmhjhbchokbonaaGreat
