/- Awake and BlockKnown (printed by mkE22.py). The law's Tide (printed by mkT21.py). append at a step of a region that draws: whatever the source is, nothing too. No program is named here. Rows of a call's own, several at once, no two in one block: what an allocation and an append do to them. No program is named here. One row of a call's own. A region of the law (printed by mkF3r.py). A region of .. -/
import Derived.Deep.RegionHeld3
import Derived.Test.YtmhjhbchokbonaaGreatM0
import Derived.Test.YtmhjhbchokbonaaGreatM1
import Derived.Test.YtmhjhbchokbonaaGreatM10
import Derived.Test.YtmhjhbchokbonaaGreatM17
import Derived.Test.YtmhjhbchokbonaaGreatM19
import Derived.Test.YtmhjhbchokbonaaGreatM20
import Derived.Test.YtmhjhbchokbonaaGreatM21
import Derived.Test.YtmhjhbchokbonaaGreatM23
set_option maxRecDepth 1000000
set_option maxHeartbeats 16000000
namespace Go.Proofs.YtmhjhbchokbonaaGreat
open Go.RowKit Go.Shelf
attribute [local go_sem] Oper.semAt_some
theorem HulRd.on {W W' : World} {h : Hul} {A J : Option Addr} {cap capJ : Nat} (H : HulRd W W.heap.size h A cap J capJ) (hb : BW W W') : HulRd W' W'.heap.size h A cap J capJ :=
 ⟨(H.ps.below hb (Nat.le_refl _)).more hb.size, (H.js.below hb (Nat.le_refl _)).more hb.size, H.pl, H.pm, H.jl, H.jm, H.nm⟩
theorem RdN.on {α : Type} {k : Nat} {encs : α → List Value} {W W' : World} {A : Option Addr} {xs : List α} (H : RdN k encs W W.heap.size A xs) (hb : BW W W') : RdN k encs W' W'.heap.size A xs := (H.below hb (Nat.le_refl _)).more hb.size
theorem Rd1.on {α : Type} {enc : α → Value} {W W' : World} {A : Option Addr} {xs : List α} (H : Rd1 enc W W.heap.size A xs) (hb : BW W W') : Rd1 enc W' W'.heap.size A xs := (H.below hb (Nat.le_refl _)).more hb.size
theorem newInts (w : World) (xs : List Int) : Rd1 iv (w.alloc (.cells (xs.map iv).toArray 3)) (w.alloc (.cells (xs.map iv).toArray 3)).heap.size (some ⟨w.heap.size, 0, none⟩) xs := by
 intro i x hx
 refine ⟨w.heap.size, 0, rfl, by simp, ?_⟩
 rw [(Blk.new w 3 _).cell, Nat.zero_add]
 simp [hx]
theorem newSp (w : World) (a b c d e f g h : Int) : RdN 2 encSp (w.alloc (.cells #[iv a, iv b, iv c, iv d, iv e, iv f, iv g, iv h] 36)) (w.alloc (.cells #[iv a, iv b, iv c, iv d, iv e, iv f, iv g, iv h] 36)).heap.size (some ⟨w.heap.size, 0, none⟩) [(a, b), (c, d), (e, f), (g, h)] :=
 Blk.rdN encSp_len (xs := [(a, b), (c, d), (e, f), (g, h)]) (Blk.new w 36 _) (by simp)
theorem newI (w : World) (a b c d : Int) : Rd1 iv (w.alloc (.cells #[iv a, iv b, iv c, iv d] 3)) (w.alloc (.cells #[iv a, iv b, iv c, iv d] 3)).heap.size (some ⟨w.heap.size, 0, none⟩) [a, b, c, d] := newInts w [a, b, c, d]
theorem spansSame (A A' : Option Addr) (l : List (Int × Int)) (cap cap' : Nat) (w : World) (hR : RdN 2 encSp w w.heap.size A l) (hR' : RdN 2 encSp w w.heap.size A' l) (hl : l.length = 4) :
  Calls Tryz.prog 39 #[.slice A 4 cap, .slice A' 4 cap'] w (Rt w (.bool true)) := by
 have h := spans_any A A' l l w.heap.size cap cap' w hR hR' (by omega) (by omega) (Nat.le_refl _)
 rw [hl] at h
 exact h.mono fun e w' hp => ⟨by rw [hp.1]; simp, hp.2⟩
theorem intsSame (A A' : Option Addr) (l : List Int) (cap cap' : Nat) (w : World) (hR : Rd1 iv w w.heap.size A l) (hR' : Rd1 iv w w.heap.size A' l) (hl : l.length = 4) :
  Calls Tryz.prog 41 #[.slice A 4 cap, .slice A' 4 cap'] w (Rt w (.bool true)) := by
 have h := ints_any A A' l l w.heap.size cap cap' w hR hR' (by omega) (by omega) (Nat.le_refl _)
 rw [hl] at h
 exact h.mono fun e w' hp => ⟨by rw [hp.1]; simp, hp.2⟩
theorem awake_any (w0 : World) : Calls Tryz.prog 6 #[] w0 (Rt w0 (.bool true)) := by
 have HH := Lq hull_any
 have HG := Lq weighed_any
 go_enter Tryz.func6, Tryz.ntmps6
 go_wp2_with fail
 refine (HH.out _).mono ?_
 rintro e w1 ⟨hb1, A1, J1, rfl, hH1⟩
 have S1 : Hid (BW w0 w1) := Lq hb1
 clear hb1
 have H1 := Lq hH1
 clear hH1
 go_wp2_with fail
 refine (HG.out _).mono ?_
 rintro e w2 ⟨hb2, L1, rfl, hL1⟩
 have S2 : Hid (BW w1 w2) := Lq hb2
 clear hb2
 have G1 := Lq hL1
 clear hL1
 go_wp2_with fail
 refine (weights7 (H1.out.on S2.out) G1.out).mono ?_
 rintro e w3 ⟨hb3, R1, cp1, rfl, hR1⟩
 have S3 : Hid (BW w2 w3) := Lq hb3
 clear hb3
 have K1 := Lq hR1
 clear hR1
 go_wp2_with fail
 refine (HH.out _).mono ?_
 rintro e w4 ⟨hb4, A2, J2, rfl, hH2⟩
 have S4 : Hid (BW w3 w4) := Lq hb4
 clear hb4
 have H2 := Lq hH2
 clear hH2
 go_wp2_with fail
 refine (HG.out _).mono ?_
 rintro e w5 ⟨hb5, L2, rfl, hL2⟩
 have S5 : Hid (BW w4 w5) := Lq hb5
 clear hb5
 have G2 := Lq hL2
 clear hL2
 go_wp2_with fail
 refine (pull7 (H2.out.on S5.out) G2.out).mono ?_
 rintro e w6 ⟨hb6, rfl⟩
 have S6 : Hid (BW w5 w6) := Lq hb6
 clear hb6
 go_wp2_with fail
 refine (HH.out _).mono ?_
 rintro e w7 ⟨hb7, A3, J3, rfl, hH3⟩
 have S7 : Hid (BW w6 w7) := Lq (belowT (belowA (belowR w6) _) hb7)
 have BB : Hid (Blk w7 w6.heap.size 36 #[iv 175, iv 216]) := Lq ((Blk.new w6 36 _).same (hb7.block _ (by simp)))
 clear hb7
 have H3 := Lq hH3
 clear hH3
 go_wp2_with fail
 refine (HG.out _).mono ?_
 rintro e w8 ⟨hb8, L3, rfl, hL3⟩
 have S8 : Hid (BW w7 w8) := Lq hb8
 clear hb8
 have G3 := Lq hL3
 clear hL3
 go_wp2_with fail
 refine (heaviest7 (H3.out.on S8.out) G3.out).mono ?_
 rintro e w9 ⟨hb9, R3, cp3, rfl, hR3⟩
 have S9 : Hid (BW w8 w9) := Lq hb9
 clear hb9
 have K3 := Lq hR3
 clear hR3
 go_wp2_with fail
 refine (HH.out _).mono ?_
 rintro e w10 ⟨hb10, A4, J4, rfl, hH4⟩
 have S10 : Hid (BW w9 w10) := Lq hb10
 clear hb10
 have H4 := Lq hH4
 clear hH4
 go_wp2_with fail
 refine (bad70 (ns := [0, 0, 1, 1]) (v := 1) (by decide) rfl val_bad0b (H4.out.on (belowA (belowR w10) _)) (newInts w10 [0, 0, 1, 1])).mono ?_
 rintro e w11 ⟨hb11, rfl⟩
 have S11 : Hid (BW w10 w11) := Lq (belowT (belowA (belowR w10) _) hb11)
 clear hb11
 go_wp2_with fail
 refine (HH.out _).mono ?_
 rintro e w12 ⟨hb12, A5, J5, rfl, hH5⟩
 have S12 : Hid (BW w11 w12) := Lq hb12
 clear hb12
 have H5 := Lq hH5
 clear hH5
 go_wp2_with fail
 refine (HG.out _).mono ?_
 rintro e w13 ⟨hb13, L5, rfl, hL5⟩
 have S13 : Hid (BW w12 w13) := Lq hb13
 clear hb13
 have G5 := Lq hL5
 clear hL5
 go_wp2_with fail
 refine (fewest7 (H5.out.on S13.out) G5.out).mono ?_
 rintro e w14 ⟨hb14, R5, cp5, rfl, hR5⟩
 have S14 : Hid (BW w13 w14) := Lq hb14
 clear hb14
 have K5 := Lq hR5
 clear hR5
 go_wp2_with fail
 refine (HH.out _).mono ?_
 rintro e w15 ⟨hb15, A6, J6, rfl, hH6⟩
 have S15 : Hid (BW w14 w15) := Lq hb15
 clear hb15
 have H6 := Lq hH6
 clear hH6
 go_wp2_with fail
 refine (winch7 (b := 2) (L := 390) (x := 234) (by decide) val_light2 (by decide) (by kernel_rfl) H6.out).mono ?_
 rintro e w16 ⟨hb16, rfl⟩
 have S16 : Hid (BW w15 w16) := Lq hb16
 clear hb16
 go_wp2_with fail
 refine (HH.out _).mono ?_
 rintro e w17 ⟨hb17, A7, J7, rfl, hH7⟩
 have S17 : Hid (BW w16 w17) := Lq hb17
 clear hb17
 have H7 := Lq hH7
 clear hH7
 go_wp2_with fail
 refine (sand7 (b := 2) (L := 390) (x := 564) (by decide) val_light2 (by decide) (by kernel_rfl) H7.out).mono ?_
 rintro e w18 ⟨hb18, rfl⟩
 have S18 : Hid (BW w17 w18) := Lq hb18
 clear hb18
 go_wp2_with fail
 refine (HH.out _).mono ?_
 rintro e w19 ⟨hb19, A8, J8, rfl, hH8⟩
 have S19 : Hid (BW w18 w19) := Lq hb19
 clear hb19
 have H8 := Lq hH8
 clear hH8
 go_wp2_with fail
 refine (pull75 H8.out).mono ?_
 rintro e w20 ⟨hb20, rfl⟩
 have S20 : Hid (BW w19 w20) := Lq hb20
 clear hb20
 go_wp2_with (refine HH.out _ ?_)
 obtain ⟨V, hV⟩ := ex ((w20.alloc (.cells #[iv 0, iv 0] 36)))
 have SV : BW w20 V := by rw [← hV]; exact belowA (belowR _) _
 have bb := BB.out.same ((belowT (belowT (belowT (belowT (belowT (belowT (belowT (belowT (belowT (belowT (belowT (belowT (belowT S8.out S9.out) S10.out) S11.out) S12.out) S13.out) S14.out) S15.out) S16.out) S17.out) S18.out) S19.out) S20.out) SV).block _ BB.out.lt)
 have KK1 := Lq fun (W : World) (hb : BW V W) => K1.out.on (belowT (belowT (belowT (belowT (belowT (belowT (belowT (belowT (belowT (belowT (belowT (belowT (belowT (belowT (belowT (belowT (belowT (belowT S4.out S5.out) S6.out) S7.out) S8.out) S9.out) S10.out) S11.out) S12.out) S13.out) S14.out) S15.out) S16.out) S17.out) S18.out) S19.out) S20.out) SV) hb)
 have KK3 := Lq fun (W : World) (hb : BW V W) => K3.out.on (belowT (belowT (belowT (belowT (belowT (belowT (belowT (belowT (belowT (belowT (belowT (belowT S10.out S11.out) S12.out) S13.out) S14.out) S15.out) S16.out) S17.out) S18.out) S19.out) S20.out) SV) hb)
 have KK5 := Lq fun (W : World) (hb : BW V W) => K5.out.on (belowT (belowT (belowT (belowT (belowT (belowT (belowT S15.out S16.out) S17.out) S18.out) S19.out) S20.out) SV) hb)
 obtain ⟨pb, hpb⟩ := ex w6.heap.size
 rw [hpb] at bb
 have HC : Hid (∀ W, BW V W → W.cell? ⟨pb, 0, none⟩ = some (iv 175) ∧ W.cell? ⟨pb, 1, none⟩ = some (iv 216)) := Lq fun W hb => ⟨keepC hb (bb.cell 0), keepC hb (bb.cell 1)⟩
 have HB0 := Lq (belowT (belowT (belowT (belowT (belowT (belowT (belowT (belowT (belowT (belowT (belowT (belowT (belowT (belowT (belowT (belowT (belowT (belowT (belowT (belowT S1.out S2.out) S3.out) S4.out) S5.out) S6.out) S7.out) S8.out) S9.out) S10.out) S11.out) S12.out) S13.out) S14.out) S15.out) S16.out) S17.out) S18.out) S19.out) S20.out) SV)
 rw [hV, hpb]
 clear bb SV hV hpb
 simp only [List.append_eq, List.cons_append, List.nil_append]
 go_region_held3 (fun W => W.cell? ⟨pb, 0, none⟩ = some (iv 175) ∧ W.cell? ⟨pb, 1, none⟩ = some (iv 216)) (first | exact HC.out _ (belowDq (belowR V)) | exact HC.out _ HBc | exact HC.out _ (belowA HBc _)) (first | (go_at_call 40; (with_reducible refine (span_any _ _ _).mono ?_); rintro e wx ⟨rfl, hbx⟩; have HBc : BW V wx := by first | exact undrew0 hbx | exact belowT HBc hbx | exact belowT (belowA HBc _) hbx) | (go_at_call 39; (with_reducible refine (spansSame R1 (some ⟨wx.heap.size, 0, none⟩) [(100, 120), (200, 220), (50, 60), (300, 310)] cp1 4 _ (KK1.out _ (belowA HBc _)) (newSp wx 100 120 200 220 50 60 300 310) rfl).mono ?_); rintro e wx ⟨rfl, hbx⟩; have HBc : BW V wx := by first | exact belowT (belowA HBc _) hbx | exact undrew0 hbx | exact belowT HBc hbx) | (go_at_call 41; (with_reducible refine (intsSame R3 (some ⟨wx.heap.size, 0, none⟩) [100, 200, 50, 310] cp3 4 _ (KK3.out _ (belowA HBc _)) (newI wx 100 200 50 310) rfl).mono ?_); rintro e wx ⟨rfl, hbx⟩; have HBc : BW V wx := by first | exact belowT (belowA HBc _) hbx | exact undrew0 hbx | exact belowT HBc hbx) | (go_at_call 41; (with_reducible refine (intsSame R5 (some ⟨wx.heap.size, 0, none⟩) [0, 0, 1, 1] cp5 4 _ (KK5.out _ (belowA HBc _)) (newI wx 0 0 1 1) rfl).mono ?_); rintro e wx ⟨rfl, hbx⟩; have HBc : BW V wx := by first | exact belowT (belowA HBc _) hbx | exact undrew0 hbx | exact belowT HBc hbx))
 go_wp2_with fail
 go_ret
 exact ⟨rfl, belowT HB0.out HBc⟩
end Go.Proofs.YtmhjhbchokbonaaGreat
namespace Go.Proofs.YtmhjhbchokbonaaGreat
open Go.RowKit
def tideV (a b : Int) : Int × Int := (a % 1001, a % 1001 + b % (1000 - a % 1001 + 1))
theorem tide13_any (a b : Int) (w : World) (ha : 0 ≤ a ∧ a ≤ 65535) (hb : 0 ≤ b ∧ b ≤ 65535) : Calls Tryz.prog 13 #[.agg #[.int .u16 a, .int .u16 b]] w (Rt w (.agg #[iv (tideV a b).1, iv (tideV a b).2])) := by
 have h1 := Int.emod_nonneg a (show (1001 : Int) ≠ 0 by omega)
 have h2 := Int.emod_lt_of_pos a (show (0 : Int) < 1001 by omega)
 have e1 : a.tmod 1001 = a % 1001 := Int.tmod_eq_emod_of_nonneg ha.1
 unfold tideV
 obtain ⟨L, hL⟩ := ex (a % 1001)
 rw [hL] at h1 h2 e1 ⊢
 have h3 := Int.emod_nonneg b (show 1000 - L + 1 ≠ 0 by omega)
 have h4 := Int.emod_lt_of_pos b (show 0 < 1000 - L + 1 by omega)
 have e2 : b.tmod (1000 - L + 1) = b % (1000 - L + 1) := Int.tmod_eq_emod_of_nonneg hb.1
 obtain ⟨R, hR⟩ := ex (b % (1000 - L + 1))
 rw [hR] at h3 h4 e2 ⊢
 have w1 : IntKind.i64.wrap a = a := by rw [IntKind.wrap_i64]; omega
 have w2 : IntKind.i64.wrap b = b := by rw [IntKind.wrap_i64]; omega
 have w3 : IntKind.i64.wrap L = L := by rw [IntKind.wrap_i64]; omega
 have w4 : IntKind.i64.wrap (1000 - L) = 1000 - L := by rw [IntKind.wrap_i64]; omega
 have w5 : IntKind.i64.wrap (1000 - L + 1) = 1000 - L + 1 := by rw [IntKind.wrap_i64]; omega
 have w6 : IntKind.i64.wrap R = R := by rw [IntKind.wrap_i64]; omega
 have w7 : IntKind.i64.wrap (L + R) = L + R := by rw [IntKind.wrap_i64]; omega
 have hne : ((1000 - L + 1 : Int) == 0) = false := beq_eq_false_iff_ne.2 (by omega)
 have HSP := Lq span23_any
 clear hL hR
 go_enter Tryz.func13, Tryz.ntmps13
 go_wp2_with fail
 refine (HSP.out _ _ _).mono ?_
 rintro e w9 ⟨rfl, hb⟩
 obtain ⟨V0, hV0⟩ := ex (((w.alloc (.cells #[.int .u16 a, .int .u16 b] 28)).alloc (.cells #[iv 0, iv 0] 36)))
 have hbV : BW w V0 := by rw [← hV0]; exact belowA (belowA (belowR _) _) _
 have hzV : V0.heap.size = w.heap.size + 2 := by rw [← hV0]; simp
 have kV : Blk V0 (w.heap.size + 1) 36 #[iv 0, iv 0] := by
  rw [← hV0]
  have := Blk.new (w.alloc (.cells #[.int .u16 a, .int .u16 b] 28)) 36 #[iv 0, iv 0]
  rw [World.size_alloc] at this
  exact this
 have hb' : BW V0 w9 := by rw [← hV0]; exact hb
 have k2 := kV.same (hb'.block _ kV.lt)
 have hb2 : BW w w9 := belowT hbV hb'
 have z0 := k2.c 0
 have z1 := k2.c 1
 have f0 := k2.frozen 0
 have f1 := k2.frozen 1
 have hl := k2.lt
 have K2 := Lq k2
 have B2 := Lq hb2
 clear k2 hb2 hb' kV hbV hzV hV0 hb
 go_wp2_with fail
 obtain ⟨wx, hwx⟩ := ex (((w9.setCell ⟨(w.heap.size + 1), 0, none⟩ (iv L)).setCell ⟨(w.heap.size + 1), 1, none⟩ (iv (L + R))))
 have kx : Blk wx (w.heap.size + 1) 36 #[iv L, iv (L + R)] := by
  rw [← hwx]
  exact ((K2.out.set_ 0 _).set_ 1 _)
 have hbx : BW w wx := by
  rw [← hwx]
  exact (belowS (belowS B2.out (by dsimp only; omega) _) (by dsimp only; omega) _)
 rw [hwx]
 have y0 := kx.c 0
 have y1 := kx.c 1
 clear hwx
 refine bodyPost_ret (v := (.agg #[iv L, iv (L + R)])) (by simp [results, Tryz.results13, go_sem, y0, y1]) rfl ?_
 exact ⟨rfl, hbx⟩
def Srcs (w : World) (size : Nat) (src : Value) (m : Nat) (news : List Value) : Prop :=
 (src = .slice none 0 0 ∧ m = 0 ∧ news = []) ∨ ∃ (ad : Addr) (c : Nat), src = .slice (some ad) m c ∧ news.length = m * size ∧ (∀ j u, news[j]? = some u → w.cell? (ad.add j) = some u) ∧ ∀ u ∈ news, u.oneCell' = true
theorem grownBy_refl (w : World) (r : Option Nat) : w.grownBy w r := ⟨rfl, rfl, rfl, Nat.le_refl _, fun _ _ _ => rfl⟩
theorem keepCa {W w1 : World} (hb : BW W w1) {a : Addr} {v : Value} (h : W.cell? a = some v) : w1.cell? a = some v :=
 (World.cell?_of_block (w := W) (a := a) (hb.block a.block (World.block_lt_of_cell? W a h))).trans h
structure RowO where
 v : Value
 e : TypeId
 size : Nat
 n : Nat
 xs : List Value
def Live (w : World) (base : Nat) (L : List (Option RowO)) : Prop :=
 base ≤ w.heap.size ∧ ∀ (i : Nat) (o : RowO), L[i]? = some (some o) → w.ownsRow base o.e o.size o.v o.n o.xs ∧ ∃ g, o.v.ownBlock = some g ∧ ∀ (j : Nat) (o' : RowO), i ≠ j → L[j]? = some (some o') → o'.v.ownBlock ≠ some g
section
variable {w w' : World} {base : Nat} {L : List (Option RowO)}
theorem live_nil (h : base ≤ w.heap.size) : Live w base [none, none, none, none] := ⟨h, fun i o hi => by
 match i with
 | 0 | 1 | 2 | 3 => cases hi
 | i + 4 => simp at hi⟩
theorem live_drew (h : Live w base L) : Live w.drew base L := h
theorem live_drop (h : Live w base L) (k : Nat) : Live w base (L.set k none) := ⟨h.1, fun i o hi => by
 by_cases hk : k = i
 ·subst hk
  rw [List.getElem?_set] at hi
  simp at hi
 ·rw [List.getElem?_set_ne hk] at hi
  obtain ⟨h1, g, h2, h3⟩ := h.2 i o hi
  refine ⟨h1, g, h2, fun j o' hij hj => ?_⟩
  by_cases hk' : k = j
  ·subst hk'
   rw [List.getElem?_set] at hj
   simp at hj
  ·rw [List.getElem?_set_ne hk'] at hj
   exact h3 j o' hij hj⟩
theorem live_own (h : Live w base L) {i : Nat} {o : RowO} (hi : L[i]? = some (some o)) : w.ownsRow base o.e o.size o.v o.n o.xs := (h.2 i o hi).1
theorem live_set (k : Nat) (o : RowO) (hb : base ≤ w'.heap.size) (ho : w'.ownsRow base o.e o.size o.v o.n o.xs) {g : Nat} (hg : o.v.ownBlock = some g)
  (h : ∀ (i : Nat) (o' : RowO), i ≠ k → L[i]? = some (some o') → w'.ownsRow base o'.e o'.size o'.v o'.n o'.xs ∧ o'.v.ownBlock ≠ some g ∧ ∃ g', o'.v.ownBlock = some g' ∧ ∀ (j : Nat) (o'' : RowO), j ≠ k → i ≠ j → L[j]? = some (some o'') → o''.v.ownBlock ≠ some g') : Live w' base (L.set k (some o)) := ⟨hb, fun i o' hi => by
 by_cases hk : k = i
 ·subst hk
  rw [List.getElem?_set] at hi
  simp only [if_true] at hi
  split at hi
  ·simp only [Option.some.injEq] at hi
   subst hi
   refine ⟨ho, g, hg, fun j o' hij hj => ?_⟩
   rw [List.getElem?_set_ne hij] at hj
   exact (h j o' (fun e => hij e.symm) hj).2.1
  ·cases hi
 ·rw [List.getElem?_set_ne hk] at hi
  obtain ⟨h1, h2, g', h3, h4⟩ := h i o' (fun e => hk e.symm) hi
  refine ⟨h1, g', h3, fun j o'' hij hj => ?_⟩
  by_cases hk' : k = j
  ·subst hk'
   rw [List.getElem?_set] at hj
   simp only [if_true] at hj
   split at hj
   ·simp only [Option.some.injEq] at hj
    subst hj
    rw [hg]
    intro e
    exact h2 (h3.trans e.symm)
   ·cases hj
  ·rw [List.getElem?_set_ne hk'] at hj
   exact h4 j o'' (fun e => hk' e.symm) hij hj⟩
theorem live_lit (h : Live w base L) (k : Nat) (cs : Array Value) (e : TypeId) (size n : Nat) (hm : n ≤ maxLen) (hs : cs.size = n * size) : Live (w.alloc (.cells cs e)) base (L.set k (some ⟨.slice (some ⟨w.heap.size, 0, none⟩) n n, e, size, n, cs.toList⟩)) := by
 refine live_set k _ (by simp; have := h.1; omega) (World.ownsRow_lit w cs n h.1 hm hs) (g := w.heap.size) rfl fun i o' _ hi => ?_
 obtain ⟨h1, g', h2, h3⟩ := h.2 i o' hi
 refine ⟨h1.alloc _, fun e => ?_, g', h2, fun j o'' _ hij hj => h3 j o'' hij hj⟩
 have := (h1.lt _ e).2
 omega
theorem live_grow (h : Live w base L) {k : Nat} {o : RowO} (hk : L[k]? = some (some o)) {v' : Value} {n' : Nat} {xs' : List Value} (hg : w.grownBy w' o.v.ownBlock) (ho : w'.ownsRow base o.e o.size v' n' xs') (hv : v'.ownBlock = o.v.ownBlock ∨ v'.ownBlock = some w.heap.size) : Live w' base (L.set k (some ⟨v', o.e, o.size, n', xs'⟩)) := by
 obtain ⟨h1, g, h2, h3⟩ := h.2 k o hk
 obtain ⟨g', hg'⟩ : ∃ g', v'.ownBlock = some g' := by
  rcases hv with hv | hv
  ·exact ⟨g, hv.trans h2⟩
  ·exact ⟨_, hv⟩
 refine live_set k _ (Nat.le_trans h.1 hg.size) ho hg' fun i o' hik hi => ?_
 obtain ⟨k1, gi, k2, k3⟩ := h.2 i o' hi
 have hne : o'.v.ownBlock ≠ o.v.ownBlock := by rw [h2]; exact h3 i o' (fun e => hik e.symm) hi
 refine ⟨k1.kept hg (.inr hne), fun e => ?_, gi, k2, fun j o'' _ hij hj => k3 j o'' hij hj⟩
 rcases hv with hv | hv
 ·rw [hg'] at hv
  exact hne (e.trans hv)
 ·rw [hg'] at hv
  injection hv with hv
  subst hv
  have := (k1.lt _ e).2
  omega
theorem live_src (h : Live w base L) {k : Nat} {o : RowO} (hk : L[k]? = some (some o)) (h1 : ∀ u ∈ o.xs, u.oneCell' = true) : Srcs w o.size o.v o.n o.xs := by
 obtain ⟨ho, g, hg, _⟩ := h.2 k o hk
 have hc := ho.cells hg
 obtain ⟨hl, hr⟩ := ho
 rcases hr with ⟨hv, _⟩ | ⟨g', cap, cur, hv, _, _, _, _, _, _⟩
 ·rw [hv] at hg; cases hg
 ·refine .inr ⟨⟨g', 0, none⟩, cap, hv, hl, fun j u hu => ?_, h1⟩
  rw [hv] at hg
  injection hg with hg
  subst hg
  exact hc j u hu
end
def LiveB (V w : World) (L : List (Option RowO)) : Prop := BW V w ∧ Live w V.heap.size L
section
variable {V w w' : World} {L : List (Option RowO)}
theorem liveB_start : LiveB V V.drew [none, none, none, none] := ⟨belowDq (belowR V), live_drew (live_nil (Nat.le_refl _))⟩
theorem liveB_lit (h : LiveB V w L) (k : Nat) (cs : Array Value) (e : TypeId) (size n : Nat) (hm : n ≤ maxLen) (hs : cs.size = n * size) : LiveB V (w.alloc (.cells cs e)) (L.set k (some ⟨.slice (some ⟨w.heap.size, 0, none⟩) n n, e, size, n, cs.toList⟩)) := ⟨belowA h.1 _, live_lit h.2 k cs e size n hm hs⟩
theorem liveB_drop (h : LiveB V w L) (k : Nat) : LiveB V w (L.set k none) := ⟨h.1, live_drop h.2 k⟩
theorem liveB_grow (h : LiveB V w L) {k : Nat} {o : RowO} (hk : L[k]? = some (some o)) {v' : Value} {n' : Nat} {xs' : List Value} (hg : w.grownBy w' o.v.ownBlock) (ho : w'.ownsRow V.heap.size o.e o.size v' n' xs') (hv : v'.ownBlock = o.v.ownBlock ∨ v'.ownBlock = some w.heap.size) : LiveB V w' (L.set k (some ⟨v', o.e, o.size, n', xs'⟩)) :=
 ⟨grownB (live_own h.2 hk) hg (Nat.le_refl _) h.1, live_grow h.2 hk hg ho hv⟩
theorem srcs_keep (h : LiveB V w L) {size : Nat} {src : Value} {m : Nat} {news : List Value} (hs : Srcs V size src m news) : Srcs w size src m news := by
 rcases hs with h' | ⟨ad, c, h1, h2, h3, h4⟩
 ·exact .inl h'
 ·exact .inr ⟨ad, c, h1, h2, fun j u hu => keepCa h.1 (h3 j u hu), h4⟩
end
theorem step_append_live {P : Program} {V w : World} {L : List (Option RowO)} {ops : Array Oper} {o : Oper} {a : Act} {K : Act → World → Prop} {Q : Exit → Act → World → Prop} {E : Prop} (hgd : o.guard = none) (s x : Operand) (t : TypeId)
  (ho : o.op = .call { callee := .builtin .append, args := #[s, x], argTypes := #[t, t] })
  (hL : LiveB V w L) (k : Nat) (r : RowO) (hk : L[k]? = some (some r))
  (i : TypeInfo) (z : Value) (bytes : Nat) (ht : P.underlying t = some (.slice r.e)) (hi : P.info? r.e = some i) (hz : i.zero = some z)
  (hsize : i.size = r.size) (hby : i.bytes = bytes) (hzs : z.cells.size = r.size) (hsz : 0 < r.size)
  (hs : a.eval s = r.v)
  (src : Value) (m : Nat) (news : List Value) (hx : a.eval x = src) (hsrc : Srcs w r.size src m news)
  (h63 : r.n + m ≤ maxLen) (hbytes : (r.n + m) * bytes ≤ 140737488355328)
  (h : ∀ v' w', LiveB V w' (L.set k (some ⟨v', r.e, r.size, r.n + m, r.xs ++ news⟩)) → K (a.put o.dst v') w') :
  if Region.wanted o (yielded ops a.tmps) = true then Oper.wp P o a w K Q else E := by
 have hw : Region.wanted o (yielded ops a.tmps) = true := by simp [Region.wanted, hgd]
 rw [if_pos hw]
 have hown := live_own hL.2 hk
 have hbase := hL.2.1
 rcases hsrc with ⟨rfl, rfl, rfl⟩ | ⟨ad, c, rfl, hl, hnews, h1⟩
 ·have hr := run_append_owned_none (P := P) w V.heap.size t o.type r.e i r.size ht hi r.v r.n r.xs hown
  unfold Oper.wp execOp
  simp only [ho, resolve, invoke, builtin, Sem.run_bind, Sem.run_pure, Result.andThen_ok, List.map_toArray, List.map_cons, List.map_nil, hs, hx, hr]
  refine h r.v w (liveB_grow hL hk (grownBy_refl _ _) (by simpa using hown) (.inl rfl))
 ·obtain ⟨v', w', hr, h2, h3, _, h5⟩ := run_append_own_at (P := P) w V.heap.size t o.type r.e i z r.size bytes ht hi hz hsize hby hzs hsz r.v r.n r.xs hown ad m c news hl hnews h1 h63 hbytes hbase
  unfold Oper.wp execOp
  simp only [ho, resolve, invoke, builtin, Sem.run_bind, Sem.run_pure, Result.andThen_ok, List.map_toArray, List.map_cons, List.map_nil, hs, hx, hr]
  exact h v' w' (liveB_grow hL hk h3 h2 h5)
structure OneR (base : Nat) (e : TypeId) (s : Nat) (V w : World) (a : Option Nat) (v : Value) (n : Nat) (xs : List Value) : Prop where
 kept : KeptO V w a none
 ow : w.ownsRow base e s v n xs
 wa : v.ownBlock = a ∨ ∃ g, v.ownBlock = some g ∧ V.heap.size ≤ g
section
variable {base : Nat} {e : TypeId} {s : Nat} {V w w' : World} {a : Option Nat} {v : Value} {n : Nat} {xs : List Value}
theorem OneR.start (h : V.ownsRow base e s v n xs) (hb : BW V w) : OneR base e s V w v.ownBlock v n xs := ⟨KeptO.of_below hb, own_below h hb, .inl rfl⟩
theorem OneR.below (h : OneR base e s V w a v n xs) (hb : BW w w') : OneR base e s V w' a v n xs := ⟨h.kept.belowTo hb, own_below h.ow hb, h.wa⟩
theorem OneR.grow (h : OneR base e s V w a v n xs) {g c n' : Nat} {xs' : List Value} (hg : w.grownBy w' v.ownBlock) (ho : w'.ownsRow base e s (.slice (some ⟨g, 0, none⟩) n' c) n' xs') (hat : v.ownBlock = some g ∨ g = w.heap.size) : OneR base e s V w' a (.slice (some ⟨g, 0, none⟩) n' c) n' xs' := by
 refine ⟨kept_grow h.kept hg (h.wa.imp id fun h => .inr h), ho, ?_⟩
 rcases hat with hat | hat
 ·rcases h.wa with e | ⟨x, e, hx⟩
  ·exact .inl (by rw [← e, hat]; rfl)
  ·exact .inr ⟨g, rfl, by rw [hat] at e; injection e with e; omega⟩
 ·exact .inr ⟨g, rfl, by have := h.kept.size; omega⟩
theorem KeptO.own {base2 : Nat} {e2 : TypeId} {s2 n2 : Nat} {v2 : Value} {ys : List Value} (h : KeptO V w a none) (ho : V.ownsRow base2 e2 s2 v2 n2 ys) (hd : ∀ g, v2.ownBlock = some g → a ≠ some g) : w.ownsRow base2 e2 s2 v2 n2 ys :=
 ownKeep ho fun k hk => h.block k (ho.lt k hk).2 (fun e => hd k hk e.symm) (by simp)
theorem news_blkN {t : TypeId} {g : Nat} {cs : Array Value} (h : Blk w g t cs) : ∀ j u, cs.toList[j]? = some u → w.cell? ((⟨g, 0, none⟩ : Addr).add j) = some u := fun j u hu => by
 rw [add_bk, h.cell]
 simpa using hu
end
noncomputable def ops3_37 : Array Oper := opsOf (regionOf Tryz.f3 37)
theorem reg3_37 {Q : Exit → Act → World → Prop} {V : World} {gx : Nat} {a b v R L H : Int} {z0 z1 z2 z4 z5 z6 z7 z8 z9 z10 z11 z12 z13 z14 z15 z16 z17 z18 z19 z20 z21 z22 z23 z24 z25 z26 z27 z28 z29 z30 z31 z32 z33 z34 z35 z36 z37 z38 z39 z40 z41 z42 z43 z44 z45 z46 z47 z48 z49 z50 z51 z52 z53 z54 z55 z56 z57 z58 z59 z60 z61 z62 z63 z64 z65 z66 z67 z68 z69 z70 z71 z72 z73 z74 z75 z76 z77 z78 z79 z80 z81 z82 z83 z84 z85 z86 z87 z88 z89 z90 z91 z92 z93 z94 z95 z96 z97 z98 z99 z100 z101 z102 z103 z104 z105 z106 z107 z108 z109 z110 z111 z112 z113 z114 z115 z116 z117 z118 z119 z120 z121 z122 z123 z124 z125 z126 z127 z128 z129 z130 z131 z132 z133 z134 z135 z136 z137 z138 z139 z140 z141 z142 z143 z144 z145 z146 z147 z148 z149 z150 z151 z152 z153 z154 z155 z156 z157 z158 z159 z160 z161 z162 z163 z164 z165 z166 z167 z168 z169 z170 z171 z172 z173 z174 z175 z176 z177 z178 z179 z180 z181 z182 z183 z184 z185 z186 z187 z188 z189 z190 z191 z192 z193 z194 z195 z196 z197 z198 z199 z200 z201 z202 z203 z204 z205 z206 z207 z208 z209 z210 z211 z212 z213 z214 z215 z216 z217 z218 z219 z220 z221 z222 z223 z224 z225 z226 z227 z228 z229 z230 z231 z232 z233 z234 z235 z236 z237 z238 z239 z240 z241 z242 z243 z244 z245 z246 z247 z248 z249 z250 z251 z252 z253 z254 z255 z256 z257 z258 z259 z260 z261 z262 z263 z264 z265 z266 z267 z268 z269 z270 z271 z272 z273 z274 z275 z276 z277 z278 z279 z280 z281 z282 z283 z284 z285 z286 z287 z288 z289 z290 z291 z292 z293 z294 z295 z296 z297 z298 z299 z300 z301 z302 z303 z304 z305 z306 z307 z308 z309 z310 z311 z312 z313 z314 z315 z316 z317 z318 z319 z320 z321 z322 : Value} (hwv : IntKind.i64.wrap v = v) (hR : v.tmod 1001 = R) (hT : ∀ W, Calls Tryz.prog 13 #[.agg #[.int .u16 a, .int .u16 b]] W (Rt W (.agg #[iv L, iv H])))
  (hS : ∀ W, BW V W → W.cell? ⟨gx, 3, none⟩ = some (.int .u16 a) ∧ W.cell? ⟨gx, 4, none⟩ = some (.int .u16 b) ∧ W.cell? ⟨gx, 5, none⟩ = some (.int .u16 v))
  (hQ : ∀ (gn : Nat) u204 u205 u206 u207 u208 u209 u210 wx, (V.heap.size ≤ gn ∧ BW V wx ∧ Blk wx gn 36 #[iv L, iv H]) → Q .normal ⟨((z0 :: z1 :: z2 :: (.pointer (some ⟨gx, 0, none⟩)) :: z4 :: z5 :: z6 :: z7 :: z8 :: z9 :: z10 :: z11 :: z12 :: z13 :: z14 :: z15 :: z16 :: z17 :: z18 :: z19 :: z20 :: z21 :: z22 :: z23 :: (iv R) :: (.pointer (some ⟨gn, 0, none⟩)) :: z26 :: z27 :: z28 :: z29 :: z30 :: z31 :: z32 :: z33 :: z34 :: z35 :: z36 :: z37 :: z38 :: z39 :: z40 :: z41 :: z42 :: z43 :: z44 :: z45 :: z46 :: z47 :: z48 :: z49 :: z50 :: z51 :: z52 :: z53 :: z54 :: z55 :: z56 :: z57 :: z58 :: z59 :: z60 :: z61 :: z62 :: z63 :: z64 :: z65 :: z66 :: z67 :: z68 :: z69 :: z70 :: z71 :: z72 :: z73 :: z74 :: z75 :: z76 :: z77 :: z78 :: z79 :: z80 :: z81 :: z82 :: z83 :: z84 :: z85 :: z86 :: z87 :: z88 :: z89 :: z90 :: z91 :: z92 :: z93 :: z94 :: z95 :: z96 :: z97 :: z98 :: z99 :: z100 :: z101 :: z102 :: z103 :: z104 :: z105 :: z106 :: z107 :: z108 :: z109 :: z110 :: z111 :: z112 :: z113 :: z114 :: z115 :: z116 :: z117 :: z118 :: z119 :: z120 :: z121 :: z122 :: z123 :: z124 :: z125 :: z126 :: z127 :: z128 :: z129 :: z130 :: z131 :: z132 :: z133 :: z134 :: z135 :: z136 :: z137 :: z138 :: z139 :: z140 :: z141 :: z142 :: z143 :: z144 :: z145 :: z146 :: z147 :: z148 :: z149 :: z150 :: z151 :: z152 :: z153 :: z154 :: z155 :: z156 :: z157 :: z158 :: z159 :: z160 :: z161 :: z162 :: z163 :: z164 :: z165 :: z166 :: z167 :: z168 :: z169 :: z170 :: z171 :: z172 :: z173 :: z174 :: z175 :: z176 :: z177 :: z178 :: z179 :: z180 :: z181 :: z182 :: z183 :: z184 :: z185 :: z186 :: z187 :: z188 :: z189 :: z190 :: z191 :: z192 :: z193 :: z194 :: z195 :: z196 :: z197 :: z198 :: z199 :: z200 :: z201 :: z202 :: z203 :: u204 :: u205 :: u206 :: u207 :: u208 :: u209 :: u210 :: z211 :: z212 :: z213 :: z214 :: z215 :: z216 :: z217 :: z218 :: z219 :: z220 :: z221 :: z222 :: z223 :: z224 :: z225 :: z226 :: z227 :: z228 :: z229 :: z230 :: z231 :: z232 :: z233 :: z234 :: z235 :: z236 :: z237 :: z238 :: z239 :: z240 :: z241 :: z242 :: z243 :: z244 :: z245 :: z246 :: z247 :: z248 :: z249 :: z250 :: z251 :: z252 :: z253 :: z254 :: z255 :: z256 :: z257 :: z258 :: z259 :: z260 :: z261 :: z262 :: z263 :: z264 :: z265 :: z266 :: z267 :: z268 :: z269 :: z270 :: z271 :: z272 :: z273 :: z274 :: z275 :: z276 :: z277 :: z278 :: z279 :: z280 :: z281 :: z282 :: z283 :: z284 :: z285 :: z286 :: z287 :: z288 :: z289 :: z290 :: z291 :: z292 :: z293 :: z294 :: z295 :: z296 :: z297 :: z298 :: z299 :: z300 :: z301 :: z302 :: z303 :: z304 :: z305 :: z306 :: z307 :: z308 :: z309 :: z310 :: z311 :: z312 :: z313 :: z314 :: z315 :: z316 :: z317 :: z318 :: z319 :: z320 :: z321 :: z322 :: [] : List Value).toArray), []⟩ wx) :
  (regionOf Tryz.f3 37).wp Tryz.prog Q ⟨((z0 :: z1 :: z2 :: (.pointer (some ⟨gx, 0, none⟩)) :: z4 :: z5 :: z6 :: z7 :: z8 :: z9 :: z10 :: z11 :: z12 :: z13 :: z14 :: z15 :: z16 :: z17 :: z18 :: z19 :: z20 :: z21 :: z22 :: z23 :: z24 :: z25 :: z26 :: z27 :: z28 :: z29 :: z30 :: z31 :: z32 :: z33 :: z34 :: z35 :: z36 :: z37 :: z38 :: z39 :: z40 :: z41 :: z42 :: z43 :: z44 :: z45 :: z46 :: z47 :: z48 :: z49 :: z50 :: z51 :: z52 :: z53 :: z54 :: z55 :: z56 :: z57 :: z58 :: z59 :: z60 :: z61 :: z62 :: z63 :: z64 :: z65 :: z66 :: z67 :: z68 :: z69 :: z70 :: z71 :: z72 :: z73 :: z74 :: z75 :: z76 :: z77 :: z78 :: z79 :: z80 :: z81 :: z82 :: z83 :: z84 :: z85 :: z86 :: z87 :: z88 :: z89 :: z90 :: z91 :: z92 :: z93 :: z94 :: z95 :: z96 :: z97 :: z98 :: z99 :: z100 :: z101 :: z102 :: z103 :: z104 :: z105 :: z106 :: z107 :: z108 :: z109 :: z110 :: z111 :: z112 :: z113 :: z114 :: z115 :: z116 :: z117 :: z118 :: z119 :: z120 :: z121 :: z122 :: z123 :: z124 :: z125 :: z126 :: z127 :: z128 :: z129 :: z130 :: z131 :: z132 :: z133 :: z134 :: z135 :: z136 :: z137 :: z138 :: z139 :: z140 :: z141 :: z142 :: z143 :: z144 :: z145 :: z146 :: z147 :: z148 :: z149 :: z150 :: z151 :: z152 :: z153 :: z154 :: z155 :: z156 :: z157 :: z158 :: z159 :: z160 :: z161 :: z162 :: z163 :: z164 :: z165 :: z166 :: z167 :: z168 :: z169 :: z170 :: z171 :: z172 :: z173 :: z174 :: z175 :: z176 :: z177 :: z178 :: z179 :: z180 :: z181 :: z182 :: z183 :: z184 :: z185 :: z186 :: z187 :: z188 :: z189 :: z190 :: z191 :: z192 :: z193 :: z194 :: z195 :: z196 :: z197 :: z198 :: z199 :: z200 :: z201 :: z202 :: z203 :: z204 :: z205 :: z206 :: z207 :: z208 :: z209 :: z210 :: z211 :: z212 :: z213 :: z214 :: z215 :: z216 :: z217 :: z218 :: z219 :: z220 :: z221 :: z222 :: z223 :: z224 :: z225 :: z226 :: z227 :: z228 :: z229 :: z230 :: z231 :: z232 :: z233 :: z234 :: z235 :: z236 :: z237 :: z238 :: z239 :: z240 :: z241 :: z242 :: z243 :: z244 :: z245 :: z246 :: z247 :: z248 :: z249 :: z250 :: z251 :: z252 :: z253 :: z254 :: z255 :: z256 :: z257 :: z258 :: z259 :: z260 :: z261 :: z262 :: z263 :: z264 :: z265 :: z266 :: z267 :: z268 :: z269 :: z270 :: z271 :: z272 :: z273 :: z274 :: z275 :: z276 :: z277 :: z278 :: z279 :: z280 :: z281 :: z282 :: z283 :: z284 :: z285 :: z286 :: z287 :: z288 :: z289 :: z290 :: z291 :: z292 :: z293 :: z294 :: z295 :: z296 :: z297 :: z298 :: z299 :: z300 :: z301 :: z302 :: z303 :: z304 :: z305 :: z306 :: z307 :: z308 :: z309 :: z310 :: z311 :: z312 :: z313 :: z314 :: z315 :: z316 :: z317 :: z318 :: z319 :: z320 :: z321 :: z322 :: [] : List Value).toArray), []⟩ V := by
 have HT := Lq hT
 clear hT
 have HS := Lq hS
 have HQ := Lq hQ
 clear hQ
 refine go0 (ops := ops3_37) (r := 37) (n := 10) hS fun V0 HB0 hHeld => ?_
 clear hS
 refine tk 0 (.pointer (some ⟨gx, 5, none⟩)) ?_
 refine tk 4 (.pointer (some ⟨gx, 3, none⟩)) ?_
 refine tk 1 (.int .u16 v) ?_
 refine tk 5 (.agg #[.int .u16 a, .int .u16 b]) ?_
 refine tk 2 (iv v) ?_
 refine tk 3 (iv R) ?_
 refine rd2 6 7 (fun K' hK => ?_) fun K' hK => ?_
 ·go_simp
  refine (HT.out _).mono ?_
  rintro e wc ⟨rfl, hb⟩
  have HBc := Lq (belowT HB0.out hb)
  clear hb
  refine hK.out _ _ (HS.out _ HBc.out) (fun hHeld => ?_)
  clear hK
  refine rd1 7 fun K' hK => ?_
  go_simp
  have K1 := Lq (Blk.new wc 36 #[iv 0, iv 0])
  have HBa := Lq (belowA HBc.out (.cells #[iv 0, iv 0] 36))
  have hgn : V.heap.size ≤ wc.heap.size := HBc.out.size
  obtain ⟨wa, hwa⟩ := ex (wc.alloc (.cells #[iv 0, iv 0] 36))
  obtain ⟨gn, hgn2⟩ := ex wc.heap.size
  rw [hwa] at K1 HBa ⊢
  rw [hgn2] at K1 hgn ⊢
  refine hK.out _ _ (HS.out _ HBa.out) (fun hHeld => ?_)
  clear hwa hgn2
  clear hK
  refine tk 8 (iv R) ?_
  refine rd1 9 fun K' hK => ?_
  have z0 := K1.out.c 0
  have z1 := K1.out.c 1
  have f0 := K1.out.frozen 0
  have f1 := K1.out.frozen 1
  have hl := K1.out.lt
  go_simp
  have KX := Lq ((K1.out.set_ 0 (iv L)).set_ 1 (iv H))
  have HBX := Lq (belowS (belowS HBa.out hgn (p := ⟨gn, 0, none⟩) (iv L)) hgn (p := ⟨gn, 1, none⟩) (iv H))
  refine hK.out _ _ (HS.out _ HBX.out) (fun hHeld => ?_)
  clear z0 z1 f0 f1 hl
  clear hK
  refine wpAnyH_done (by kernel_rfl) ?_ _
  exact NoPanic.normal (HQ.out gn _ _ _ _ _ _ _ _ ⟨hgn, HBX.out, KX.out⟩)
 ·go_simp
  have K1 := Lq (Blk.new V0 36 #[iv 0, iv 0])
  have HBa := Lq (belowA HB0.out (.cells #[iv 0, iv 0] 36))
  have hgn : V.heap.size ≤ V0.heap.size := HB0.out.size
  obtain ⟨wa, hwa⟩ := ex (V0.alloc (.cells #[iv 0, iv 0] 36))
  obtain ⟨gn, hgn2⟩ := ex V0.heap.size
  rw [hwa] at K1 HBa ⊢
  rw [hgn2] at K1 hgn ⊢
  refine hK.out _ _ (HS.out _ HBa.out) (fun hHeld => ?_)
  clear hwa hgn2
  clear hK
  refine rd1 6 fun K' hK => ?_
  go_simp
  refine (HT.out _).mono ?_
  rintro e wc ⟨rfl, hb⟩
  have HBc := Lq (belowT HBa.out hb)
  have K2 := Lq (K1.out.same (hb.block _ K1.out.lt))
  clear K1
  clear hb
  refine hK.out _ _ (HS.out _ HBc.out) (fun hHeld => ?_)
  clear hK
  refine tk 8 (iv R) ?_
  refine rd1 9 fun K' hK => ?_
  have z0 := K2.out.c 0
  have z1 := K2.out.c 1
  have f0 := K2.out.frozen 0
  have f1 := K2.out.frozen 1
  have hl := K2.out.lt
  go_simp
  have KX := Lq ((K2.out.set_ 0 (iv L)).set_ 1 (iv H))
  have HBX := Lq (belowS (belowS HBc.out hgn (p := ⟨gn, 0, none⟩) (iv L)) hgn (p := ⟨gn, 1, none⟩) (iv H))
  refine hK.out _ _ (HS.out _ HBX.out) (fun hHeld => ?_)
  clear z0 z1 f0 f1 hl
  clear hK
  refine wpAnyH_done (by kernel_rfl) ?_ _
  exact NoPanic.normal (HQ.out gn _ _ _ _ _ _ _ _ ⟨hgn, HBX.out, KX.out⟩)
noncomputable def ops3_49 : Array Oper := opsOf (regionOf Tryz.f3 49)
theorem reg3_49 {Q : Exit → Act → World → Prop} {V : World} {gs gx : Nat} {lo hi v d D R M : Int} {z0 z1 z2 z4 z5 z6 z7 z8 z9 z10 z11 z12 z13 z14 z15 z16 z17 z18 z19 z20 z21 z22 z23 z24 z26 z27 z28 z29 z30 z31 z32 z33 z34 z35 z36 z37 z38 z39 z40 z41 z42 z43 z44 z45 z46 z47 z48 z49 z50 z51 z52 z53 z54 z55 z56 z57 z58 z59 z60 z61 z62 z63 z64 z65 z66 z67 z68 z69 z70 z71 z72 z73 z74 z75 z76 z77 z78 z79 z80 z81 z82 z83 z84 z85 z86 z87 z88 z89 z90 z91 z92 z93 z94 z95 z96 z97 z98 z99 z100 z101 z102 z103 z104 z105 z106 z107 z108 z109 z110 z111 z112 z113 z114 z115 z116 z117 z118 z119 z120 z121 z122 z123 z124 z125 z126 z127 z128 z129 z130 z131 z132 z133 z134 z135 z136 z137 z138 z139 z140 z141 z142 z143 z144 z145 z146 z147 z148 z149 z150 z151 z152 z153 z154 z155 z156 z157 z158 z159 z160 z161 z162 z163 z164 z165 z166 z167 z168 z169 z170 z171 z172 z173 z174 z175 z176 z177 z178 z179 z180 z181 z182 z183 z184 z185 z186 z187 z188 z189 z190 z191 z192 z193 z194 z195 z196 z197 z198 z199 z200 z201 z202 z203 z204 z205 z206 z207 z208 z209 z210 z211 z212 z213 z214 z215 z216 z217 z218 z219 z220 z221 z222 z223 z224 z225 z226 z227 z228 z229 z230 z231 z232 z233 z234 z235 z236 z237 z238 z239 z240 z241 z242 z243 z244 z245 z246 z247 z248 z249 z250 z251 z252 z253 z254 z255 z256 z257 z258 z259 z260 z261 z262 z263 z264 z265 z266 z267 z268 z269 z270 z271 z272 z273 z274 z275 z276 z277 z278 z279 z280 z281 z282 z283 z284 z285 z286 z287 z288 z289 z290 z291 z292 z293 z294 z295 z296 z297 z298 z299 z300 z301 z302 z303 z304 z305 z306 z307 z308 z309 z310 z311 z312 z313 z314 z315 z316 z317 z318 z319 z320 z321 z322 : Value} (hwv : IntKind.i64.wrap v = v) (hd : IntKind.i64.wrap (hi - lo) = d) (hD : IntKind.i64.wrap (d + 1) = D) (hD0 : 0 < D) (hR : v.tmod D = R) (hM : IntKind.i64.wrap (lo + R) = M)
  (hS : ∀ W, BW V W → W.cell? ⟨gs, 0, none⟩ = some (iv lo) ∧ W.cell? ⟨gs, 1, none⟩ = some (iv hi) ∧ W.cell? ⟨gx, 5, none⟩ = some (.int .u16 v))
  (hQ : ∀  u295 u296 u297 u298 u299 u300 u301 u302 u303 u304 u305 u306 u307 wx, BW V wx → Q .normal ⟨((z0 :: z1 :: z2 :: (.pointer (some ⟨gx, 0, none⟩)) :: z4 :: z5 :: z6 :: z7 :: z8 :: z9 :: z10 :: z11 :: z12 :: z13 :: z14 :: z15 :: z16 :: z17 :: z18 :: z19 :: z20 :: z21 :: z22 :: z23 :: z24 :: (.pointer (some ⟨gs, 0, none⟩)) :: z26 :: z27 :: z28 :: z29 :: z30 :: z31 :: z32 :: z33 :: (iv M) :: z35 :: z36 :: z37 :: z38 :: z39 :: z40 :: z41 :: z42 :: z43 :: z44 :: z45 :: z46 :: z47 :: z48 :: z49 :: z50 :: z51 :: z52 :: z53 :: z54 :: z55 :: z56 :: z57 :: z58 :: z59 :: z60 :: z61 :: z62 :: z63 :: z64 :: z65 :: z66 :: z67 :: z68 :: z69 :: z70 :: z71 :: z72 :: z73 :: z74 :: z75 :: z76 :: z77 :: z78 :: z79 :: z80 :: z81 :: z82 :: z83 :: z84 :: z85 :: z86 :: z87 :: z88 :: z89 :: z90 :: z91 :: z92 :: z93 :: z94 :: z95 :: z96 :: z97 :: z98 :: z99 :: z100 :: z101 :: z102 :: z103 :: z104 :: z105 :: z106 :: z107 :: z108 :: z109 :: z110 :: z111 :: z112 :: z113 :: z114 :: z115 :: z116 :: z117 :: z118 :: z119 :: z120 :: z121 :: z122 :: z123 :: z124 :: z125 :: z126 :: z127 :: z128 :: z129 :: z130 :: z131 :: z132 :: z133 :: z134 :: z135 :: z136 :: z137 :: z138 :: z139 :: z140 :: z141 :: z142 :: z143 :: z144 :: z145 :: z146 :: z147 :: z148 :: z149 :: z150 :: z151 :: z152 :: z153 :: z154 :: z155 :: z156 :: z157 :: z158 :: z159 :: z160 :: z161 :: z162 :: z163 :: z164 :: z165 :: z166 :: z167 :: z168 :: z169 :: z170 :: z171 :: z172 :: z173 :: z174 :: z175 :: z176 :: z177 :: z178 :: z179 :: z180 :: z181 :: z182 :: z183 :: z184 :: z185 :: z186 :: z187 :: z188 :: z189 :: z190 :: z191 :: z192 :: z193 :: z194 :: z195 :: z196 :: z197 :: z198 :: z199 :: z200 :: z201 :: z202 :: z203 :: z204 :: z205 :: z206 :: z207 :: z208 :: z209 :: z210 :: z211 :: z212 :: z213 :: z214 :: z215 :: z216 :: z217 :: z218 :: z219 :: z220 :: z221 :: z222 :: z223 :: z224 :: z225 :: z226 :: z227 :: z228 :: z229 :: z230 :: z231 :: z232 :: z233 :: z234 :: z235 :: z236 :: z237 :: z238 :: z239 :: z240 :: z241 :: z242 :: z243 :: z244 :: z245 :: z246 :: z247 :: z248 :: z249 :: z250 :: z251 :: z252 :: z253 :: z254 :: z255 :: z256 :: z257 :: z258 :: z259 :: z260 :: z261 :: z262 :: z263 :: z264 :: z265 :: z266 :: z267 :: z268 :: z269 :: z270 :: z271 :: z272 :: z273 :: z274 :: z275 :: z276 :: z277 :: z278 :: z279 :: z280 :: z281 :: z282 :: z283 :: z284 :: z285 :: z286 :: z287 :: z288 :: z289 :: z290 :: z291 :: z292 :: z293 :: z294 :: u295 :: u296 :: u297 :: u298 :: u299 :: u300 :: u301 :: u302 :: u303 :: u304 :: u305 :: u306 :: u307 :: z308 :: z309 :: z310 :: z311 :: z312 :: z313 :: z314 :: z315 :: z316 :: z317 :: z318 :: z319 :: z320 :: z321 :: z322 :: [] : List Value).toArray), []⟩ wx) :
  (regionOf Tryz.f3 49).wp Tryz.prog Q ⟨((z0 :: z1 :: z2 :: (.pointer (some ⟨gx, 0, none⟩)) :: z4 :: z5 :: z6 :: z7 :: z8 :: z9 :: z10 :: z11 :: z12 :: z13 :: z14 :: z15 :: z16 :: z17 :: z18 :: z19 :: z20 :: z21 :: z22 :: z23 :: z24 :: (.pointer (some ⟨gs, 0, none⟩)) :: z26 :: z27 :: z28 :: z29 :: z30 :: z31 :: z32 :: z33 :: z34 :: z35 :: z36 :: z37 :: z38 :: z39 :: z40 :: z41 :: z42 :: z43 :: z44 :: z45 :: z46 :: z47 :: z48 :: z49 :: z50 :: z51 :: z52 :: z53 :: z54 :: z55 :: z56 :: z57 :: z58 :: z59 :: z60 :: z61 :: z62 :: z63 :: z64 :: z65 :: z66 :: z67 :: z68 :: z69 :: z70 :: z71 :: z72 :: z73 :: z74 :: z75 :: z76 :: z77 :: z78 :: z79 :: z80 :: z81 :: z82 :: z83 :: z84 :: z85 :: z86 :: z87 :: z88 :: z89 :: z90 :: z91 :: z92 :: z93 :: z94 :: z95 :: z96 :: z97 :: z98 :: z99 :: z100 :: z101 :: z102 :: z103 :: z104 :: z105 :: z106 :: z107 :: z108 :: z109 :: z110 :: z111 :: z112 :: z113 :: z114 :: z115 :: z116 :: z117 :: z118 :: z119 :: z120 :: z121 :: z122 :: z123 :: z124 :: z125 :: z126 :: z127 :: z128 :: z129 :: z130 :: z131 :: z132 :: z133 :: z134 :: z135 :: z136 :: z137 :: z138 :: z139 :: z140 :: z141 :: z142 :: z143 :: z144 :: z145 :: z146 :: z147 :: z148 :: z149 :: z150 :: z151 :: z152 :: z153 :: z154 :: z155 :: z156 :: z157 :: z158 :: z159 :: z160 :: z161 :: z162 :: z163 :: z164 :: z165 :: z166 :: z167 :: z168 :: z169 :: z170 :: z171 :: z172 :: z173 :: z174 :: z175 :: z176 :: z177 :: z178 :: z179 :: z180 :: z181 :: z182 :: z183 :: z184 :: z185 :: z186 :: z187 :: z188 :: z189 :: z190 :: z191 :: z192 :: z193 :: z194 :: z195 :: z196 :: z197 :: z198 :: z199 :: z200 :: z201 :: z202 :: z203 :: z204 :: z205 :: z206 :: z207 :: z208 :: z209 :: z210 :: z211 :: z212 :: z213 :: z214 :: z215 :: z216 :: z217 :: z218 :: z219 :: z220 :: z221 :: z222 :: z223 :: z224 :: z225 :: z226 :: z227 :: z228 :: z229 :: z230 :: z231 :: z232 :: z233 :: z234 :: z235 :: z236 :: z237 :: z238 :: z239 :: z240 :: z241 :: z242 :: z243 :: z244 :: z245 :: z246 :: z247 :: z248 :: z249 :: z250 :: z251 :: z252 :: z253 :: z254 :: z255 :: z256 :: z257 :: z258 :: z259 :: z260 :: z261 :: z262 :: z263 :: z264 :: z265 :: z266 :: z267 :: z268 :: z269 :: z270 :: z271 :: z272 :: z273 :: z274 :: z275 :: z276 :: z277 :: z278 :: z279 :: z280 :: z281 :: z282 :: z283 :: z284 :: z285 :: z286 :: z287 :: z288 :: z289 :: z290 :: z291 :: z292 :: z293 :: z294 :: z295 :: z296 :: z297 :: z298 :: z299 :: z300 :: z301 :: z302 :: z303 :: z304 :: z305 :: z306 :: z307 :: z308 :: z309 :: z310 :: z311 :: z312 :: z313 :: z314 :: z315 :: z316 :: z317 :: z318 :: z319 :: z320 :: z321 :: z322 :: [] : List Value).toArray), []⟩ V := by
 have HS := Lq hS
 have HQ := Lq hQ
 clear hQ
 refine go0 (ops := ops3_49) (r := 49) (n := 14) hS fun V0 HB0 hHeld => ?_
 clear hS
 refine tk 0 (.pointer (some ⟨gs, 0, none⟩)) ?_
 refine tk 2 (.pointer (some ⟨gx, 5, none⟩)) ?_
 refine tk 5 (.pointer (some ⟨gs, 1, none⟩)) ?_
 refine tk 7 (.pointer (some ⟨gs, 0, none⟩)) ?_
 refine tk 1 (iv lo) ?_
 refine tk 3 (.int .u16 v) ?_
 refine tk 6 (iv hi) ?_
 refine tk 8 (iv lo) ?_
 refine tk 4 (iv v) ?_
 refine tk 9 (iv d) ?_
 refine tk 10 (iv D) ?_
 refine tkO 11 (iv R) ?_
 refine tk 12 (iv M) ?_
 refine tk 13 (iv M) ?_
 refine wpAnyH_done (by kernel_rfl) ?_ _
 exact NoPanic.normal (HQ.out _ _ _ _ _ _ _ _ _ _ _ _ _ _ HB0.out)
theorem tideV_bd (a b : Int) : 0 ≤ (tideV a b).1 ∧ (tideV a b).1 ≤ (tideV a b).2 ∧ (tideV a b).2 ≤ 1000 := by
 unfold tideV
 have h1 := Int.emod_nonneg a (show (1001 : Int) ≠ 0 by omega)
 have h2 := Int.emod_lt_of_pos a (show (0 : Int) < 1001 by omega)
 have h3 := Int.emod_nonneg b (show 1000 - a % 1001 + 1 ≠ 0 by omega)
 have h4 := Int.emod_lt_of_pos b (show 0 < 1000 - a % 1001 + 1 by omega)
 simp only
 omega
theorem f3_37 {K : Act → World → Prop} {w0 V : World} {h f : StH} {A AF A1 A2 : Option Addr} {cap cF c1 c2 gh gx gt gf : Nat} {tw tl : List Int} {s0 s1 s2 : Value} {ta tb wa : Int} {z0 z1 z4 z5 z6 z7 z8 z9 z10 z11 z12 z14 z15 z16 z17 z18 z19 z20 z22 z23 z24 z25 z26 z27 z28 z29 z30 z31 z32 z33 z34 z35 z36 z37 z38 z39 z40 z41 z42 z43 z44 z45 z46 z47 z48 z49 z50 z51 z52 z53 z54 z55 z56 z57 z58 z59 z60 z61 z62 z63 z64 z65 z66 z67 z68 z69 z70 z71 z72 z73 z74 z75 z76 z77 z78 z79 z80 z81 z82 z83 z84 z85 z86 z87 z88 z89 z90 z91 z92 z93 z94 z95 z96 z97 z98 z99 z100 z101 z102 z103 z104 z105 z106 z107 z108 z109 z110 z111 z112 z113 z114 z115 z116 z117 z118 z119 z120 z121 z122 z123 z124 z125 z126 z127 z128 z129 z130 z131 z132 z133 z134 z135 z136 z137 z138 z139 z140 z141 z142 z143 z144 z145 z146 z147 z148 z149 z150 z151 z152 z153 z154 z155 z156 z157 z158 z159 z160 z161 z162 z163 z164 z165 z166 z167 z168 z169 z170 z171 z172 z173 z174 z175 z176 z177 z178 z179 z180 z181 z182 z183 z184 z185 z186 z187 z188 z189 z190 z191 z192 z193 z194 z195 z196 z197 z198 z199 z200 z201 z202 z203 z204 z205 z206 z207 z208 z209 z210 z211 z212 z213 z214 z215 z216 z217 z218 z219 z220 z221 z222 z223 z224 z225 z226 z227 z228 z229 z230 z231 z232 z233 z234 z235 z236 z237 z238 z239 z240 z241 z242 z243 z244 z245 z246 z247 z248 z249 z250 z251 z252 z253 z254 z255 z256 z257 z258 z259 z260 z261 z262 z263 z264 z265 z266 z267 z268 z269 z270 z271 z272 z273 z274 z275 z276 z277 z278 z279 z280 z281 z282 z283 z284 z285 z286 z287 z288 z289 z290 z291 z292 z293 z294 z295 z296 z297 z298 z299 z300 z301 z302 z303 z304 z305 z306 z307 z308 z309 z310 z311 z312 z313 z314 z315 z316 z317 z318 z319 z320 z321 z322 : Value}
  (hK : ∀ a w, (restOf Tryz.f3 37).wp Tryz.prog (bodyPost Tryz.prog Tryz.f3 ((Rt w0 (.bool true)))) a w → K a w)
  (hB0 : BW w0 V)
  (hgh : Blk V gh 24 #[.slice A h.ps.length cap, iv h.aft, iv h.fore]) (hgx : Blk V gx 30 #[s0, s1, s2, .int .u16 ta, .int .u16 tb, .int .u16 wa])
  (hgt : Blk V gt 49 #[.slice A1 tw.length c1, .slice A2 tl.length c2]) (hgf : Blk V gf 24 #[.slice AF f.ps.length cF, iv f.aft, iv f.fore])
  (hH : H5Rd V V.heap.size h A cap) (hF : H5Rd V V.heap.size f AF cF) (hT : T5Rd V V.heap.size tw tl A1 A2)
  (FIN : FinerH h f) (hc : chk5 h = (0, 0, 0)) (hcf : chk5 f = (0, 0, 0)) (hth : TruthOf h tw tl) (htf : TruthOf f tw tl)
  (ha : 0 ≤ ta ∧ ta ≤ 65535) (hb : 0 ≤ tb ∧ tb ≤ 65535) (hw : 0 ≤ wa ∧ wa ≤ 65535) :
  (regionOf Tryz.f3 37).wp Tryz.prog (Exit.then K (bodyPost Tryz.prog Tryz.f3 ((Rt w0 (.bool true))))) ⟨((z0 :: z1 :: (pT gh 0) :: (pT gx 0) :: z4 :: z5 :: z6 :: z7 :: z8 :: z9 :: z10 :: z11 :: z12 :: (pT gt 0) :: z14 :: z15 :: z16 :: z17 :: z18 :: z19 :: z20 :: (pT gf 0) :: z22 :: z23 :: z24 :: z25 :: z26 :: z27 :: z28 :: z29 :: z30 :: z31 :: z32 :: z33 :: z34 :: z35 :: z36 :: z37 :: z38 :: z39 :: z40 :: z41 :: z42 :: z43 :: z44 :: z45 :: z46 :: z47 :: z48 :: z49 :: z50 :: z51 :: z52 :: z53 :: z54 :: z55 :: z56 :: z57 :: z58 :: z59 :: z60 :: z61 :: z62 :: z63 :: z64 :: z65 :: z66 :: z67 :: z68 :: z69 :: z70 :: z71 :: z72 :: z73 :: z74 :: z75 :: z76 :: z77 :: z78 :: z79 :: z80 :: z81 :: z82 :: z83 :: z84 :: z85 :: z86 :: z87 :: z88 :: z89 :: z90 :: z91 :: z92 :: z93 :: z94 :: z95 :: z96 :: z97 :: z98 :: z99 :: z100 :: z101 :: z102 :: z103 :: z104 :: z105 :: z106 :: z107 :: z108 :: z109 :: z110 :: z111 :: z112 :: z113 :: z114 :: z115 :: z116 :: z117 :: z118 :: z119 :: z120 :: z121 :: z122 :: z123 :: z124 :: z125 :: z126 :: z127 :: z128 :: z129 :: z130 :: z131 :: z132 :: z133 :: z134 :: z135 :: z136 :: z137 :: z138 :: z139 :: z140 :: z141 :: z142 :: z143 :: z144 :: z145 :: z146 :: z147 :: z148 :: z149 :: z150 :: z151 :: z152 :: z153 :: z154 :: z155 :: z156 :: z157 :: z158 :: z159 :: z160 :: z161 :: z162 :: z163 :: z164 :: z165 :: z166 :: z167 :: z168 :: z169 :: z170 :: z171 :: z172 :: z173 :: z174 :: z175 :: z176 :: z177 :: z178 :: z179 :: z180 :: z181 :: z182 :: z183 :: z184 :: z185 :: z186 :: z187 :: z188 :: z189 :: z190 :: z191 :: z192 :: z193 :: z194 :: z195 :: z196 :: z197 :: z198 :: z199 :: z200 :: z201 :: z202 :: z203 :: z204 :: z205 :: z206 :: z207 :: z208 :: z209 :: z210 :: z211 :: z212 :: z213 :: z214 :: z215 :: z216 :: z217 :: z218 :: z219 :: z220 :: z221 :: z222 :: z223 :: z224 :: z225 :: z226 :: z227 :: z228 :: z229 :: z230 :: z231 :: z232 :: z233 :: z234 :: z235 :: z236 :: z237 :: z238 :: z239 :: z240 :: z241 :: z242 :: z243 :: z244 :: z245 :: z246 :: z247 :: z248 :: z249 :: z250 :: z251 :: z252 :: z253 :: z254 :: z255 :: z256 :: z257 :: z258 :: z259 :: z260 :: z261 :: z262 :: z263 :: z264 :: z265 :: z266 :: z267 :: z268 :: z269 :: z270 :: z271 :: z272 :: z273 :: z274 :: z275 :: z276 :: z277 :: z278 :: z279 :: z280 :: z281 :: z282 :: z283 :: z284 :: z285 :: z286 :: z287 :: z288 :: z289 :: z290 :: z291 :: z292 :: z293 :: z294 :: z295 :: z296 :: z297 :: z298 :: z299 :: z300 :: z301 :: z302 :: z303 :: z304 :: z305 :: z306 :: z307 :: z308 :: z309 :: z310 :: z311 :: z312 :: z313 :: z314 :: z315 :: z316 :: z317 :: z318 :: z319 :: z320 :: z321 :: z322 :: [] : List Value).toArray), []⟩ V := by
 obtain ⟨cc, hcc⟩ : ∃ c, c = restOf Tryz.f3 37 := ⟨_, rfl⟩
 rw [← hcc] at hK
 conv at hcc => rhs; whnf
 subst hcc
 obtain ⟨hR0, hR1⟩ : 0 ≤ wa % 1001 ∧ wa % 1001 ≤ 1000 := ⟨Int.emod_nonneg _ (by omega), by have := Int.emod_lt_of_pos wa (show (0 : Int) < 1001 by omega); omega⟩
 have eR : wa.tmod 1001 = wa % 1001 := Int.tmod_eq_emod_of_nonneg hw.1
 obtain ⟨R, hRR⟩ := ex (wa % 1001)
 rw [hRR] at hR0 hR1 eR
 have htd : ∀ W, Calls Tryz.prog 13 #[.agg #[.int .u16 ta, .int .u16 tb]] W (Rt W (.agg #[iv (tideV ta tb).1, iv (tideV ta tb).2])) := fun W => tide13_any ta tb W ha hb
 obtain ⟨q0, q1, q2⟩ := tideV_bd ta tb
 obtain ⟨LO, hLO⟩ := ex ((tideV ta tb).1)
 obtain ⟨HI, hHI⟩ := ex ((tideV ta tb).2)
 rw [hLO] at q0 q1 htd
 rw [hHI] at q1 q2 htd
 have wv : IntKind.i64.wrap wa = wa := by rw [IntKind.wrap_i64]; omega
 have hBH := Lq hB0
 have HC : Hid (∀ W, BW V W → Blk W gh 24 #[.slice A h.ps.length cap, iv h.aft, iv h.fore] ∧ Blk W gx 30 #[s0, s1, s2, .int .u16 ta, .int .u16 tb, .int .u16 wa] ∧ Blk W gt 49 #[.slice A1 tw.length c1, .slice A2 tl.length c2] ∧ Blk W gf 24 #[.slice AF f.ps.length cF, iv f.aft, iv f.fore]) :=
  Lq fun W hbW => ⟨hgh.same (hbW.block _ hgh.lt), hgx.same (hbW.block _ hgx.lt), hgt.same (hbW.block _ hgt.lt), hgf.same (hbW.block _ hgf.lt)⟩
 have HX : Hid (∀ W, BW V W → W.cell? ⟨gx, 3, none⟩ = some (.int .u16 ta) ∧ W.cell? ⟨gx, 4, none⟩ = some (.int .u16 tb) ∧ W.cell? ⟨gx, 5, none⟩ = some (.int .u16 wa)) := Lq fun W hbW => by
  have k := (HC.out W hbW).2.1
  exact ⟨k.cell 3, k.cell 4, k.cell 5⟩
 have HP : Hid (∀ W, BW V W → (W.cell? ⟨gh, 0, none⟩ = some (.slice A h.ps.length cap) ∧ W.cell? ⟨gh, 1, none⟩ = some (iv h.aft) ∧ W.cell? ⟨gh, 2, none⟩ = some (iv h.fore)) ∧ (W.cell? ⟨gt, 0, none⟩ = some (.slice A1 tw.length c1) ∧ W.cell? ⟨gt, 1, none⟩ = some (.slice A2 tl.length c2)) ∧ (W.cell? ⟨gf, 0, none⟩ = some (.slice AF f.ps.length cF) ∧ W.cell? ⟨gf, 1, none⟩ = some (iv f.aft) ∧ W.cell? ⟨gf, 2, none⟩ = some (iv f.fore))) := Lq fun W hbW => by
  obtain ⟨k1, _, k3, k4⟩ := HC.out W hbW
  exact ⟨⟨k1.cell 0, k1.cell 1, k1.cell 2⟩, ⟨k3.cell 0, k3.cell 1⟩, ⟨k4.cell 0, k4.cell 1, k4.cell 2⟩⟩
 have H14 : Hid (∀ W, BW V W → Calls Tryz.prog 14 #[h5V f AF cF, t5V tw tl A1 A2 c1 c2, iv R] W (Rt W (.tuple #[.agg #[iv (truthK f tw tl 0 R), iv (truthK f tw tl 1 R), iv (truthK f tw tl 2 R)], iv 0]))) := Lq fun W hbW => balance14_any f AF _ cF tw tl A1 A2 c1 c2 R W (hF.on hbW) (hT.on hbW) (Nat.le_refl _) hcf htf hR0 hR1
 have H15 : Hid (∀ W, BW V W → Calls Tryz.prog 15 #[h5V h A cap, iv R] W (Rt W (.tuple #[.agg #[iv (leastK h 0 R), iv (leastK h 1 R), iv (leastK h 2 R)], iv 0]))) := Lq fun W hbW => least15_any h A _ cap R W (hH.on hbW) (Nat.le_refl _) hc hR0 hR1
 have H15f : Hid (∀ W, BW V W → Calls Tryz.prog 15 #[h5V f AF cF, iv R] W (Rt W (.tuple #[.agg #[iv (leastK f 0 R), iv (leastK f 1 R), iv (leastK f 2 R)], iv 0]))) := Lq fun W hbW => least15_any f AF _ cF R W (hF.on hbW) (Nat.le_refl _) hcf hR0 hR1
 have H16 : Hid (∀ W, BW V W → Calls Tryz.prog 16 #[h5V h A cap, .agg #[iv LO, iv HI]] W (Rt W (ret3 ((firstH h LO HI).1, (firstH h LO HI).2, 0)))) := Lq fun W hbW => why16_any h A _ cap LO HI W (hH.on hbW) (Nat.le_refl _) hc q0 q1 q2
 have H16f : Hid (∀ W, BW V W → Calls Tryz.prog 16 #[h5V f AF cF, .agg #[iv LO, iv HI]] W (Rt W (ret3 ((firstH f LO HI).1, (firstH f LO HI).2, 0)))) := Lq fun W hbW => why16_any f AF _ cF LO HI W (hF.on hbW) (Nat.le_refl _) hcf q0 q1 q2
 have HST : Hid ((firstH f LO HI).1 = 0 → ∀ x, LO ≤ x → x ≤ HI → whyOf (truthK h tw tl 0 x) (truthK h tw tl 1 x) (truthK h tw tl 2 x) = 0) := Lq fun h0 x h1 h2 => FIN.stands htf q1 h0 h1 h2
 have H17 : Hid (∀ x, LO ≤ x → x ≤ HI → whyOf (truthK h tw tl 0 x) (truthK h tw tl 1 x) (truthK h tw tl 2 x) = 0 → ∀ W, BW V W → Calls Tryz.prog 17 #[h5V h A cap, t5V tw tl A1 A2 c1 c2, iv x] W fun e w' => BW W w' ∧ ∃ g t, e = .returned (.tuple #[.slice (some ⟨g, 0, none⟩) 2 2, iv 0]) ∧ Blk w' g t #[iv h.aft, iv (truthK h tw tl 2 x), iv h.fore, iv (truthK h tw tl 1 x)]) := Lq fun x h1 h2 hst W hbW => forces17_any h A _ cap tw tl A1 A2 c1 c2 x W (hH.on hbW) (hT.on hbW) (Nat.le_refl _) hc hth (by omega) (by omega) hst
 have HFI : Hid ((firstH h LO HI).1 = 0 → (firstH f LO HI).1 = 0) := Lq fun h0 => FIN.first h0
 have HL : Hid (∀ k, leastK h k R ≤ leastK f k R) := Lq fun k => FIN.least k R
 have HAW := Lq awake5_any
 have HAW7 := Lq awake_any
 have HQ := Lq (And.intro q0 (And.intro q1 q2))
 have HWA := Lq hw
 clear hB0 hgh hgx hgt hgf hH hF hT FIN hc hcf hth htf ha hb hw hLO hHI hRR hR0 hR1 q0 q1 q2
 refine reg3_37 wv eR htd HX.out ?_
 intro gn u204 u205 u206 u207 u208 u209 u210 wx hwx
 obtain ⟨hgn, hbx, kx⟩ := hwx
 have X0 := Lq hbx
 have KN : Hid (Blk wx gn 36 #[iv LO, iv HI]) := Lq kx
 have hgnl := Lq hgn
 obtain ⟨⟨p0, p1, p2⟩, ⟨r0, r1⟩, f0, f1, f2⟩ := HP.out _ hbx
 clear hbx kx hgn eR htd
 go_wp2_with fail
 refine (H14.out _ X0.out).mono ?_
 rintro e w1 ⟨rfl, hb⟩
 have X1 := Lq (belowT X0.out hb)
 have KN1 := Lq (KN.out.same (hb.block _ KN.out.lt))
 clear hb p0 p1 p2 r0 r1 f0 f1 f2 KN
 obtain ⟨⟨p0, p1, p2⟩, ⟨r0, r1⟩, f0, f1, f2⟩ := HP.out _ X1.out
 go_wp2_with fail
 refine (H15.out _ X1.out).mono ?_
 rintro e w2 ⟨rfl, hb⟩
 have hl0 := HL.out 0
 have hl1 := HL.out 1
 have hl2 := HL.out 2
 obtain ⟨a0, ha0⟩ := ex (leastK h 0 R)
 obtain ⟨a1, ha1⟩ := ex (leastK h 1 R)
 obtain ⟨a2, ha2⟩ := ex (leastK h 2 R)
 rw [ha0] at hl0 ⊢
 rw [ha1] at hl1 ⊢
 rw [ha2] at hl2 ⊢
 have X2 := Lq (belowT X1.out hb)
 have KN2 := Lq (KN1.out.same (hb.block _ KN1.out.lt))
 clear hb p0 p1 p2 r0 r1 f0 f1 f2 KN1 ha0 ha1 ha2
 obtain ⟨W3, hW3⟩ := ex (w2.alloc (.cells #[iv a0, iv a1, iv a2] 62))
 obtain ⟨g3, hg3⟩ := ex w2.heap.size
 have hb3 : BW w2 W3 := by rw [← hW3]; exact belowA (belowR _) _
 have K3 : Hid (Blk W3 g3 62 #[iv a0, iv a1, iv a2]) := Lq (by rw [← hW3, ← hg3]; exact Blk.new w2 62 _)
 have X3 := Lq (belowT X2.out hb3)
 have KN3 := Lq (KN2.out.same (hb3.block _ KN2.out.lt))
 clear hb3 KN2
 obtain ⟨⟨p0, p1, p2⟩, ⟨r0, r1⟩, f0, f1, f2⟩ := HP.out _ X3.out
 go_wp2_with fail
 refine (H15f.out _ X3.out).mono ?_
 rintro e w4 ⟨rfl, hb⟩
 obtain ⟨e0, he0⟩ := ex (leastK f 0 R)
 obtain ⟨e1, he1⟩ := ex (leastK f 1 R)
 obtain ⟨e2, he2⟩ := ex (leastK f 2 R)
 rw [he0] at hl0 ⊢
 rw [he1] at hl1 ⊢
 rw [he2] at hl2 ⊢
 have d0 : decide (e0 < a0) = false := decide_eq_false (by omega)
 have d1 : decide (e1 < a1) = false := decide_eq_false (by omega)
 have d2 : decide (e2 < a2) = false := decide_eq_false (by omega)
 have X4 := Lq (belowT X3.out hb)
 have KN4 := Lq (KN3.out.same (hb.block _ KN3.out.lt))
 have K4 := Lq (K3.out.same (hb.block _ K3.out.lt))
 clear hb p0 p1 p2 r0 r1 f0 f1 f2 KN3 K3 he0 he1 he2 hW3 hg3
 obtain ⟨W5, hW5⟩ := ex (w4.alloc (.cells #[iv e0, iv e1, iv e2] 62))
 obtain ⟨g5, hg5⟩ := ex w4.heap.size
 have hb5 : BW w4 W5 := by rw [← hW5]; exact belowA (belowR _) _
 have K5 : Hid (Blk W5 g5 62 #[iv e0, iv e1, iv e2]) := Lq (by rw [← hW5, ← hg5]; exact Blk.new w4 62 _)
 have X5 := Lq (belowT X4.out hb5)
 have KN5 := Lq (KN4.out.same (hb5.block _ KN4.out.lt))
 have K35 := Lq (K4.out.same (hb5.block _ K4.out.lt))
 clear hb5 KN4 K4
 obtain ⟨⟨p0, p1, p2⟩, _, f0, f1, f2⟩ := HP.out _ X5.out
 have m0 := K35.out.c 0
 have m1 := K35.out.c 1
 have m2 := K35.out.c 2
 have n0 := K5.out.c 0
 have n1 := K5.out.c 1
 have n2 := K5.out.c 2
 have s0 := KN5.out.c 0
 have s1 := KN5.out.c 1
 go_wp2_with fail
 refine (H16.out _ X5.out).mono ?_
 rintro e w6 ⟨rfl, hb⟩
 have HFI2 := HFI.out
 have HST2 := HST.out
 obtain ⟨Y, hY⟩ := ex ((firstH h LO HI).1)
 obtain ⟨Y2, hY2⟩ := ex ((firstH h LO HI).2)
 obtain ⟨Z, hZ⟩ := ex ((firstH f LO HI).1)
 obtain ⟨Z2, hZ2⟩ := ex ((firstH f LO HI).2)
 have H16f2 := H16f.out
 rw [hZ, hZ2] at H16f2
 rw [hY, hZ] at HFI2
 rw [hZ] at HST2
 rw [hY, hY2]
 have H16f3 := Lq H16f2
 have HFI3 := Lq HFI2
 have HST3 := Lq HST2
 have X6 := Lq (belowT X5.out hb)
 have KN6 := Lq (KN5.out.same (hb.block _ KN5.out.lt))
 clear hb p0 p1 p2 f0 f1 f2 m0 m1 m2 n0 n1 n2 s0 s1 KN5 K35 K5 hW5 hg5 hY hY2 hZ hZ2 HFI2 HST2 H16f2 H16f HFI HST d0 d1 d2 hl0 hl1 hl2
 obtain ⟨_, _, f0, f1, f2⟩ := HP.out _ X6.out
 have s0 := KN6.out.c 0
 have s1 := KN6.out.c 1
 unfold ret3
 go_wp2_with fail
 refine (H16f3.out _ X6.out).mono ?_
 rintro e w7 ⟨rfl, hb⟩
 have X7 := Lq (belowT X6.out hb)
 have KN7 := Lq (KN6.out.same (hb.block _ KN6.out.lt))
 clear hb f0 f1 f2 s0 s1 KN6
 unfold ret3
 by_cases hZ0 : Z = 0
 ·have hst := HST3.out hZ0
  subst hZ0
  obtain ⟨q0, q1, q2⟩ := HQ.out
  obtain ⟨D, hD⟩ := ex (HI - LO)
  have wd : IntKind.i64.wrap (HI - LO) = D := by rw [hD, IntKind.wrap_i64]; omega
  have wD : IntKind.i64.wrap (D + 1) = D + 1 := by rw [IntKind.wrap_i64]; omega
  have hD0 : 0 < D + 1 := by omega
  have g3 := Int.emod_nonneg wa (show D + 1 ≠ 0 by omega)
  have g4 := Int.emod_lt_of_pos wa hD0
  have eM : wa.tmod (D + 1) = wa % (D + 1) := Int.tmod_eq_emod_of_nonneg HWA.out.1
  obtain ⟨M, hM⟩ := ex (wa % (D + 1))
  rw [hM] at g3 g4 eM
  have wM : IntKind.i64.wrap (LO + M) = LO + M := by rw [IntKind.wrap_i64]; omega
  have H17b := Lq (H17.out (LO + M) (by omega) (by omega) (hst (LO + M) (by omega) (by omega)))
  have WV := Lq (And.intro wv (And.intro wd (And.intro wD (And.intro hD0 (And.intro eM wM)))))
  have HSX : Hid (∀ W, BW w7 W → W.cell? ⟨gn, 0, none⟩ = some (iv LO) ∧ W.cell? ⟨gn, 1, none⟩ = some (iv HI) ∧ W.cell? ⟨gx, 5, none⟩ = some (.int .u16 wa)) := Lq fun W hbW => by
   have k := KN7.out.same (hbW.block _ KN7.out.lt)
   have k2 := HX.out W (belowT X7.out hbW)
   exact ⟨k.cell 0, k.cell 1, k2.2.2⟩
  clear H17 hst q0 q1 q2 wd wD hD0 g3 g4 eM wM hM hD wv
  obtain ⟨⟨p0, p1, p2⟩, ⟨r0, r1⟩, _⟩ := HP.out _ X7.out
  by_cases hY0 : Y = 0
  ·subst hY0
   go_upto_region 49 with fail
   refine reg3_49 WV.out.1 WV.out.2.1 WV.out.2.2.1 WV.out.2.2.2.1 WV.out.2.2.2.2.1 WV.out.2.2.2.2.2 HSX.out ?_
   intro v295 v296 v297 v298 v299 v300 v301 v302 v303 v304 v305 v306 v307 wy hby
   have X8 := Lq (belowT X7.out hby)
   clear p0 p1 p2 r0 r1 hby
   obtain ⟨⟨p0, p1, p2⟩, ⟨r0, r1⟩, _⟩ := HP.out _ X8.out
   go_wp2_with fail
   refine (H17b.out _ X8.out).mono ?_
   rintro e w9 ⟨hb, gq, tq, rfl, _⟩
   have X9 := Lq (belowT X8.out hb)
   clear hb p0 p1 p2 r0 r1
   go_wp2_with fail
   refine (HAW.out _).mono ?_
   rintro e w10 ⟨rfl, hb⟩
   have X10 := Lq (belowT X9.out hb)
   clear hb
   go_wp2_with fail
   refine (HAW7.out _).mono ?_
   rintro e w11 ⟨rfl, hb⟩
   have X11 := Lq (belowT X10.out hb)
   clear hb
   go_wp2_with fail
   go_ret
   exact ⟨rfl, belowT hBH.out X11.out⟩
  ·have hYb : (Y == 0) = false := beq_eq_false_iff_ne.2 hY0
   go_upto_region 49 with fail
   refine reg3_49 WV.out.1 WV.out.2.1 WV.out.2.2.1 WV.out.2.2.2.1 WV.out.2.2.2.2.1 WV.out.2.2.2.2.2 HSX.out ?_
   intro v295 v296 v297 v298 v299 v300 v301 v302 v303 v304 v305 v306 v307 wy hby
   have X8 := Lq (belowT X7.out hby)
   clear p0 p1 p2 r0 r1 hby
   obtain ⟨⟨p0, p1, p2⟩, ⟨r0, r1⟩, _⟩ := HP.out _ X8.out
   go_wp2_with fail
   refine (H17b.out _ X8.out).mono ?_
   rintro e w9 ⟨hb, gq, tq, rfl, _⟩
   have X9 := Lq (belowT X8.out hb)
   clear hb p0 p1 p2 r0 r1
   go_wp2_with fail
   refine (HAW.out _).mono ?_
   rintro e w10 ⟨rfl, hb⟩
   have X10 := Lq (belowT X9.out hb)
   clear hb
   go_wp2_with fail
   refine (HAW7.out _).mono ?_
   rintro e w11 ⟨rfl, hb⟩
   have X11 := Lq (belowT X10.out hb)
   clear hb
   go_wp2_with fail
   go_ret
   exact ⟨rfl, belowT hBH.out X11.out⟩
 ·have hY0 : Y ≠ 0 := fun e => hZ0 (HFI3.out e)
  have hYb : (Y == 0) = false := beq_eq_false_iff_ne.2 hY0
  have hZb : (Z != 0) = true := by simpa using hZ0
  clear HFI3 HST3 hZ0 hY0
  go_wp2_with fail
  refine (HAW.out _).mono ?_
  rintro e w8 ⟨rfl, hb⟩
  have X8 := Lq (belowT X7.out hb)
  clear hb
  go_wp2_with fail
  refine (HAW7.out _).mono ?_
  rintro e w9 ⟨rfl, hb⟩
  have X9 := Lq (belowT X8.out hb)
  clear hb
  go_wp2_with fail
  go_ret
  exact ⟨rfl, belowT hBH.out X9.out⟩
end Go.Proofs.YtmhjhbchokbonaaGreat
