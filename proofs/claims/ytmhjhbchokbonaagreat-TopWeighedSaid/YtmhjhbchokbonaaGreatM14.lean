/- stand.Balance, Least, Forces, where nothing is wrong (printed by mkT10.py). (block.cut).blocks. The blocks of a cut, asked for in a region. block.Bad. Whether one of some blocks does not hang together; whether one of them can be heavier than so much. -/
import Derived.Laws.EntriesVeiled
import Derived.Test.YtmhjhbchokbonaaGreatM0
import Derived.Test.YtmhjhbchokbonaaGreatM5
import Derived.Test.YtmhjhbchokbonaaGreatM13
set_option maxRecDepth 1000000
set_option maxHeartbeats 16000000
namespace Go.Proofs.YtmhjhbchokbonaaGreat
open Go.RowKit
theorem balance14_any (h : StH) (A : Option Addr) (B cap : Nat) (tw tl : List Int) (AW AL : Option Addr) (cw cl : Nat) (wt : Int) (w : World) (hH : H5Rd w B h A cap) (hT : T5Rd w B tw tl AW AL) (hB : B ≤ w.heap.size) (hc : chk5 h = (0, 0, 0)) (ht : TruthOf h tw tl) (h0 : 0 ≤ wt) (h1 : wt ≤ 1000) :
  Calls Tryz.prog 14 #[h5V h A cap, t5V tw tl AW AL cw cl, iv wt] w (Rt w (.tuple #[.agg #[iv (truthK h tw tl 0 wt), iv (truthK h tw tl 1 wt), iv (truthK h tw tl 2 wt)], iv 0])) := by
 have hok := (chk5_iff.1 (by rw [hc])).1
 obtain ⟨gt, hgt⟩ := ex (w.heap.size + 1)
 obtain ⟨g6, hg6⟩ := ex (gt + 1)
 obtain ⟨W1, hW1⟩ := ex ((((w.alloc (.cells #[.slice A h.ps.length cap, iv h.aft, iv h.fore] 24)).alloc (.cells #[.slice AW tw.length cw, .slice AL tl.length cl] 49)).alloc (.cells #[iv 0, iv 0, iv 0] 62)))
 have hbW1 : BW w W1 := by rw [← hW1]; exact (belowA (belowA (belowA (belowR _) _) _) _)
 have hzW1 : W1.heap.size = w.heap.size + 3 := by rw [← hW1]; simp
 have k0 : Blk W1 w.heap.size 24 #[.slice A h.ps.length cap, iv h.aft, iv h.fore] := by
  rw [← hW1]
  exact ((Blk.new w 24 #[.slice A h.ps.length cap, iv h.aft, iv h.fore]).alloc (.cells #[.slice AW tw.length cw, .slice AL tl.length cl] 49)).alloc (.cells #[iv 0, iv 0, iv 0] 62)
 have k1 : Blk W1 gt 49 #[.slice AW tw.length cw, .slice AL tl.length cl] := by
  rw [← hW1, ← hgt]
  have := (Blk.new (w.alloc (.cells #[.slice A h.ps.length cap, iv h.aft, iv h.fore] 24)) 49 #[.slice AW tw.length cw, .slice AL tl.length cl]).alloc (.cells #[iv 0, iv 0, iv 0] 62)
  rw [World.size_alloc] at this
  exact this
 have k2 : Blk W1 g6 62 #[iv 0, iv 0, iv 0] := by
  rw [← hW1, ← hg6, ← hgt]
  have := Blk.new ((w.alloc (.cells #[.slice A h.ps.length cap, iv h.aft, iv h.fore] 24)).alloc (.cells #[.slice AW tw.length cw, .slice AL tl.length cl] 49)) 62 #[iv 0, iv 0, iv 0]
  rw [World.size_alloc, World.size_alloc] at this
  exact this
 have HOP := Lq (open55_any h A B cap tw tl AW AL cw cl wt W1 (hH.below hbW1 hB) (hT.below hbW1 hB) (by omega) hc ht h0 h1)
 have HIN := Lq (fun V (hb : BW W1 V) => in56_any h A B cap tw tl AW AL cw cl wt V ((hH.below hbW1 hB).below hb (by omega)) ((hT.below hbW1 hB).below hb (by omega)) (by have := hb.size; omega) hok ht h0 h1)
 have HB1 := Lq hbW1
 have HC : Hid (∀ V, BW W1 V → Blk V gt 49 #[.slice AW tw.length cw, .slice AL tl.length cl] ∧ Blk V g6 62 #[iv 0, iv 0, iv 0]) := Lq fun V hb => ⟨k1.same (hb.block _ k1.lt), k2.same (hb.block _ k2.lt)⟩
 have p0 := k0.c 0
 have p1 := k0.c 1
 have p2 := k0.c 2
 have r0 := k1.c 0
 have r1 := k1.c 1
 clear hH hT hc ht hok hbW1 k0 k1 k2 h0 h1
 go_enter Tryz.func14, Tryz.ntmps14
 go_wp2_with fail
 refine HOP.out.mono ?_
 rintro e w2 ⟨rfl, hb2⟩
 obtain ⟨g8, hg8⟩ := ex w2.heap.size
 obtain ⟨W3, hW3⟩ := ex (w2.alloc (.cells #[.slice A h.ps.length cap, iv h.aft, iv h.fore] 119))
 have hb3 : BW w2 W3 := by rw [← hW3]; exact belowA (belowR _) _
 have k8 : Blk W3 g8 119 #[.slice A h.ps.length cap, iv h.aft, iv h.fore] := by rw [← hW3, ← hg8]; exact Blk.new w2 119 _
 have X3 := Lq (belowT hb2 hb3)
 have K8 := Lq k8
 have hz8 := hb2.size
 have r0 := (HC.out _ X3.out).1.c 0
 have r1 := (HC.out _ X3.out).1.c 1
 have p0 := k8.c 0
 have p1 := k8.c 1
 have p2 := k8.c 2
 clear hb2 hb3 k8 hW1 HOP
 go_wp2_with fail
 refine (HIN.out _ X3.out).mono ?_
 rintro e w4 ⟨rfl, hb4⟩
 have X4 := Lq (belowT X3.out hb4)
 clear hb4 p0 p1 p2 r0 r1 hW3 HIN
 obtain ⟨s0, hs0⟩ := ex (truthK h tw tl 0 wt)
 obtain ⟨s1, hs1⟩ := ex (truthK h tw tl 1 wt)
 obtain ⟨s2, hs2⟩ := ex (truthK h tw tl 2 wt)
 rw [hs0, hs1, hs2]
 have HBAL := Lq (balance57_any s0 s1 s2)
 have HV0 := Lq hs0
 have HV1 := Lq hs1
 have HV2 := Lq hs2
 clear hs0 hs1 hs2
 go_wp2_with fail
 refine (HBAL.out _).mono ?_
 rintro e w9 ⟨rfl, hb5⟩
 have X9 := Lq (belowT X4.out hb5)
 have HBX := Lq (belowT HB1.out X9.out)
 have K9 := Lq (HC.out _ X9.out).2
 clear hb5 HBAL
 have f0 := K9.out.frozen 0
 have f1 := K9.out.frozen 1
 have f2 := K9.out.frozen 2
 have hl := K9.out.lt
 have q0 := K9.out.c 0
 have q1 := K9.out.c 1
 have q2 := K9.out.c 2
 go_wp2_with fail
 clear f0 f1 f2 q0 q1 q2
 obtain ⟨wx, hwx⟩ := ex ((((w9.setCell ⟨g6, 0, none⟩ (iv s0)).setCell ⟨g6, 1, none⟩ (iv s1)).setCell ⟨g6, 2, none⟩ (iv s2)))
 have kx : Blk wx g6 62 #[iv s0, iv s1, iv s2] := by
  rw [← hwx]
  exact (((K9.out.set_ 0 _).set_ 1 _).set_ 2 _)
 have hbx : BW w wx := by
  rw [← hwx]
  exact (belowS (belowS (belowS HBX.out (by dsimp only; omega) _) (by dsimp only; omega) _) (by dsimp only; omega) _)
 rw [hwx]
 have y0 := kx.c 0
 have y1 := kx.c 1
 have y2 := kx.c 2
 clear hwx
 refine bodyPost_ret (v := .tuple #[.agg #[iv s0, iv s1, iv s2], iv 0]) (by simp [results, Tryz.results14, go_sem, y0, y1, y2]) rfl ?_
 exact ⟨by rw [HV0.out, HV1.out, HV2.out], hbx⟩
theorem least15_any (h : StH) (A : Option Addr) (B cap : Nat) (wt : Int) (w : World) (hH : H5Rd w B h A cap) (hB : B ≤ w.heap.size) (hc : chk5 h = (0, 0, 0)) (h0 : 0 ≤ wt) (h1 : wt ≤ 1000) :
  Calls Tryz.prog 15 #[h5V h A cap, iv wt] w (Rt w (.tuple #[.agg #[iv (leastK h 0 wt), iv (leastK h 1 wt), iv (leastK h 2 wt)], iv 0])) := by
 have hok := (chk5_iff.1 (by rw [hc])).1
 obtain ⟨g6, hg6⟩ := ex (w.heap.size + 1)
 obtain ⟨W1, hW1⟩ := ex (((w.alloc (.cells #[.slice A h.ps.length cap, iv h.aft, iv h.fore] 24)).alloc (.cells #[iv 0, iv 0, iv 0] 62)))
 have hbW1 : BW w W1 := by rw [← hW1]; exact (belowA (belowA (belowR _) _) _)
 have hzW1 : W1.heap.size = w.heap.size + 2 := by rw [← hW1]; simp
 have k0 : Blk W1 w.heap.size 24 #[.slice A h.ps.length cap, iv h.aft, iv h.fore] := by
  rw [← hW1]
  exact (Blk.new w 24 #[.slice A h.ps.length cap, iv h.aft, iv h.fore]).alloc (.cells #[iv 0, iv 0, iv 0] 62)
 have k1 : Blk W1 g6 62 #[iv 0, iv 0, iv 0] := by
  rw [← hW1, ← hg6]
  have := Blk.new (w.alloc (.cells #[.slice A h.ps.length cap, iv h.aft, iv h.fore] 24)) 62 #[iv 0, iv 0, iv 0]
  rw [World.size_alloc] at this
  exact this
 have HOP := Lq (wet58_any h A B cap wt W1 (hH.below hbW1 hB) (by omega) hc h0 h1)
 have HIN := Lq (fun V (hb : BW W1 V) => least59_any h A B cap wt V ((hH.below hbW1 hB).below hb (by omega)) (by have := hb.size; omega) hok h0 h1)
 have HB1 := Lq hbW1
 have HC : Hid (∀ V, BW W1 V → Blk V g6 62 #[iv 0, iv 0, iv 0]) := Lq fun V hb => k1.same (hb.block _ k1.lt)
 have p0 := k0.c 0
 have p1 := k0.c 1
 have p2 := k0.c 2
 clear hH hc hok hbW1 k0 k1 h0 h1
 go_enter Tryz.func15, Tryz.ntmps15
 go_wp2_with fail
 refine HOP.out.mono ?_
 rintro e w2 ⟨rfl, hb2⟩
 obtain ⟨g8, hg8⟩ := ex w2.heap.size
 obtain ⟨W3, hW3⟩ := ex (w2.alloc (.cells #[.slice A h.ps.length cap, iv h.aft, iv h.fore] 119))
 have hb3 : BW w2 W3 := by rw [← hW3]; exact belowA (belowR _) _
 have k8 : Blk W3 g8 119 #[.slice A h.ps.length cap, iv h.aft, iv h.fore] := by rw [← hW3, ← hg8]; exact Blk.new w2 119 _
 have X3 := Lq (belowT hb2 hb3)
 have K8 := Lq k8
 have hz8 := hb2.size
 have p0 := k8.c 0
 have p1 := k8.c 1
 have p2 := k8.c 2
 clear hb2 hb3 k8 hW1 HOP
 go_wp2_with fail
 refine (HIN.out _ X3.out).mono ?_
 rintro e w4 ⟨rfl, hb4⟩
 have X4 := Lq (belowT X3.out hb4)
 clear hb4 p0 p1 p2 hW3 HIN
 obtain ⟨s0, hs0⟩ := ex (leastK h 0 wt)
 obtain ⟨s1, hs1⟩ := ex (leastK h 1 wt)
 obtain ⟨s2, hs2⟩ := ex (leastK h 2 wt)
 rw [hs0, hs1, hs2]
 have HBAL := Lq (balance57_any s0 s1 s2)
 have HV0 := Lq hs0
 have HV1 := Lq hs1
 have HV2 := Lq hs2
 clear hs0 hs1 hs2
 go_wp2_with fail
 refine (HBAL.out _).mono ?_
 rintro e w9 ⟨rfl, hb5⟩
 have X9 := Lq (belowT X4.out hb5)
 have HBX := Lq (belowT HB1.out X9.out)
 have K9 := Lq (HC.out _ X9.out)
 clear hb5 HBAL
 have f0 := K9.out.frozen 0
 have f1 := K9.out.frozen 1
 have f2 := K9.out.frozen 2
 have hl := K9.out.lt
 have q0 := K9.out.c 0
 have q1 := K9.out.c 1
 have q2 := K9.out.c 2
 go_wp2_with fail
 clear f0 f1 f2 q0 q1 q2
 obtain ⟨wx, hwx⟩ := ex ((((w9.setCell ⟨g6, 0, none⟩ (iv s0)).setCell ⟨g6, 1, none⟩ (iv s1)).setCell ⟨g6, 2, none⟩ (iv s2)))
 have kx : Blk wx g6 62 #[iv s0, iv s1, iv s2] := by
  rw [← hwx]
  exact (((K9.out.set_ 0 _).set_ 1 _).set_ 2 _)
 have hbx : BW w wx := by
  rw [← hwx]
  exact (belowS (belowS (belowS HBX.out (by dsimp only; omega) _) (by dsimp only; omega) _) (by dsimp only; omega) _)
 rw [hwx]
 have y0 := kx.c 0
 have y1 := kx.c 1
 have y2 := kx.c 2
 clear hwx
 refine bodyPost_ret (v := .tuple #[.agg #[iv s0, iv s1, iv s2], iv 0]) (by simp [results, Tryz.results15, go_sem, y0, y1, y2]) rfl ?_
 exact ⟨by rw [HV0.out, HV1.out, HV2.out], hbx⟩
theorem forces17_any (h : StH) (A : Option Addr) (B cap : Nat) (tw tl : List Int) (AW AL : Option Addr) (cw cl : Nat) (wt : Int) (w : World) (hH : H5Rd w B h A cap) (hT : T5Rd w B tw tl AW AL) (hB : B ≤ w.heap.size) (hc : chk5 h = (0, 0, 0)) (ht : TruthOf h tw tl) (h0 : 0 ≤ wt) (h1 : wt ≤ 1000) (hst : whyOf (truthK h tw tl 0 wt) (truthK h tw tl 1 wt) (truthK h tw tl 2 wt) = 0) :
  Calls Tryz.prog 17 #[h5V h A cap, t5V tw tl AW AL cw cl, iv wt] w fun e w' => BW w w' ∧ ∃ g t, e = .returned (.tuple #[.slice (some ⟨g, 0, none⟩) 2 2, iv 0]) ∧ Blk w' g t #[iv h.aft, iv (truthK h tw tl 2 wt), iv h.fore, iv (truthK h tw tl 1 wt)] := by
 have hok := (chk5_iff.1 (by rw [hc])).1
 obtain ⟨gt, hgt⟩ := ex (w.heap.size + 1)
 obtain ⟨W1, hW1⟩ := ex (((w.alloc (.cells #[.slice A h.ps.length cap, iv h.aft, iv h.fore] 24)).alloc (.cells #[.slice AW tw.length cw, .slice AL tl.length cl] 49)))
 have hbW1 : BW w W1 := by rw [← hW1]; exact (belowA (belowA (belowR _) _) _)
 have hzW1 : W1.heap.size = w.heap.size + 2 := by rw [← hW1]; simp
 have k0 : Blk W1 w.heap.size 24 #[.slice A h.ps.length cap, iv h.aft, iv h.fore] := by
  rw [← hW1]
  exact (Blk.new w 24 #[.slice A h.ps.length cap, iv h.aft, iv h.fore]).alloc (.cells #[.slice AW tw.length cw, .slice AL tl.length cl] 49)
 have k1 : Blk W1 gt 49 #[.slice AW tw.length cw, .slice AL tl.length cl] := by
  rw [← hW1, ← hgt]
  have := Blk.new (w.alloc (.cells #[.slice A h.ps.length cap, iv h.aft, iv h.fore] 24)) 49 #[.slice AW tw.length cw, .slice AL tl.length cl]
  rw [World.size_alloc] at this
  exact this
 have HOP := Lq (open55_any h A B cap tw tl AW AL cw cl wt W1 (hH.below hbW1 hB) (hT.below hbW1 hB) (by omega) hc ht h0 h1)
 have HIN := Lq (fun V (hb : BW W1 V) => in56_any h A B cap tw tl AW AL cw cl wt V ((hH.below hbW1 hB).below hb (by omega)) ((hT.below hbW1 hB).below hb (by omega)) (by have := hb.size; omega) hok ht h0 h1)
 have HB1 := Lq hbW1
 have HC : Hid (∀ V, BW W1 V → Blk V gt 49 #[.slice AW tw.length cw, .slice AL tl.length cl] ∧ Blk V w.heap.size 24 #[.slice A h.ps.length cap, iv h.aft, iv h.fore]) := Lq fun V hb => ⟨k1.same (hb.block _ k1.lt), k0.same (hb.block _ k0.lt)⟩
 have p0 := k0.c 0
 have p1 := k0.c 1
 have p2 := k0.c 2
 have r0 := k1.c 0
 have r1 := k1.c 1
 clear hH hT hc ht hok hbW1 k0 k1 h0 h1
 go_enter Tryz.func17, Tryz.ntmps17
 go_wp2_with fail
 refine HOP.out.mono ?_
 rintro e w2 ⟨rfl, hb2⟩
 obtain ⟨g8, hg8⟩ := ex w2.heap.size
 obtain ⟨W3, hW3⟩ := ex (w2.alloc (.cells #[.slice A h.ps.length cap, iv h.aft, iv h.fore] 119))
 have hb3 : BW w2 W3 := by rw [← hW3]; exact belowA (belowR _) _
 have k8 : Blk W3 g8 119 #[.slice A h.ps.length cap, iv h.aft, iv h.fore] := by rw [← hW3, ← hg8]; exact Blk.new w2 119 _
 have X3 := Lq (belowT hb2 hb3)
 have K8 := Lq k8
 have hz8 := hb2.size
 have r0 := (HC.out _ X3.out).1.c 0
 have r1 := (HC.out _ X3.out).1.c 1
 have p0 := k8.c 0
 have p1 := k8.c 1
 have p2 := k8.c 2
 clear hb2 hb3 k8 hW1 HOP
 go_wp2_with fail
 refine (HIN.out _ X3.out).mono ?_
 rintro e w4 ⟨rfl, hb4⟩
 have X4 := Lq (belowT X3.out hb4)
 clear hb4 p0 p1 p2 r0 r1 hW3 HIN
 obtain ⟨s0, hs0⟩ := ex (truthK h tw tl 0 wt)
 obtain ⟨s1, hs1⟩ := ex (truthK h tw tl 1 wt)
 obtain ⟨s2, hs2⟩ := ex (truthK h tw tl 2 wt)
 rw [hs0, hs1, hs2] at hst ⊢
 have hwy := why63_any s0 s1 s2
 rw [hst] at hwy
 have HWY := Lq hwy
 have HV2 := Lq hs2
 have HV1 := Lq hs1
 clear hs0 hs1 hs2 hst hwy
 obtain ⟨gs, hgs⟩ := ex w4.heap.size
 obtain ⟨W5, hW5⟩ := ex (w4.alloc (.cells #[iv s0, iv s1, iv s2] 123))
 have hb5 : BW w4 W5 := by rw [← hW5]; exact belowA (belowR _) _
 have k5 : Blk W5 gs 123 #[iv s0, iv s1, iv s2] := by rw [← hW5, ← hgs]; exact Blk.new w4 123 _
 have y0 := k5.c 0
 have y1 := k5.c 1
 have y2 := k5.c 2
 have X5 := Lq (belowT X4.out hb5)
 have K5 := Lq k5
 clear hb5 k5
 go_wp2_with fail
 refine (HWY.out _).mono ?_
 rintro e w6 ⟨rfl, hb6⟩
 have X6 := Lq (belowT X5.out hb6)
 have hks := K5.out.same (hb6.block _ K5.out.lt)
 have p1 := (HC.out _ X6.out).2.c 1
 have p2 := (HC.out _ X6.out).2.c 2
 have q0 := hks.c 0
 have q1 := hks.c 1
 have q2 := hks.c 2
 clear hb6 y0 y1 y2 hW5 hks HWY
 go_wp2_with fail
 go_ret2
 exact ⟨belowA (belowT HB1.out X6.out) _, w6.heap.size, 89, rfl, by rw [HV1.out, HV2.out]; exact Blk.new w6 _ _⟩
def blkTo (c : List Nat) : Nat → List Nat
 | 0 => List.replicate 8 0
 | k + 1 => match c[k]? with
  | some n => (blkTo c k).set n ((blkTo c k)[n]?.getD 0 ||| 2 ^ k)
  | none => blkTo c k
def manyTo (c : List Nat) : Nat → Nat
 | 0 => 0
 | k + 1 => match c[k]? with
  | some n => max (manyTo c k) (n + 1)
  | none => manyTo c k
theorem blkTo_len (c : List Nat) : ∀ k, (blkTo c k).length = 8 := by
 intro k
 induction k with
 | zero => rfl
 | succ k ih =>
  rw [blkTo]
  split
  ·rw [List.length_set]; exact ih
  ·exact ih
theorem blkTo_lt (c : List Nat) : ∀ k, k ≤ 8 → ∀ x ∈ blkTo c k, x < 256 := by
 intro k
 induction k with
 | zero =>
  intro _ x hx
  rw [blkTo, List.mem_replicate] at hx
  omega
 | succ k ih =>
  intro hk x hx
  rw [blkTo] at hx
  split at hx
  ·rename_i n _
   rcases List.mem_or_eq_of_mem_set hx with h | h
   ·exact ih (by omega) x h
   ·rw [h]
    refine or_lt ?_ (pow_lt (by omega))
    cases hg : (blkTo c k)[n]? with
    | none => simp
    | some y => exact ih (by omega) y (List.mem_of_getElem? hg)
  ·exact ih (by omega) x hx
theorem manyTo_le {c : List Nat} (hc : ∀ x ∈ c, x < 8) : ∀ k, manyTo c k ≤ 8 := by
 intro k
 induction k with
 | zero => simp [manyTo]
 | succ k ih =>
  rw [manyTo]
  split
  ·rename_i n hn
   have := hc n (List.mem_of_getElem? hn)
   omega
  ·exact ih
def cutV (c : List Nat) : Value := .agg (c.map nv).toArray
theorem eight {l : List Nat} (h : l.length = 8) : ∃ a b c d e f g i, l = [a, b, c, d, e, f, g, i] := by
 match l, h with
 | [a, b, c, d, e, f, g, i], _ => exact ⟨a, b, c, d, e, f, g, i, rfl⟩
theorem Blk.nat {w : World} {g : Nat} {t : TypeId} {l : List Nat} (h : Blk w g t (l.map nv).toArray) {i x : Nat} (hi : l[i]? = some x) : w.cell? ⟨g, i, none⟩ = some (nv x) := by
 rw [h.cell]; simp [hi]
theorem Blk.setNat {w : World} {g : Nat} {t : TypeId} {l : List Nat} (h : Blk w g t (l.map nv).toArray) (i x : Nat) : Blk (w.setCell ⟨g, i, none⟩ (nv x)) g t ((l.set i x).map nv).toArray := by
 have := h.set_ i (nv x)
 rwa [List.setIfInBounds_toArray, ← List.map_set] at this
theorem und123 : Tryz.prog.underlying 155 = some (.array (Tryz.prog.arrayLen 155) (Tryz.prog.elem 155)) := by kernel_rfl
theorem und122 : Tryz.prog.underlying 154 = some (.array (Tryz.prog.arrayLen 154) (Tryz.prog.elem 154)) := by kernel_rfl
theorem len123 : Tryz.prog.arrayLen 155 = 8 := by kernel_rfl
theorem len122 : Tryz.prog.arrayLen 154 = 8 := by kernel_rfl
theorem size123 (w : World) : (sizeOf (Tryz.prog.elem 155)).run Tryz.prog w = .ok 1 w := by kernel_rfl
theorem size122 (w : World) : (sizeOf (Tryz.prog.elem 154)).run Tryz.prog w = .ok 1 w := by kernel_rfl
theorem slice123 (w : World) (b n : Nat) (hn : n ≤ 8) : (Instr.sliceAt 155 (pT b 0) none (some (iv (n : Int))) none).run Tryz.prog w = .ok (.slice (some ⟨b, 0, none⟩) n 8) w := by
 rw [run_sliceAt_array_h w 155 ⟨b, 0, none⟩ und123 .i64 (n : Int) (by omega) (by rw [len123]; omega), size123]
 simp [slicedAt, len123, Addr.add]
theorem slice122 (w : World) (b n : Nat) (hn : n ≤ 8) : (Instr.sliceAt 154 (pT b 0) none (some (iv (n : Int))) none).run Tryz.prog w = .ok (.slice (some ⟨b, 0, none⟩) n 8) w := by
 rw [run_sliceAt_array_h w 154 ⟨b, 0, none⟩ und122 .i64 (n : Int) (by omega) (by rw [len122]; omega), size122]
 simp [slicedAt, len122, Addr.add]
def BlocksPost (c : List Nat) (n : Nat) (w : World) (e : Ending) (w' : World) : Prop := e = .returned (.tuple #[cutV (blkTo c n), nv (manyTo c n)]) ∧ BW w w'
theorem blocks_any (c : List Nat) (n : Nat) (w : World) (hc : c.length = 8) (hc8 : ∀ x ∈ c, x < 8) (hn : n ≤ 8) :
  Calls Tryz.prog 75 #[cutV c, iv n] w (BlocksPost c n w) := by
 obtain ⟨POST, hPOST⟩ := ex (BlocksPost c n w)
 have HP : Hid (∀ e w', e = .returned (.tuple #[cutV (blkTo c n), nv (manyTo c n)]) → BW w w' → POST e w') := Lq fun e w' h1 h2 => by rw [← hPOST]; exact ⟨h1, h2⟩
 rw [hPOST]
 clear hPOST
 obtain ⟨W2, hW2⟩ := ex ((w.alloc (.cells (c.map nv).toArray 155)).alloc (.cells #[iv 0, iv 0, iv 0, iv 0, iv 0, iv 0, iv 0, iv 0] 154))
 have b0 : Blk W2 w.heap.size 155 (c.map nv).toArray := by rw [← hW2]; exact (Blk.new w 155 _).alloc _
 have b1 : Blk W2 (w.heap.size + 1) 154 ((blkTo c 0).map nv).toArray := by
  rw [← hW2]
  have h := Blk.new (w.alloc (.cells (c.map nv).toArray 155)) 154 #[iv 0, iv 0, iv 0, iv 0, iv 0, iv 0, iv 0, iv 0]
  rw [World.size_alloc] at h
  exact h
 have hb : BW w W2 := by rw [← hW2]; exact belowA (belowA (belowR _) _) _
 have hz : W2.heap.size = w.heap.size + 2 := by rw [← hW2]; simp
 have B0 := Lq b0
 have B1 := Lq b1
 have HB := Lq hb
 clear b0 b1 hb hz
 have hcv : cutV c = .agg (c.map nv).toArray := rfl
 obtain ⟨c0, c1, c2, c3, c4, c5, c6, c7, hce⟩ := eight hc
 have HCE := Lq hce
 rw [hcv]
 rw [hce] at hW2 ⊢
 simp only [List.map_cons, List.map_nil] at hW2 ⊢
 have hsl := fun W b => slice123 W b n hn
 have hwr : ∀ k : Nat, k < 8 → IntKind.i64.wrap (2 ^ k) = ((2 ^ k : Nat) : Int) := fun k hk => shl1 k (by omega)
 go_enter Tryz.func75, Tryz.ntmps75
 go_wp2_with fail
 clear hW2 hsl hcv
 go_loopw [5, 11] (fun vm vi wr => ∃ k : Nat, k ≤ n ∧ vi = iv k ∧ vm = iv (manyTo c k) ∧ Hid (Blk wr w.heap.size 155 (c.map nv).toArray) ∧ Hid (Blk wr (w.heap.size + 1) 154 ((blkTo c k).map nv).toArray) ∧ Hid (BW w wr)) (fun _ vi _ => n - (intOf vi).toNat)
 case atStart => exact ⟨0, Nat.zero_le _, rfl, rfl, B0, B1, HB⟩
 case round =>
  clear B0 B1 HB
  obtain ⟨k, hk, rfl, rfl, B0, B1, HB⟩ := hrel
  by_cases hlt : k < n
  ·obtain ⟨x, hx⟩ : ∃ x, c[k]? = some x := ⟨_, List.getElem?_eq_getElem (by omega)⟩
   have hx8 := hc8 x (List.mem_of_getElem? hx)
   have e0 : wr.cell? ⟨w.heap.size, k, none⟩ = some (nv x) := B0.out.nat hx
   obtain ⟨s, hs⟩ : ∃ s, (blkTo c k)[x]? = some s := ⟨_, List.getElem?_eq_getElem (by rw [blkTo_len]; exact hx8)⟩
   have hsl := blkTo_lt c k (by omega) s (List.mem_of_getElem? hs)
   have e1 : wr.cell? ⟨w.heap.size + 1, x, none⟩ = some (nv s) := B1.out.nat hs
   have ef := B1.out.frozen x
   have hst : blkTo c (k + 1) = (blkTo c k).set x (s ||| 2 ^ k) := by rw [blkTo, hx]; simp only; rw [hs]; rfl
   have hmt : manyTo c (k + 1) = max (manyTo c k) (x + 1) := by rw [manyTo, hx]
   have hmk : ((max (manyTo c k) (x + 1) : Nat) : Int) = max (manyTo c k : Int) ((x : Int) + 1) := by omega
   have hsh := hwr k (by omega)
   have hor := or64 (a := s) (b := 2 ^ k) (by omega) (by have := pow_lt (a := k) (by omega); omega)
   have HST := Lq hst
   have HMT := Lq hmt
   have HMK := Lq hmk
   obtain ⟨P, hP⟩ := ex ((2 ^ k : Nat))
   have hml := manyTo_le hc8 k
   obtain ⟨m, hm⟩ := ex (manyTo c k)
   rw [hP] at hsh hor HST
   rw [hm] at HMT HMK hml ⊢
   obtain ⟨S, hS⟩ := ex (s ||| P)
   rw [hS] at hor HST
   clear hst hmt hmk hP hm hS hx hs hwr
   go_wp2_with fail
   go_region
   all_goals go_wp2_with fail
   refine ⟨⟨k + 1, by omega, by go_num, by rw [HMT.out, HMK.out], Lq (B0.out.far (by simp only; omega) _), Lq ?_, Lq (belowDr (belowS HB.out (by simp only; omega) _))⟩, by simp [intOf]; omega⟩
   rw [HST.out]
   exact B1.out.setNat x S
  ·obtain rfl : k = n := by omega
   clear hwr
   have hml := manyTo_le hc8 k
   obtain ⟨s0, s1, s2, s3, s4, s5, s6, s7, hse⟩ := eight (blkTo_len c k)
   have hB1 := B1.out
   rw [hse] at hB1
   have e0 : wr.cell? ⟨w.heap.size + 1, 0, none⟩ = some (nv s0) := hB1.nat rfl
   have e1 : wr.cell? ⟨w.heap.size + 1, 1, none⟩ = some (nv s1) := hB1.nat rfl
   have e2 : wr.cell? ⟨w.heap.size + 1, 2, none⟩ = some (nv s2) := hB1.nat rfl
   have e3 : wr.cell? ⟨w.heap.size + 1, 3, none⟩ = some (nv s3) := hB1.nat rfl
   have e4 : wr.cell? ⟨w.heap.size + 1, 4, none⟩ = some (nv s4) := hB1.nat rfl
   have e5 : wr.cell? ⟨w.heap.size + 1, 5, none⟩ = some (nv s5) := hB1.nat rfl
   have e6 : wr.cell? ⟨w.heap.size + 1, 6, none⟩ = some (nv s6) := hB1.nat rfl
   have e7 : wr.cell? ⟨w.heap.size + 1, 7, none⟩ = some (nv s7) := hB1.nat rfl
   have f0 := hB1.frozen 0
   have f1 := hB1.frozen 1
   have f2 := hB1.frozen 2
   have f3 := hB1.frozen 3
   have f4 := hB1.frozen 4
   have f5 := hB1.frozen 5
   have f6 := hB1.frozen 6
   have f7 := hB1.frozen 7
   have HB1 := Lq hB1
   have HSE := Lq hse
   clear hB1 hse
   go_wp2_with fail
   obtain ⟨wx, hwx⟩ := ex (((((((((wr.setCell ⟨w.heap.size + 1, 0, none⟩ (nv s0)).setCell ⟨w.heap.size + 1, 1, none⟩ (nv s1)).setCell ⟨w.heap.size + 1, 2, none⟩ (nv s2)).setCell ⟨w.heap.size + 1, 3, none⟩ (nv s3)).setCell ⟨w.heap.size + 1, 4, none⟩ (nv s4)).setCell ⟨w.heap.size + 1, 5, none⟩ (nv s5)).setCell ⟨w.heap.size + 1, 6, none⟩ (nv s6)).setCell ⟨w.heap.size + 1, 7, none⟩ (nv s7)))
   have hbx : Blk wx (w.heap.size + 1) 154 ([s0, s1, s2, s3, s4, s5, s6, s7].map nv).toArray := by
    rw [← hwx]
    exact (((((((HB1.out.setNat 0 s0).setNat 1 s1).setNat 2 s2).setNat 3 s3).setNat 4 s4).setNat 5 s5).setNat 6 s6).setNat 7 s7
   have hbw : BW w wx := by
    rw [← hwx]
    have hle : w.heap.size ≤ w.heap.size + 1 := by omega
    exact belowS (belowS (belowS (belowS (belowS (belowS (belowS (belowS HB.out hle _) hle _) hle _) hle _) hle _) hle _) hle _) hle _
   rw [hwx]
   clear hwx e0 e1 e2 e3 e4 e5 e6 e7 f0 f1 f2 f3 f4 f5 f6 f7
   have e0 : wx.cell? ⟨w.heap.size + 1, 0, none⟩ = some (nv s0) := hbx.nat rfl
   have e1 : wx.cell? ⟨w.heap.size + 1, 1, none⟩ = some (nv s1) := hbx.nat rfl
   have e2 : wx.cell? ⟨w.heap.size + 1, 2, none⟩ = some (nv s2) := hbx.nat rfl
   have e3 : wx.cell? ⟨w.heap.size + 1, 3, none⟩ = some (nv s3) := hbx.nat rfl
   have e4 : wx.cell? ⟨w.heap.size + 1, 4, none⟩ = some (nv s4) := hbx.nat rfl
   have e5 : wx.cell? ⟨w.heap.size + 1, 5, none⟩ = some (nv s5) := hbx.nat rfl
   have e6 : wx.cell? ⟨w.heap.size + 1, 6, none⟩ = some (nv s6) := hbx.nat rfl
   have e7 : wx.cell? ⟨w.heap.size + 1, 7, none⟩ = some (nv s7) := hbx.nat rfl
   refine bodyPost_ret (v := .tuple #[.agg #[nv s0, nv s1, nv s2, nv s3, nv s4, nv s5, nv s6, nv s7], nv (manyTo c k)]) (by simp [results, Tryz.results75, go_sem, e0, e1, e2, e3, e4, e5, e6, e7]) rfl ?_
   refine HP.out _ _ ?_ hbw
   rw [HSE.out]
   rfl
theorem below8 {a w : World} {g : Nat} (h : BW a w) (hg : a.heap.size ≤ g) (v0 v1 v2 v3 v4 v5 v6 v7 : Value) : BW a ((((((((w.setCell ⟨g, 0, none⟩ v0).setCell ⟨g, 1, none⟩ v1).setCell ⟨g, 2, none⟩ v2).setCell ⟨g, 3, none⟩ v3).setCell ⟨g, 4, none⟩ v4).setCell ⟨g, 5, none⟩ v5).setCell ⟨g, 6, none⟩ v6).setCell ⟨g, 7, none⟩ v7) :=
 belowS (belowS (belowS (belowS (belowS (belowS (belowS (belowS h hg _) hg _) hg _) hg _) hg _) hg _) hg _) hg _
theorem Blk.set8 {w : World} {g : Nat} {t : TypeId} {x0 x1 x2 x3 x4 x5 x6 x7 : Value} (h : Blk w g t #[x0, x1, x2, x3, x4, x5, x6, x7]) (v0 v1 v2 v3 v4 v5 v6 v7 : Value) : Blk ((((((((w.setCell ⟨g, 0, none⟩ v0).setCell ⟨g, 1, none⟩ v1).setCell ⟨g, 2, none⟩ v2).setCell ⟨g, 3, none⟩ v3).setCell ⟨g, 4, none⟩ v4).setCell ⟨g, 5, none⟩ v5).setCell ⟨g, 6, none⟩ v6).setCell ⟨g, 7, none⟩ v7) g t #[v0, v1, v2, v3, v4, v5, v6, v7] := by
 have := (((((((h.set_ 0 v0).set_ 1 v1).set_ 2 v2).set_ 3 v3).set_ 4 v4).set_ 5 v5).set_ 6 v6).set_ 7 v7
 simpa using this
theorem reg28_15 {Q : Exit → Act → World → Prop} {V : World} {g gc : Nat} {c : List Nat} {c0 c1 c2 c3 c4 c5 c6 c7 n cap : Nat} {A : Option Addr} {z0 z1 z2 z3 z4 z5 z6 z7 z9 z11 z12 z13 z14 z15 z16 z17 z18 z19 z20 z21 z22 z23 z24 z25 z26 z27 z28 z29 z30 z31 z32 z33 z34 z35 z36 z37 z38 z39 z40 z41 z42 z43 z44 z45 z46 z47 z48 z49 z50 z51 z52 z53 z54 z55 z56 z57 z58 z59 z60 z61 z62 z63 z64 z65 z66 z67 z68 z69 z70 z71 z72 z73 z74 z75 z76 z77 z78 z79 z80 z81 z82 z83 z84 z85 z86 z87 z88 z89 z90 : Value} (hce : c = [c0, c1, c2, c3, c4, c5, c6, c7]) (hc8 : ∀ x ∈ c, x < 8) (hn : n ≤ 8)
  (hS : ∀ W, BW V W → W.cell? ⟨gc, 0, none⟩ = some (nv c0) ∧ W.cell? ⟨gc, 1, none⟩ = some (nv c1) ∧ W.cell? ⟨gc, 2, none⟩ = some (nv c2) ∧ W.cell? ⟨gc, 3, none⟩ = some (nv c3) ∧ W.cell? ⟨gc, 4, none⟩ = some (nv c4) ∧ W.cell? ⟨gc, 5, none⟩ = some (nv c5) ∧ W.cell? ⟨gc, 6, none⟩ = some (nv c6) ∧ W.cell? ⟨gc, 7, none⟩ = some (nv c7) ∧ W.cell? ⟨g, 0, none⟩ = some (.slice A n cap))
  (hQ : ∀ gg u60 u61 u62 u63 u64 u65 u66 u67 u68 u69 u70 wx, V.heap.size ≤ gg → gg < wx.heap.size → BW V wx → Blk wx gg 154 ((blkTo c n).map nv).toArray → Q .normal ⟨#[z0, z1, z2, z3, z4, z5, z6, z7, ptr g, z9, pT gc 0, z11, z12, z13, pT gg 0, nv (manyTo c n), z16, z17, z18, z19, z20, z21, z22, z23, z24, z25, z26, z27, z28, z29, z30, z31, z32, z33, z34, z35, z36, z37, z38, z39, z40, z41, z42, z43, z44, z45, z46, z47, z48, z49, z50, z51, z52, z53, z54, z55, z56, z57, z58, z59, u60, u61, u62, u63, u64, u65, u66, u67, u68, u69, u70, z71, z72, z73, z74, z75, z76, z77, z78, z79, z80, z81, z82, z83, z84, z85, z86, z87, z88, z89, z90], []⟩ wx) :
  (regionOf Tryz.f35 15).wp Tryz.prog Q ⟨#[z0, z1, z2, z3, z4, z5, z6, z7, ptr g, z9, pT gc 0, z11, z12, z13, z14, z15, z16, z17, z18, z19, z20, z21, z22, z23, z24, z25, z26, z27, z28, z29, z30, z31, z32, z33, z34, z35, z36, z37, z38, z39, z40, z41, z42, z43, z44, z45, z46, z47, z48, z49, z50, z51, z52, z53, z54, z55, z56, z57, z58, z59, z60, z61, z62, z63, z64, z65, z66, z67, z68, z69, z70, z71, z72, z73, z74, z75, z76, z77, z78, z79, z80, z81, z82, z83, z84, z85, z86, z87, z88, z89, z90], []⟩ V := by
 have HQ := Lq hQ
 have HS := Lq hS
 have hcl : c.length = 8 := by rw [hce]; rfl
 have hbk := fun W => blocks_any c n W hcl hc8 hn
 have hcv : cutV c = .agg #[nv c0, nv c1, nv c2, nv c3, nv c4, nv c5, nv c6, nv c7] := by rw [hce]; rfl
 obtain ⟨s0, s1, s2, s3, s4, s5, s6, s7, hse⟩ := eight (blkTo_len c n)
 have hsv : cutV (blkTo c n) = .agg #[nv s0, nv s1, nv s2, nv s3, nv s4, nv s5, nv s6, nv s7] := by rw [hse]; rfl
 unfold BlocksPost at hbk
 rw [hcv, hsv] at hbk
 have HBK := Lq hbk
 have hQ2 : ∀ gg u60 u61 u62 u63 u64 u65 u66 u67 u68 u69 u70 wx, V.heap.size ≤ gg → gg < wx.heap.size → BW V wx → Blk wx gg 154 #[nv s0, nv s1, nv s2, nv s3, nv s4, nv s5, nv s6, nv s7] → Q .normal ⟨#[z0, z1, z2, z3, z4, z5, z6, z7, ptr g, z9, pT gc 0, z11, z12, z13, pT gg 0, nv (manyTo c n), z16, z17, z18, z19, z20, z21, z22, z23, z24, z25, z26, z27, z28, z29, z30, z31, z32, z33, z34, z35, z36, z37, z38, z39, z40, z41, z42, z43, z44, z45, z46, z47, z48, z49, z50, z51, z52, z53, z54, z55, z56, z57, z58, z59, u60, u61, u62, u63, u64, u65, u66, u67, u68, u69, u70, z71, z72, z73, z74, z75, z76, z77, z78, z79, z80, z81, z82, z83, z84, z85, z86, z87, z88, z89, z90], []⟩ wx := fun gg u60 u61 u62 u63 u64 u65 u66 u67 u68 u69 u70 wx a b d e => HQ.out gg u60 u61 u62 u63 u64 u65 u66 u67 u68 u69 u70 wx a b d (by rw [hse]; exact e)
 have HQ2 := Lq hQ2
 clear hQ hS hbk hcv hsv hse hQ2 HQ hce
 conv => arg 2; whnf
 have hb0 : BW V V.drew := belowDq (belowR V)
 have HB0 := Lq hb0
 clear hb0
 go_region_held3 (fun W => W.cell? ⟨gc, 0, none⟩ = some (nv c0) ∧ W.cell? ⟨gc, 1, none⟩ = some (nv c1) ∧ W.cell? ⟨gc, 2, none⟩ = some (nv c2) ∧ W.cell? ⟨gc, 3, none⟩ = some (nv c3) ∧ W.cell? ⟨gc, 4, none⟩ = some (nv c4) ∧ W.cell? ⟨gc, 5, none⟩ = some (nv c5) ∧ W.cell? ⟨gc, 6, none⟩ = some (nv c6) ∧ W.cell? ⟨gc, 7, none⟩ = some (nv c7) ∧ W.cell? ⟨g, 0, none⟩ = some (.slice A n cap)) (first | (with_reducible exact HS.out _ HB0.out) | (with_reducible exact HS.out _ (belowDq (belowA (belowR V) _))) | (with_reducible exact HS.out _ hb1) | (with_reducible exact HS.out _ (belowA hb1 _)) | (with_reducible exact HS.out _ (below8 hb1 (Nat.le_refl _) _ _ _ _ _ _ _ _)) | (with_reducible exact HS.out _ (below8 (belowA hb1 _) hb1.size _ _ _ _ _ _ _ _))) (((go_at_call 75; (first | ((with_reducible refine (HBK.out V.drew).mono ?_); rintro e w1 ⟨rfl, hb1'⟩; have hb1 := belowT HB0.out hb1') | ((with_reducible refine (HBK.out (V.alloc (.cells #[iv 0, iv 0, iv 0, iv 0, iv 0, iv 0, iv 0, iv 0] 154)).drew).mono ?_); rintro e w1 ⟨rfl, hb1'⟩; have hb1 := belowT (belowDq (belowA (belowR V) _)) hb1'; have hbl : Blk w1 V.heap.size 154 #[iv 0, iv 0, iv 0, iv 0, iv 0, iv 0, iv 0, iv 0] := (Blk.new V 154 #[iv 0, iv 0, iv 0, iv 0, iv 0, iv 0, iv 0, iv 0]).same (hb1'.block V.heap.size (by simp)); have e0 : w1.cell? ⟨V.heap.size, 0, none⟩ = some (iv 0) := hbl.cell 0; have f0 := hbl.frozen 0; have e1 : w1.cell? ⟨V.heap.size, 1, none⟩ = some (iv 0) := hbl.cell 1; have f1 := hbl.frozen 1; have e2 : w1.cell? ⟨V.heap.size, 2, none⟩ = some (iv 0) := hbl.cell 2; have f2 := hbl.frozen 2; have e3 : w1.cell? ⟨V.heap.size, 3, none⟩ = some (iv 0) := hbl.cell 3; have f3 := hbl.frozen 3; have e4 : w1.cell? ⟨V.heap.size, 4, none⟩ = some (iv 0) := hbl.cell 4; have f4 := hbl.frozen 4; have e5 : w1.cell? ⟨V.heap.size, 5, none⟩ = some (iv 0) := hbl.cell 5; have f5 := hbl.frozen 5; have e6 : w1.cell? ⟨V.heap.size, 6, none⟩ = some (iv 0) := hbl.cell 6; have f6 := hbl.frozen 6; have e7 : w1.cell? ⟨V.heap.size, 7, none⟩ = some (iv 0) := hbl.cell 7; have f7 := hbl.frozen 7; have hlt := hbl.lt)))))
 ·exact HQ2.out w1.heap.size _ _ _ _ _ _ _ _ _ _ _ _ hb1.size (by simp) (belowA hb1 _) (Blk.new w1 154 _)
 ·exact HQ2.out V.heap.size _ _ _ _ _ _ _ _ _ _ _ _ (Nat.le_refl _) (by simpa using hlt) (below8 hb1 (Nat.le_refl _) _ _ _ _ _ _ _ _) (hbl.set8 _ _ _ _ _ _ _ _)
def numsTo (nums : List Int) (k : Nat) : List Nat := (nums.take k).map Int.toNat ++ List.replicate (8 - k) 0
def cut8 (nums : List Int) : List Nat := numsTo nums nums.length
def cutOkTo (nums : List Int) : Nat → Bool
 | 0 => true
 | k + 1 => cutOkTo nums k && (match nums[k]? with
  | some x => decide (0 ≤ x ∧ x ≤ (manyTo (cut8 nums) k : Int))
  | none => true)
theorem numsTo_len (nums : List Int) {k : Nat} (hk : k ≤ nums.length) (h8 : nums.length ≤ 8) : (numsTo nums k).length = 8 := by
 simp [numsTo]; omega
theorem numsTo_set (nums : List Int) {k : Nat} {x : Int} (hx : nums[k]? = some x) (h8 : nums.length ≤ 8) : (numsTo nums k).set k x.toNat = numsTo nums (k + 1) := by
 obtain ⟨hk, rfl⟩ := List.getElem?_eq_some_iff.1 hx
 have e : 8 - k = (8 - (k + 1)) + 1 := by omega
 unfold numsTo
 rw [List.set_append_right _ _ (by simp; omega), e, List.replicate_succ, List.take_succ_eq_append_getElem hk, List.map_append]
 have : k - (List.map Int.toNat (List.take k nums)).length = 0 := by simp; omega
 rw [this]
 simp
theorem numsTo_at (nums : List Int) {k : Nat} (hk : k < nums.length) (h8 : nums.length ≤ 8) : (numsTo nums k)[k]? = some 0 := by
 have e : ((nums.take k).map Int.toNat).length = k := by simp; omega
 unfold numsTo
 rw [List.getElem?_append_right (by omega), e, List.getElem?_replicate, if_pos (by omega)]
theorem cut8_at (nums : List Int) {k : Nat} {x : Int} (hx : nums[k]? = some x) : (cut8 nums)[k]? = some x.toNat := by
 obtain ⟨hk, rfl⟩ := List.getElem?_eq_some_iff.1 hx
 unfold cut8 numsTo
 rw [List.take_length, List.getElem?_append_left (by simpa using hk), List.getElem?_map, List.getElem?_eq_getElem hk]
 rfl
theorem manyTo_step {c : List Nat} {k n : Nat} (h : c[k]? = some n) : manyTo c (k + 1) = max (manyTo c k) (n + 1) := by rw [manyTo, h]
theorem cutOkTo_mono {nums : List Int} {m : Nat} : ∀ k, k ≤ m → cutOkTo nums m = true → cutOkTo nums k = true := by
 induction m with
 | zero => intro k hk h; obtain rfl : k = 0 := by omega
           exact h
 | succ m ih =>
  intro k hk h
  rcases Nat.lt_or_ge k (m + 1) with hlt | hge
  ·rw [cutOkTo, Bool.and_eq_true] at h
   exact ih k (by omega) h.1
  ·obtain rfl : k = m + 1 := by omega
   exact h
theorem cutOkTo_false {nums : List Int} {k m : Nat} (hk : k ≤ m) (h : cutOkTo nums k = false) : cutOkTo nums m = false := by
 cases hm : cutOkTo nums m with
 | false => rfl
 | true => rw [cutOkTo_mono k hk hm] at h; cases h
theorem many_le_k {nums : List Int} : ∀ k, k ≤ nums.length → cutOkTo nums k = true → manyTo (cut8 nums) k ≤ k := by
 intro k
 induction k with
 | zero => intro _ _; simp [manyTo]
 | succ k ih =>
  intro hk h
  have hx := List.getElem?_eq_getElem (show k < nums.length by omega)
  rw [cutOkTo, hx, Bool.and_eq_true] at h
  have := ih (by omega) h.1
  have h2 := h.2
  simp only [decide_eq_true_eq] at h2
  rw [manyTo_step (cut8_at nums hx)]
  omega
theorem cut8_lt {nums : List Int} (h8 : nums.length ≤ 8) (h : cutOkTo nums nums.length = true) : ∀ x ∈ cut8 nums, x < 8 := by
 intro x hx
 unfold cut8 numsTo at hx
 rw [List.take_length] at hx
 rcases List.mem_append.1 hx with hx | hx
 ·obtain ⟨y, hy, rfl⟩ := List.mem_map.1 hx
  obtain ⟨k, hk⟩ := List.getElem?_of_mem hy
  have hkl := (List.getElem?_eq_some_iff.1 hk).1
  have h1 := cutOkTo_mono (k + 1) (by omega) h
  rw [cutOkTo, hk, Bool.and_eq_true] at h1
  have h2 := h1.2
  simp only [decide_eq_true_eq] at h2
  have := many_le_k k (by omega) h1.1
  omega
 ·rw [List.mem_replicate] at hx
  omega
def goodS (h : Hul) (N : List Nd) (s : Nat) : Bool := hangsB h.js s && decide (mostV h N s * h.shi ≤ 1000 * h.winch)
def badAt (h : Hul) (N : List Nd) (sets : List Nat) (many : Nat) : Int := match (List.range many).find? (fun i => !goodS h N (sets[i]?.getD 0)) with
 | some i => (i : Int)
 | none => -1
theorem badAt_none {h : Hul} {N : List Nd} {sets : List Nat} {many : Nat} (hh : ∀ i, i < many → goodS h N (sets[i]?.getD 0) = true) : badAt h N sets many = -1 := by
 unfold badAt
 rw [List.find?_range_eq_none.2 (fun i hi => by rw [hh i hi]; rfl)]
theorem badAt_some {h : Hul} {N : List Nd} {sets : List Nat} {many i : Nat} (hi : i < many) (hh : ∀ j, j < i → goodS h N (sets[j]?.getD 0) = true) (hb : goodS h N (sets[i]?.getD 0) = false) : badAt h N sets many = (i : Int) := by
 unfold badAt
 rw [List.find?_range_eq_some.2 ⟨by rw [hb]; rfl, by simpa using hi, fun j hj => by rw [hh j hj]; rfl⟩]
def BadPost (h : Hul) (l : List Wgh) (nums : List Int) (w : World) (e : Ending) (w' : World) : Prop :=
 BW w w' ∧ ((openE h l ≠ 0 ∧ e = .returned (.tuple #[iv 0, iv (openE h l)])) ∨ (openE h l = 0 ∧ openPre h l = 0 ∧ Feas h l ∧
  ((nums.length ≠ h.ps.length ∧ e = .returned (.tuple #[iv 0, iv 3])) ∨ (nums.length = h.ps.length ∧ cutOkTo nums nums.length = false ∧ e = .returned (.tuple #[iv 0, iv 6])) ∨
   (nums.length = h.ps.length ∧ cutOkTo nums nums.length = true ∧ ∃ N, IsTree h l N ∧ e = .returned (.tuple #[iv (badAt h N (blkTo (cut8 nums) h.ps.length) (manyTo (cut8 nums) h.ps.length)), iv 0])))))
theorem blkTo_lt2 (c : List Nat) : ∀ k, ∀ x ∈ blkTo c k, x < 2 ^ k := by
 intro k
 induction k with
 | zero =>
  intro x hx
  rw [blkTo, List.mem_replicate] at hx
  omega
 | succ k ih =>
  intro x hx
  have h2 : 2 ^ (k + 1) = 2 * 2 ^ k := by rw [Nat.pow_succ]; omega
  have hp : 1 ≤ 2 ^ k := Nat.one_le_two_pow
  rw [blkTo] at hx
  split at hx
  ·rename_i n _
   rcases List.mem_or_eq_of_mem_set hx with h | h
   ·have := ih x h; omega
   ·rw [h]
    refine Nat.or_lt_two_pow (n := k + 1) ?_ (by omega)
    cases hg : (blkTo c k)[n]? with
    | none => exact Nat.two_pow_pos _
    | some y =>
     have := ih y (List.mem_of_getElem? hg)
     simp
     omega
  ·have := ih x hx; omega
theorem bad_any (h : Hul) (A J : Option Addr) (B cap capJ : Nat) (AL : Option Addr) (l : List Wgh) (capL : Nat) (AN : Option Addr) (nums : List Int) (capN : Nat) (w : World) (hH : HulRd w B h A cap J capJ) (hL : RdN 3 encWgh w B AL l) (hlc : l.length ≤ capL) (hN : Rd1 iv w B AN nums) (hnl : nums.length ≤ maxLen) (hB : B ≤ w.heap.size) :
  Calls Tryz.prog 35 #[hv h A cap J capJ, .slice AL l.length capL, .slice AN nums.length capN] w (BadPost h l nums w) := by
 have hmx : nums.length ≤ 9223372036854775807 := by unfold maxLen at hnl; omega
 obtain ⟨W1, hW1, hb0, hz1, p0, p1, p2, p3, p4⟩ := hulBox w h A cap J capJ
 have hop := open_any h A J B cap capJ AL l capL W1 (hH.below hb0 hB) (hL.below hb0 hB) hlc (Nat.le_trans hB hb0.size)
 have HOP := Lq hop
 have HB0 := Lq hb0
 have HNR := Lq hN
 have hz1 : w.heap.size ≤ W1.heap.size := hb0.size
 clear hop hb0 hH hL hN
 go_enter Tryz.func35, Tryz.ntmps35
 go_wp2_with fail
 refine HOP.out.mono ?_
 intro e w1 hpost
 obtain ⟨hb1, hpost⟩ := openPost_cases hpost
 have HB1 := Lq (belowT HB0.out hb1)
 have hz2 := hb1.size
 clear hb1 HOP hW1 HB0 p0 p1 p2 p3 p4
 rcases hpost with ⟨hne, rfl⟩ | ⟨h0, hp, hf, N, g, bs, br, km, BD, hNT, rfl, HD⟩
 ·obtain ⟨E, hE⟩ := ex (openE h l)
  have HE := Lq hE
  rw [hE] at hne ⊢
  have hcb : (E == 0) = false := by simpa using hne
  clear hE
  go_wp2_with fail
  go_ret2
  exact ⟨HB1.out, .inl ⟨by rw [HE.out]; exact hne, by rw [HE.out]; rfl⟩⟩
 ·have hk := hulOk (openPre_zero hp).1
  have hn8 := hk.n8
  have hT := treeOk_isTree hp hNT
  have hkm := HD.kn.lt
  have hk0 := HD.k0
  have c0 := HD.st.c0
  have HD0 := Lq HD
  by_cases hnn : nums.length = h.ps.length
  case neg =>
   have hcb : ((nums.length : Int) == (h.ps.length : Int)) = false := by rw [beq_eq_false_iff_ne]; omega
   go_wp2_with fail
   go_ret2
   exact ⟨HB1.out, .inr ⟨h0, hp, hf, .inl ⟨hnn, rfl⟩⟩⟩
  case pos =>
  have HFC : Hid (∀ e w', BW w w' → ((cutOkTo nums nums.length = false ∧ e = .returned (.tuple #[iv 0, iv 6])) ∨ (cutOkTo nums nums.length = true ∧ e = .returned (.tuple #[iv (badAt h N (blkTo (cut8 nums) h.ps.length) (manyTo (cut8 nums) h.ps.length)), iv 0]))) → BadPost h l nums w e w') := Lq fun e w' a b => ⟨a, .inr ⟨h0, hp, hf, b.elim (fun b => .inr (.inl ⟨hnn, b.1, b.2⟩)) (fun b => .inr (.inr ⟨hnn, b.1, N, hNT, b.2⟩))⟩⟩
  have HBD : Hid (∀ s, s < 2 ^ h.ps.length → 0 ≤ mostV h N s ∧ mostV h N s ≤ 42949672960) := Lq fun s hs => by have := mostV_bd hp hNT hf hs; omega
  clear HD hf h0
  go_wp2_with fail
  obtain ⟨w2, hw2⟩ := ex (w1.alloc (.cells #[iv 0, iv 0, iv 0, iv 0, iv 0, iv 0, iv 0, iv 0] 155))
  have hb2 : BW w1 w2 := by rw [← hw2]; exact belowA (belowR _) _
  have b2 : Blk w2 w1.heap.size 155 ((numsTo nums 0).map nv).toArray := by rw [← hw2]; exact Blk.new w1 155 _
  have B2 := Lq b2
  have HB2 := Lq hb2
  have hw2z : w1.heap.size < w2.heap.size := by rw [← hw2]; simp
  have HNE := Lq hnn
  rw [hw2]
  clear hw2 hb2 b2 
  go_loopw [11, 40] (fun vm vi wr => ∃ k : Nat, k ≤ h.ps.length ∧ vi = iv k ∧ vm = iv (manyTo (cut8 nums) k) ∧ manyTo (cut8 nums) k ≤ k ∧ Hid (cutOkTo nums k = true) ∧ Hid (Blk wr w1.heap.size 155 ((numsTo nums k).map nv).toArray) ∧ Hid (BW w1 wr)) (fun _ vi _ => h.ps.length - (intOf vi).toNat)
  case atStart => exact ⟨0, Nat.zero_le _, rfl, rfl, by simp [manyTo], Lq rfl, B2, HB2⟩
  case round =>
   clear B2 HB2 hw2z w2
   obtain ⟨k, hkk, rfl, rfl, hmk, HOK, B2, HB2⟩ := hrel
   have hwrz := B2.out.lt
   by_cases hlt : k < h.ps.length
   ·obtain ⟨x, hx⟩ : ∃ x, nums[k]? = some x := ⟨_, List.getElem?_eq_getElem (by omega)⟩
    obtain ⟨bb, off, rfl, hbB, e0⟩ := (HNR.out.below (belowT HB1.out HB2.out) hB) k x hx
    have hcs : cutOkTo nums (k + 1) = decide (0 ≤ x ∧ x ≤ (manyTo (cut8 nums) k : Int)) := by rw [cutOkTo, HOK.out, hx]; simp
    have HCS := Lq hcs
    obtain ⟨m, hm⟩ := ex (manyTo (cut8 nums) k)
    have HM := Lq hm
    rw [hm] at HCS hmk ⊢
    have HX := Lq hx
    clear hcs hm hx
    by_cases hok : 0 ≤ x ∧ x ≤ (m : Int)
    ·have hst := numsTo_set nums HX.out (by omega)
     have hms := manyTo_step (cut8_at nums HX.out)
     rw [HM.out] at hms
     obtain ⟨x, rfl⟩ : ∃ y : Nat, x = y := ⟨x.toNat, by omega⟩
     rw [Int.toNat_natCast] at hst hms
     have hmz : ((max m (x + 1) : Nat) : Int) = max (m : Int) ((x : Int) + 1) := by omega
     have c1 : wr.cell? ⟨w1.heap.size, k, none⟩ = some (nv 0) := B2.out.nat (numsTo_at nums (by omega) (by omega))
     have cf := B2.out.frozen k
     have HST := Lq hst
     have HMS := Lq hms
     have HMZ := Lq hmz
     clear hst hms hmz
     go_wp2_with fail
     refine ⟨⟨k + 1, by omega, by go_num, by rw [HMS.out, HMZ.out], by rw [HMS.out]; omega, Lq (by rw [HCS.out]; exact decide_eq_true hok), Lq ?_, Lq (belowS HB2.out (Nat.le_refl _) _)⟩, by simp [intOf]; omega⟩
     rw [← HST.out]
     exact B2.out.setNat k x
    ·have hcf : cutOkTo nums nums.length = false := cutOkTo_false (k := k + 1) (by omega) (by rw [HCS.out]; exact decide_eq_false hok)
     have HCF := Lq hcf
     clear hcf
     go_wp2_with fail
     all_goals (
      go_ret2
      exact HFC.out _ _ (belowT HB1.out HB2.out) (.inl ⟨HCF.out, rfl⟩))
   ·obtain rfl : k = h.ps.length := by omega
    have hokn : cutOkTo nums nums.length = true := by rw [hnn]; exact HOK.out
    have hc8 := cut8_lt (by omega) hokn
    have hb : Blk wr w1.heap.size 155 ((cut8 nums).map nv).toArray := by have := B2.out; unfold cut8; rw [hnn]; exact this
    have hcl : (cut8 nums).length = 8 := numsTo_len nums (Nat.le_refl _) (by omega)
    obtain ⟨c, hc⟩ := ex (cut8 nums)
    rw [hc] at hc8 hb hcl hmk
    have hds := HD0.out.st.below HB2.out
    have hkn := HD0.out.kn.below HB2.out
    have HC := Lq hc
    have HOKN := Lq hokn
    obtain ⟨a0, a1, a2, a3, a4, a5, a6, a7, hce⟩ := eight hcl
    have hS : ∀ W, BW wr W → W.cell? ⟨w1.heap.size, 0, none⟩ = some (nv a0) ∧ W.cell? ⟨w1.heap.size, 1, none⟩ = some (nv a1) ∧ W.cell? ⟨w1.heap.size, 2, none⟩ = some (nv a2) ∧ W.cell? ⟨w1.heap.size, 3, none⟩ = some (nv a3) ∧ W.cell? ⟨w1.heap.size, 4, none⟩ = some (nv a4) ∧ W.cell? ⟨w1.heap.size, 5, none⟩ = some (nv a5) ∧ W.cell? ⟨w1.heap.size, 6, none⟩ = some (nv a6) ∧ W.cell? ⟨w1.heap.size, 7, none⟩ = some (nv a7) ∧ W.cell? ⟨g, 0, none⟩ = some (.slice A h.ps.length cap) := fun W hb' => by
     have hb2 := hb.same (hb'.block _ hb.lt)
     rw [hce] at hb2
     exact ⟨hb2.nat rfl, hb2.nat rfl, hb2.nat rfl, hb2.nat rfl, hb2.nat rfl, hb2.nat rfl, hb2.nat rfl, hb2.nat rfl, keepC hb' hds.c0⟩
    have HDS := Lq hds
    have HKN := Lq hkn
    have HS := Lq hS
    clear hS hds hkn hb hc hokn HOK B2
    go_wp2_with fail
    go_upto_region 15 with fail
    rw [HC.out]
    refine reg28_15 hce hc8 hn8 HS.out ?_
    intro gg u60 u61 u62 u63 u64 u65 u66 u67 u68 u69 u70 wx hgg hgl hbx hblk
    dsimp only
    have hml := manyTo_le hc8 h.ps.length
    have hw5 := HDS.out.below hbx
    have hk5 := HKN.out.below hbx
    obtain ⟨M, hM⟩ := ex (manyTo c h.ps.length)
    obtain ⟨S, hS⟩ := ex (blkTo c h.ps.length)
    have hSl : S.length = 8 := by rw [← hS]; exact blkTo_len _ _
    have hS2 : ∀ x ∈ S, x < 2 ^ h.ps.length := by rw [← hS]; exact blkTo_lt2 _ _
    have hS256 : ∀ x ∈ S, x < 256 := by rw [← hS]; exact blkTo_lt _ _ hn8
    rw [hM] at hml ⊢
    rw [hS] at hblk
    have HFC2 : Hid (∀ e w', BW w w' → e = .returned (.tuple #[iv (badAt h N S M), iv 0]) → BadPost h l nums w e w') := Lq fun e w' a b => HFC.out e w' a (.inr ⟨HOKN.out, by rw [HC.out, hM, hS]; exact b⟩)
    have HBX := Lq (belowT HB2.out hbx)
    have HBLK := Lq hblk
    have HDS5 := Lq hw5
    have HKN5 := Lq hk5
    have hkx := hk5.lt
    have hgx : km < wr.heap.size := HKN.out.lt
    have hslx := fun W => slice122 W gg M hml
    clear hM hS hw5 hk5 hblk hbx HS HDS HKN HFC HB2 HNR
    go_wp2_with fail
    clear hslx
    go_loopw [74] (fun vi wr2 => ∃ i : Nat, i ≤ M ∧ vi = iv i ∧ Hid (OnlyAt wx wr2 km) ∧ Hid (KnownAt wr2 km (mostV h N)) ∧ Hid (∀ j, j < i → goodS h N (S[j]?.getD 0) = true)) (fun vi _ => M - (intOf vi).toNat)
    case atStart => exact ⟨0, Nat.zero_le _, rfl, Lq (OnlyAt.refl wx km), HKN5, Lq (fun j hj => by omega)⟩
    case round =>
     obtain ⟨i, hi, rfl, HO, HK, HG⟩ := hrel
     by_cases hlt2 : i < M
     ·obtain ⟨s, hs⟩ : ∃ s, S[i]? = some s := ⟨_, List.getElem?_eq_getElem (by omega)⟩
      have hsm := List.mem_of_getElem? hs
      have hs256 := hS256 s hsm
      have e0 : wr.cell? ⟨gg, i, none⟩ = some (nv s) := HO.out.cell (HBLK.out.nat hs) (by omega)
      have hds := HDS5.out.only HO.out (.inl rfl)
      have hha := hangs_any g s h.ps.length J h.js capJ BD wr hs256 hn8 hk.js hk.j12 hds.c1 hds.rj hds.hB
      have hli := fun W (hb : BW wr W) => light_any (hds.below hb) hT (HK.out.below hb) s hs256 (by have := hk.s1; have := hk.s2; have := hk.s3; omega) (by have := hk.w1; have := hk.w2; omega) (HBD.out s (hS2 s hsm))
      have hgs : goodS h N (S[i]?.getD 0) = (hangsB h.js s && decide (mostV h N s * h.shi ≤ 1000 * h.winch)) := by rw [hs]; rfl
      have HGS := Lq hgs
      have HLI := Lq hli
      obtain ⟨q1, hq1⟩ := ex (hangsB h.js s)
      obtain ⟨q2, hq2⟩ := ex (decide (mostV h N s * h.shi ≤ 1000 * h.winch))
      rw [hq1, hq2] at HGS
      rw [hq2] at HLI
      rw [hq1] at hha
      have HHA := Lq hha
      clear hli hgs hq1 hq2 hs hha
      go_wp2_with fail
      refine HHA.out.mono ?_
      rintro e w6 ⟨rfl, hb6⟩
      have HB6 := Lq hb6
      clear hb6
      cases q1
      ·go_wp2_with fail
       go_ret2
       exact HFC2.out _ _ ((HO.out.trans (OnlyAt.of_below HB6.out km)).below (belowT HB1.out HBX.out) (by omega)) (by rw [badAt_some hlt2 HG.out HGS.out]; rfl)
      ·go_wp2_with fail
       refine (HLI.out w6 HB6.out).mono ?_
       rintro e w7 ⟨rfl, ho7, hk7⟩
       have HO7 := Lq ((HO.out.trans (OnlyAt.of_below HB6.out km)).trans ho7)
       have HK7 := Lq hk7
       clear ho7 hk7
       cases q2
       ·go_wp2_with fail
        go_ret2
        exact HFC2.out _ _ (HO7.out.below (belowT HB1.out HBX.out) (by omega)) (by rw [badAt_some hlt2 HG.out HGS.out]; rfl)
       ·go_wp2_with fail
        exact ⟨⟨i + 1, by omega, by go_num, HO7, HK7, Lq fun j hj => by
         rcases Nat.lt_or_ge j i with hji | hji
         ·exact HG.out j hji
         ·obtain rfl : j = i := by omega
          exact HGS.out⟩, by simp [intOf]; omega⟩
     ·obtain rfl : i = M := by omega
      go_wp2_with fail
      go_ret2
      exact HFC2.out _ _ (HO.out.below (belowT HB1.out HBX.out) (by omega)) (by rw [badAt_none HG.out]; rfl)
def firstAt (pred : Nat → Bool) (S : List Nat) (m : Nat) : Int := match (List.range m).find? (fun i => pred (S[i]?.getD 0)) with
 | some i => (i : Int)
 | none => -1
def anyTo (pred : Nat → Bool) (S : List Nat) (m : Nat) : Bool := (List.range m).any (fun i => pred (S[i]?.getD 0))
theorem firstAt_none {pred : Nat → Bool} {S : List Nat} {m : Nat} (h : ∀ i, i < m → pred (S[i]?.getD 0) = false) : firstAt pred S m = -1 := by
 unfold firstAt
 rw [List.find?_range_eq_none.2 (fun i hi => by rw [h i hi]; rfl)]
theorem firstAt_some {pred : Nat → Bool} {S : List Nat} {m i : Nat} (hi : i < m) (h : ∀ j, j < i → pred (S[j]?.getD 0) = false) (hb : pred (S[i]?.getD 0) = true) : firstAt pred S m = (i : Int) := by
 have e : (List.range m).find? (fun i => pred (S[i]?.getD 0)) = some i := List.find?_range_eq_some.2 ⟨hb, by simpa using hi, fun j hj => by rw [h j hj]; rfl⟩
 unfold firstAt
 rw [e]
theorem firstAt_any (pred : Nat → Bool) (S : List Nat) (m : Nat) : decide (0 ≤ firstAt pred S m) = anyTo pred S m := by
 unfold firstAt anyTo
 cases h : (List.range m).find? (fun i => pred (S[i]?.getD 0)) with
 | none =>
  rw [List.find?_eq_none] at h
  have : (List.range m).any (fun i => pred (S[i]?.getD 0)) = false := by
   rw [List.any_eq_false]
   exact h
  rw [this]; rfl
 | some i =>
  have h1 := List.find?_some h
  have h2 := List.mem_of_find?_eq_some h
  have : (List.range m).any (fun i => pred (S[i]?.getD 0)) = true := by
   rw [List.any_eq_true]
   exact ⟨i, h2, h1⟩
  rw [this]
  simp
theorem nohang_any (g db s n capJ B : Nat) (Ja : Option Addr) (js : List (Int × Int)) (w : World) (hs : s < 256) (hn8 : n ≤ 8) (hj : JsOk n js) (hjl : js.length ≤ 12) (hd : w.cell? ⟨db, 0, none⟩ = some (ptr g))
  (c1 : w.cell? ⟨g, 1, none⟩ = some (.slice Ja js.length capJ)) (hR : RdN 2 encSp w B Ja js) (hB : B ≤ w.heap.size) :
  Calls Tryz.prog 115 #[iv s, ptr db] w (Rt w (.bool (!hangsB js s))) := by
 have hh := hangs_any g s n Ja js capJ B w hs hn8 hj hjl c1 hR hB
 have HH := Lq hh
 clear hh c1 hR hj
 go_enter Tryz.func115, Tryz.ntmps115
 go_wp2_with fail
 refine HH.out.mono ?_
 rintro e w1 ⟨rfl, hb⟩
 have HB := Lq hb
 clear hb HH hd
 go_wp2_with fail
 go_ret
 exact ⟨rfl, HB.out⟩
theorem index115_any (a : Value) (pred : Nat → Bool) (Inv : World → Prop) (gg m : Nat) (S : List Nat) (w : World) (hm : m ≤ S.length) (h8 : S.length ≤ 8) (hI : Inv w) (hc : ∀ W, Inv W → ∀ i x, S[i]? = some x → W.cell? ⟨gg, i, none⟩ = some (nv x))
  (hF : ∀ W x, Inv W → x ∈ S → Calls Tryz.prog 115 #[iv (x : Nat), a] W fun e w' => e = .returned (.bool (pred x)) ∧ Inv w') :
  Calls Tryz.prog 131 #[.slice (some ⟨gg, 0, none⟩) m 8, .func (.func 115) #[] #[a]] w fun e w' => e = .returned (iv (firstAt pred S m)) ∧ Inv w' := by
 have HF := Lq hF
 have HC := Lq hc
 have HI := Lq hI
 clear hF hc hI
 go_enter Tryz.func131, Tryz.ntmps131
 go_wp2_with fail
 go_loopw [8] (fun vi wr => ∃ i : Nat, i ≤ m ∧ vi = iv i ∧ Hid (Inv wr) ∧ Hid (∀ j, j < i → pred (S[j]?.getD 0) = false)) (fun vi _ => m - (intOf vi).toNat)
 case atStart => exact ⟨0, Nat.zero_le _, rfl, HI, Lq (fun j hj => by omega)⟩
 case round =>
  clear HI
  obtain ⟨i, hi, rfl, HI, HN⟩ := hrel
  by_cases hlt : i < m
  ·obtain ⟨x, hx⟩ : ∃ x, S[i]? = some x := ⟨_, List.getElem?_eq_getElem (by omega)⟩
   have e0 := HC.out wr HI.out i x hx
   have HX := Lq hx
   have hf := HF.out wr x HI.out (List.mem_of_getElem? hx)
   have hp : pred (S[i]?.getD 0) = pred x := by rw [hx]; rfl
   have HP := Lq hp
   obtain ⟨q, hq⟩ := ex (pred x)
   rw [hq] at hf HP
   have HFF := Lq hf
   clear hf hp hq hx
   go_wp2_with fail
   refine HFF.out.mono ?_
   rintro e w1 ⟨rfl, hI1⟩
   have HI1 := Lq hI1
   clear hI1
   cases q
   ·go_wp2_with fail
    exact ⟨⟨i + 1, by omega, by go_num, HI1, Lq fun j hj => by
     rcases Nat.lt_or_ge j i with hji | hji
     ·exact HN.out j hji
     ·obtain rfl : j = i := by omega
      exact HP.out⟩, by simp [intOf]; omega⟩
   ·go_wp2_with fail
    go_ret
    exact ⟨by rw [firstAt_some hlt HN.out HP.out]; rfl, HI1.out⟩
  ·obtain rfl : i = m := by omega
   go_wp2_with fail
   go_ret
   exact ⟨by rw [firstAt_none HN.out]; rfl, HI.out⟩
theorem contains115_any (a : Value) (pred : Nat → Bool) (Inv : World → Prop) (gg m : Nat) (S : List Nat) (w : World) (hm : m ≤ S.length) (h8 : S.length ≤ 8) (hI : Inv w) (hc : ∀ W, Inv W → ∀ i x, S[i]? = some x → W.cell? ⟨gg, i, none⟩ = some (nv x))
  (hF : ∀ W x, Inv W → x ∈ S → Calls Tryz.prog 115 #[iv (x : Nat), a] W fun e w' => e = .returned (.bool (pred x)) ∧ Inv w') :
  Calls Tryz.prog 107 #[.slice (some ⟨gg, 0, none⟩) m 8, .func (.func 115) #[] #[a]] w fun e w' => e = .returned (.bool (anyTo pred S m)) ∧ Inv w' := by
 have hi := index115_any a pred Inv gg m S w hm h8 hI hc hF
 have ha := firstAt_any pred S m
 obtain ⟨q, hq⟩ := ex (firstAt pred S m)
 rw [hq] at hi ha
 have HI := Lq hi
 have HA := Lq ha
 clear hi ha hI hc hF
 go_enter Tryz.func107, Tryz.ntmps107
 go_wp2_with fail
 refine HI.out.mono ?_
 rintro e w1 ⟨rfl, hI1⟩
 have HI1 := Lq hI1
 clear hI1 HI
 go_wp2_with fail
 go_ret
 exact ⟨by rw [← HA.out]; rfl, HI1.out⟩
theorem index128_any (a b : Value) (pred : Nat → Bool) (Inv : World → Prop) (gg m : Nat) (S : List Nat) (w : World) (hm : m ≤ S.length) (h8 : S.length ≤ 8) (hI : Inv w) (hc : ∀ W, Inv W → ∀ i x, S[i]? = some x → W.cell? ⟨gg, i, none⟩ = some (nv x))
  (hF : ∀ W x, Inv W → x ∈ S → Calls Tryz.prog 135 #[iv (x : Nat), a, b] W fun e w' => e = .returned (.bool (pred x)) ∧ Inv w') :
  Calls Tryz.prog 131 #[.slice (some ⟨gg, 0, none⟩) m 8, .func (.func 135) #[] #[a, b]] w fun e w' => e = .returned (iv (firstAt pred S m)) ∧ Inv w' := by
 have HF := Lq hF
 have HC := Lq hc
 have HI := Lq hI
 clear hF hc hI
 go_enter Tryz.func131, Tryz.ntmps131
 go_wp2_with fail
 go_loopw [8] (fun vi wr => ∃ i : Nat, i ≤ m ∧ vi = iv i ∧ Hid (Inv wr) ∧ Hid (∀ j, j < i → pred (S[j]?.getD 0) = false)) (fun vi _ => m - (intOf vi).toNat)
 case atStart => exact ⟨0, Nat.zero_le _, rfl, HI, Lq (fun j hj => by omega)⟩
 case round =>
  clear HI
  obtain ⟨i, hi, rfl, HI, HN⟩ := hrel
  by_cases hlt : i < m
  ·obtain ⟨x, hx⟩ : ∃ x, S[i]? = some x := ⟨_, List.getElem?_eq_getElem (by omega)⟩
   have e0 := HC.out wr HI.out i x hx
   have HX := Lq hx
   have hf := HF.out wr x HI.out (List.mem_of_getElem? hx)
   have hp : pred (S[i]?.getD 0) = pred x := by rw [hx]; rfl
   have HP := Lq hp
   obtain ⟨q, hq⟩ := ex (pred x)
   rw [hq] at hf HP
   have HFF := Lq hf
   clear hf hp hq hx
   go_wp2_with fail
   refine HFF.out.mono ?_
   rintro e w1 ⟨rfl, hI1⟩
   have HI1 := Lq hI1
   clear hI1
   cases q
   ·go_wp2_with fail
    exact ⟨⟨i + 1, by omega, by go_num, HI1, Lq fun j hj => by
     rcases Nat.lt_or_ge j i with hji | hji
     ·exact HN.out j hji
     ·obtain rfl : j = i := by omega
      exact HP.out⟩, by simp [intOf]; omega⟩
   ·go_wp2_with fail
    go_ret
    exact ⟨by rw [firstAt_some hlt HN.out HP.out]; rfl, HI1.out⟩
  ·obtain rfl : i = m := by omega
   go_wp2_with fail
   go_ret
   exact ⟨by rw [firstAt_none HN.out]; rfl, HI.out⟩
theorem contains128_any (a b : Value) (pred : Nat → Bool) (Inv : World → Prop) (gg m : Nat) (S : List Nat) (w : World) (hm : m ≤ S.length) (h8 : S.length ≤ 8) (hI : Inv w) (hc : ∀ W, Inv W → ∀ i x, S[i]? = some x → W.cell? ⟨gg, i, none⟩ = some (nv x))
  (hF : ∀ W x, Inv W → x ∈ S → Calls Tryz.prog 135 #[iv (x : Nat), a, b] W fun e w' => e = .returned (.bool (pred x)) ∧ Inv w') :
  Calls Tryz.prog 107 #[.slice (some ⟨gg, 0, none⟩) m 8, .func (.func 135) #[] #[a, b]] w fun e w' => e = .returned (.bool (anyTo pred S m)) ∧ Inv w' := by
 have hi := index128_any a b pred Inv gg m S w hm h8 hI hc hF
 have ha := firstAt_any pred S m
 obtain ⟨q, hq⟩ := ex (firstAt pred S m)
 rw [hq] at hi ha
 have HI := Lq hi
 have HA := Lq ha
 clear hi ha hI hc hF
 go_enter Tryz.func107, Tryz.ntmps107
 go_wp2_with fail
 refine HI.out.mono ?_
 rintro e w1 ⟨rfl, hI1⟩
 have HI1 := Lq hI1
 clear hI1 HI
 go_wp2_with fail
 go_ret
 exact ⟨by rw [← HA.out]; rfl, HI1.out⟩
end Go.Proofs.YtmhjhbchokbonaaGreat
