/- stand.Ballast of the law's own hull (printed by mkT17.py). -/
import Derived.Test.YtmhjhbchokbonaaGreatM0
import Derived.Test.YtmhjhbchokbonaaGreatM21
set_option maxRecDepth 1000000
set_option maxHeartbeats 16000000
namespace Go.Proofs.YtmhjhbchokbonaaGreat
open Go.RowKit Go.Shelf
attribute [local go_sem] Oper.semAt_some
def balM (n : Nat) : Int := if n = 3 then 350 else 0
def balE (b : Int) : Int := if b = 150 then 350 else 0
def pMid : StP := ⟨⟨#[109, 105, 100]⟩, 400, 500, 600, 100, 4, 5⟩
structure BalI (W0 : World) (gm : Nat) (x : Int) (W : World) : Prop where
 os : W.os = W0.os
 tape : W.tape = W0.tape
 output : W.output = W0.output
 keep : KeepM (fun k => k = gm ∨ k = gm) W0 W
 bm : Blk W gm 3 #[iv x]
theorem BalI.below {W0 W X : World} {gm B : Nat} {x : Int} (h : BalI W0 gm x W) (hb : Below B W X) (hB : W0.heap.size ≤ B) (h1 : gm < B) : BalI W0 gm x X :=
 ⟨hb.os.trans h.os, hb.tape.trans h.tape, hb.output.trans h.output, ⟨Nat.le_trans h.keep.size hb.size, fun k hk hl => (hb.block k (by omega)).trans (h.keep.same k hk hl)⟩, h.bm.same (hb.block _ h1)⟩
theorem BalI.fin {w W0 W : World} {gm : Nat} {x : Int} (h : BalI W0 gm x W) (hb : BW w W0) (h1 : w.heap.size ≤ gm) : BW w W :=
 ⟨h.os.trans hb.os, h.tape.trans hb.tape, h.output.trans hb.output, Nat.le_trans hb.size h.keep.size, fun k hk => (h.keep.same k (by omega) (Nat.lt_of_lt_of_le hk hb.size)).trans (hb.block k hk)⟩
theorem val_least0 : leastK hull5 0 0 = 3500 ∧ leastK hull5 1 0 = 1380000 ∧ leastK hull5 2 0 = 700000 := by refine ⟨?_, ?_, ?_⟩ <;> kernel_rfl
theorem val_least50 : leastK hull5 0 50 = 3500 ∧ leastK hull5 1 50 = 1380000 ∧ leastK hull5 2 50 = 700000 := by refine ⟨?_, ?_, ?_⟩ <;> kernel_rfl
theorem val_least100 : leastK hull5 0 100 = 2900 ∧ leastK hull5 1 100 = 1430000 ∧ leastK hull5 2 100 = 280000 := by refine ⟨?_, ?_, ?_⟩ <;> kernel_rfl
theorem pieces_cases {pre : List (Int × Int)} {s : Int × Int} (h : pre ++ [s] <+: [(0, 50), (50, 100), (100, 150)]) : (s = (0, 50) ∧ pre.length = 0) ∨ (s = (50, 100) ∧ pre.length = 1) ∨ (s = (100, 150) ∧ pre.length = 2) := by
 obtain ⟨r, hr⟩ := h
 match pre, hr with
 | [], hr => simp at hr; exact .inl ⟨hr.1, rfl⟩
 | [p], hr => simp at hr; exact .inr (.inl ⟨hr.2.1, rfl⟩)
 | [p, q], hr => simp at hr; exact .inr (.inr ⟨hr.2.2.1, rfl⟩)
 | p :: q :: t :: l, hr => simp at hr
theorem ballast28_0 (A : Option Addr) (B : Nat) (w : World) (hH : H5Rd w B hull5 A 3) (hB : B ≤ w.heap.size) :
  Calls Tryz.prog 28 #[.agg #[.slice A 3 3, iv 200, iv 800], iv 0, .agg #[iv 0, iv 150]] w (Rt w (.tuple #[iv 0, iv 2])) := by
 have hx1 : hull5.ps[0]? = some ⟨⟨#[98, 111, 119]⟩, 100, 1000, 1200, 50, 10, 12⟩ := rfl
 obtain ⟨b0, o0, rfl, hb0B, e0, e1, e2, e3, e4, e5, e6⟩ := stAt hH.ps hx1
 obtain ⟨gp, hgp⟩ := ex (w.heap.size + 1)
 obtain ⟨gt, hgt⟩ := ex (gp + 1)
 obtain ⟨g6, hg6⟩ := ex (gt + 1)
 obtain ⟨g7, hg7⟩ := ex (g6 + 1)
 obtain ⟨W1, hW1⟩ := ex ((((((w.alloc (.cells #[.slice (some ⟨b0, o0, none⟩) 3 3, iv 200, iv 800] 24)).alloc (.cells #[iv 0] 3)).alloc (.cells #[iv 0, iv 150] 36)).alloc (.cells #[iv 0] 3)).alloc (.cells #[iv 0] 31)))
 have hbW1 : BW w W1 := by rw [← hW1]; exact (belowA (belowA (belowA (belowA (belowA (belowR _) _) _) _) _) _)
 have hzW1 : W1.heap.size = w.heap.size + 5 := by rw [← hW1]; simp
 have k0 : Blk W1 w.heap.size 24 #[.slice (some ⟨b0, o0, none⟩) 3 3, iv 200, iv 800] := by
  rw [← hW1]
  exact ((((Blk.new w 24 #[.slice (some ⟨b0, o0, none⟩) 3 3, iv 200, iv 800]).alloc (.cells #[iv 0] 3)).alloc (.cells #[iv 0, iv 150] 36)).alloc (.cells #[iv 0] 3)).alloc (.cells #[iv 0] 31)
 have k1 : Blk W1 gp 3 #[iv 0] := by
  rw [← hW1, ← hgp]
  have := (((Blk.new (w.alloc (.cells #[.slice (some ⟨b0, o0, none⟩) 3 3, iv 200, iv 800] 24)) 3 #[iv 0]).alloc (.cells #[iv 0, iv 150] 36)).alloc (.cells #[iv 0] 3)).alloc (.cells #[iv 0] 31)
  rw [World.size_alloc] at this
  exact this
 have k2 : Blk W1 gt 36 #[iv 0, iv 150] := by
  rw [← hW1, ← hgt, ← hgp]
  have := ((Blk.new ((w.alloc (.cells #[.slice (some ⟨b0, o0, none⟩) 3 3, iv 200, iv 800] 24)).alloc (.cells #[iv 0] 3)) 36 #[iv 0, iv 150]).alloc (.cells #[iv 0] 3)).alloc (.cells #[iv 0] 31)
  rw [World.size_alloc, World.size_alloc] at this
  exact this
 have k3 : Blk W1 g6 3 #[iv 0] := by
  rw [← hW1, ← hg6, ← hgt, ← hgp]
  have := (Blk.new (((w.alloc (.cells #[.slice (some ⟨b0, o0, none⟩) 3 3, iv 200, iv 800] 24)).alloc (.cells #[iv 0] 3)).alloc (.cells #[iv 0, iv 150] 36)) 3 #[iv 0]).alloc (.cells #[iv 0] 31)
  rw [World.size_alloc, World.size_alloc, World.size_alloc] at this
  exact this
 have k4 : Blk W1 g7 31 #[iv 0] := by
  rw [← hW1, ← hg7, ← hg6, ← hgt, ← hgp]
  have := Blk.new ((((w.alloc (.cells #[.slice (some ⟨b0, o0, none⟩) 3 3, iv 200, iv 800] 24)).alloc (.cells #[iv 0] 3)).alloc (.cells #[iv 0, iv 150] 36)).alloc (.cells #[iv 0] 3)) 31 #[iv 0]
  rw [World.size_alloc, World.size_alloc, World.size_alloc, World.size_alloc] at this
  exact this
 have hck : Calls Tryz.prog 60 #[.agg #[.slice (some ⟨b0, o0, none⟩) 3 3, iv 200, iv 800]] W1 (Rt W1 (ret3 (0, 0, 0))) := by have := check60_any hull5 (some ⟨b0, o0, none⟩) B 3 W1 (hH.below hbW1 hB) (by omega); rw [hull5_chk] at this; exact this
 have HCK := Lq hck
 have HO : Hid (∀ (lo hi x : Int) (b : Bool), inB lo hi x = b → ∀ (g : Nat) (V : World), V.cell? ⟨g, 0, none⟩ = some (iv x) → Calls Tryz.prog 67 #[iv lo, iv hi, .slice (some ⟨g, 0, none⟩) 1 1] V (Rt V (.bool (!b)))) := Lq fun lo hi x b hx g V hc => bey_oneB hx g V hc
 have HTI := Lq fun W => tidal61_any 0 150 W (by omega) (by omega) (by omega)
 have HB1 := Lq hbW1
 have HH1 := Lq (hH.below hbW1 hB)
 have HC : Hid (∀ V, BW W1 V → Blk V w.heap.size 24 #[.slice (some ⟨b0, o0, none⟩) 3 3, iv 200, iv 800] ∧ Blk V gp 3 #[iv 0] ∧ Blk V gt 36 #[iv 0, iv 150] ∧ Blk V g6 3 #[iv 0] ∧ Blk V g7 31 #[iv 0]) := Lq fun V hb => ⟨k0.same (hb.block _ k0.lt), k1.same (hb.block _ k1.lt), k2.same (hb.block _ k2.lt), k3.same (hb.block _ k3.lt), k4.same (hb.block _ k4.lt)⟩
 have HE : Hid (∀ V, BW w V → V.cell? ⟨b0, o0, none⟩ = some (.string ⟨#[98, 111, 119]⟩) ∧ V.cell? ⟨b0, o0 + 1, none⟩ = some (iv 100) ∧ V.cell? ⟨b0, o0 + 2, none⟩ = some (iv 1000) ∧ V.cell? ⟨b0, o0 + 3, none⟩ = some (iv 1200) ∧ V.cell? ⟨b0, o0 + 4, none⟩ = some (iv 50) ∧ V.cell? ⟨b0, o0 + 5, none⟩ = some (iv 10) ∧ V.cell? ⟨b0, o0 + 6, none⟩ = some (iv 12)) := Lq fun V hb => ⟨keepC hb e0, keepC hb e1, keepC hb e2, keepC hb e3, keepC hb e4, keepC hb e5, keepC hb e6⟩
 have p0 := k0.c 0
 have p1 := k0.c 1
 have p2 := k0.c 2
 clear hH hbW1 k0 k1 k2 k3 k4 hck e0 e1 e2 e3 e4 e5 e6 hx1
 refine (callsIn_wide (n := 0)).1 ?_
 refine callsIn_of_wp_marks Tryz.func28 rfl trivial ?_ rfl
 simp only [Tryz.ntmps28, List.size_toArray, List.length_cons, List.length_nil, Nat.reduceAdd, Nat.reduceSub, Array.replicate_succ, Array.replicate_zero, List.push_toArray, List.append_toArray, List.nil_append, List.cons_append]
 gi_wp2_with fail
 refine ⟨trivial, rfl, (callsIn_wide.2 HCK.out).mono ?_⟩
 rintro e w2 ⟨rfl, hb2⟩
 have X2 := Lq hb2
 have hz2 := hb2.size
 clear hb2 p0 p1 p2 hW1 HCK
 have p0 := (HC.out _ X2.out).1.c 0
 have r0 := (HC.out _ X2.out).2.1.c 0
 unfold ret3
 gi_wp2_with fail
 refine ⟨trivial, rfl, (callsIn_wide.2 (HO.out 0 2 0 true (by decide) _ _ (by go_simp))).mono ?_⟩
 rintro e w3 ⟨rfl, hb3⟩
 have X3 := Lq (belowT X2.out (belowT (belowA (belowR w2) _) hb3))
 have hz3 := X3.out.size
 clear hb3 p0 r0
 have HBD := Lq (belowDq (belowR w3))
 have HS : Hid (∀ V, BW w3 V → V.cell? ⟨w.heap.size, 0, none⟩ = some (.slice (some ⟨b0, o0, none⟩) 3 3) ∧ V.cell? ⟨w.heap.size, 1, none⟩ = some (iv 200) ∧ V.cell? ⟨w.heap.size, 2, none⟩ = some (iv 800) ∧ V.cell? ⟨gp, 0, none⟩ = some (iv 0) ∧ V.cell? ⟨b0, o0 + 1, none⟩ = some (iv 100)) := Lq fun V hb => ⟨(HC.out _ (belowT X3.out hb)).1.cell 0, (HC.out _ (belowT X3.out hb)).1.cell 1, (HC.out _ (belowT X3.out hb)).1.cell 2, (HC.out _ (belowT X3.out hb)).2.1.cell 0, (HE.out _ (belowT (belowT HB1.out X3.out) hb)).2.1⟩
 gi_wp2_with fail
 refine wpIn_wide.2 ?_
 go_region_held3 (fun V => V.cell? ⟨w.heap.size, 0, none⟩ = some (.slice (some ⟨b0, o0, none⟩) 3 3) ∧ V.cell? ⟨w.heap.size, 1, none⟩ = some (iv 200) ∧ V.cell? ⟨w.heap.size, 2, none⟩ = some (iv 800) ∧ V.cell? ⟨gp, 0, none⟩ = some (iv 0) ∧ V.cell? ⟨b0, o0 + 1, none⟩ = some (iv 100)) (first | exact HS.out _ HBD.out | exact HS.out _ (belowA HBD.out _) | exact HS.out _ X4.out) ((go_at_call 67; (refine (HO.out 200 800 100 false (by decide) _ _ (by go_simp)).mono ?_); rintro e w4 ⟨rfl, hb4⟩; have X4 := Lq (belowT (belowA HBD.out _) hb4); clear hb4))
 have X5 := Lq (belowT X3.out X4.out)
 have hz4 := X4.out.size
 have b6 := (HC.out _ X5.out).2.2.2.1
 have b7 := (HC.out _ X5.out).2.2.2.2
 have q6 := b6.c 0
 have q7 := b7.c 0
 have f6 := b6.frozen 0
 have f7 := b7.frozen 0
 have l6 := b6.lt
 have l7 := b7.lt
 have B6 := Lq b6
 have B7 := Lq b7
 clear b6 b7
 gi_wp2_with fail
 obtain ⟨wx, hwx⟩ := ex ((w4.setCell ⟨g6, 0, none⟩ (iv 0)).setCell ⟨g7, 0, none⟩ (iv 2))
 have k6 : Blk wx g6 3 #[iv 0] := by rw [← hwx]; exact (B6.out.set_ 0 _).far (by dsimp only; omega) _
 have k7 : Blk wx g7 31 #[iv 2] := by rw [← hwx]; exact (B7.out.far (by dsimp only; omega) _).set_ 0 _
 have hbx : BW w wx := by rw [← hwx]; exact belowS (belowS (belowT HB1.out X5.out) (by dsimp only; omega) _) (by dsimp only; omega) _
 rw [hwx]
 have y6 := k6.c 0
 have y7 := k7.c 0
 clear hwx q6 q7 f6 f7
 exact ⟨.tuple #[iv 0, iv 2], by simp [results, Tryz.results28, go_sem, y6, y7], rfl, hbx⟩
theorem ballast28_1 (A : Option Addr) (B : Nat) (w : World) (hH : H5Rd w B hull5 A 3) (hB : B ≤ w.heap.size) :
  Calls Tryz.prog 28 #[.agg #[.slice A 3 3, iv 200, iv 800], iv 1, .agg #[iv 0, iv 150]] w (Rt w (.tuple #[iv 350, iv 0])) := by
 have hx1 : hull5.ps[1]? = some pMid := rfl
 obtain ⟨b0, o0, rfl, hb0B, e0, e1, e2, e3, e4, e5, e6⟩ := stAt hH.ps hx1
 obtain ⟨gp, hgp⟩ := ex (w.heap.size + 1)
 obtain ⟨gt, hgt⟩ := ex (gp + 1)
 obtain ⟨g6, hg6⟩ := ex (gt + 1)
 obtain ⟨g7, hg7⟩ := ex (g6 + 1)
 obtain ⟨W1, hW1⟩ := ex ((((((w.alloc (.cells #[.slice (some ⟨b0, o0, none⟩) 3 3, iv 200, iv 800] 24)).alloc (.cells #[iv 1] 3)).alloc (.cells #[iv 0, iv 150] 36)).alloc (.cells #[iv 0] 3)).alloc (.cells #[iv 0] 31)))
 have hbW1 : BW w W1 := by rw [← hW1]; exact (belowA (belowA (belowA (belowA (belowA (belowR _) _) _) _) _) _)
 have hzW1 : W1.heap.size = w.heap.size + 5 := by rw [← hW1]; simp
 have k0 : Blk W1 w.heap.size 24 #[.slice (some ⟨b0, o0, none⟩) 3 3, iv 200, iv 800] := by
  rw [← hW1]
  exact ((((Blk.new w 24 #[.slice (some ⟨b0, o0, none⟩) 3 3, iv 200, iv 800]).alloc (.cells #[iv 1] 3)).alloc (.cells #[iv 0, iv 150] 36)).alloc (.cells #[iv 0] 3)).alloc (.cells #[iv 0] 31)
 have k1 : Blk W1 gp 3 #[iv 1] := by
  rw [← hW1, ← hgp]
  have := (((Blk.new (w.alloc (.cells #[.slice (some ⟨b0, o0, none⟩) 3 3, iv 200, iv 800] 24)) 3 #[iv 1]).alloc (.cells #[iv 0, iv 150] 36)).alloc (.cells #[iv 0] 3)).alloc (.cells #[iv 0] 31)
  rw [World.size_alloc] at this
  exact this
 have k2 : Blk W1 gt 36 #[iv 0, iv 150] := by
  rw [← hW1, ← hgt, ← hgp]
  have := ((Blk.new ((w.alloc (.cells #[.slice (some ⟨b0, o0, none⟩) 3 3, iv 200, iv 800] 24)).alloc (.cells #[iv 1] 3)) 36 #[iv 0, iv 150]).alloc (.cells #[iv 0] 3)).alloc (.cells #[iv 0] 31)
  rw [World.size_alloc, World.size_alloc] at this
  exact this
 have k3 : Blk W1 g6 3 #[iv 0] := by
  rw [← hW1, ← hg6, ← hgt, ← hgp]
  have := (Blk.new (((w.alloc (.cells #[.slice (some ⟨b0, o0, none⟩) 3 3, iv 200, iv 800] 24)).alloc (.cells #[iv 1] 3)).alloc (.cells #[iv 0, iv 150] 36)) 3 #[iv 0]).alloc (.cells #[iv 0] 31)
  rw [World.size_alloc, World.size_alloc, World.size_alloc] at this
  exact this
 have k4 : Blk W1 g7 31 #[iv 0] := by
  rw [← hW1, ← hg7, ← hg6, ← hgt, ← hgp]
  have := Blk.new ((((w.alloc (.cells #[.slice (some ⟨b0, o0, none⟩) 3 3, iv 200, iv 800] 24)).alloc (.cells #[iv 1] 3)).alloc (.cells #[iv 0, iv 150] 36)).alloc (.cells #[iv 0] 3)) 31 #[iv 0]
  rw [World.size_alloc, World.size_alloc, World.size_alloc, World.size_alloc] at this
  exact this
 have hck : Calls Tryz.prog 60 #[.agg #[.slice (some ⟨b0, o0, none⟩) 3 3, iv 200, iv 800]] W1 (Rt W1 (ret3 (0, 0, 0))) := by have := check60_any hull5 (some ⟨b0, o0, none⟩) B 3 W1 (hH.below hbW1 hB) (by omega); rw [hull5_chk] at this; exact this
 have HCK := Lq hck
 have HO : Hid (∀ (lo hi x : Int) (b : Bool), inB lo hi x = b → ∀ (g : Nat) (V : World), V.cell? ⟨g, 0, none⟩ = some (iv x) → Calls Tryz.prog 67 #[iv lo, iv hi, .slice (some ⟨g, 0, none⟩) 1 1] V (Rt V (.bool (!b)))) := Lq fun lo hi x b hx g V hc => bey_oneB hx g V hc
 have HTI := Lq fun W => tidal61_any 0 150 W (by omega) (by omega) (by omega)
 have HB1 := Lq hbW1
 have HH1 := Lq (hH.below hbW1 hB)
 have HC : Hid (∀ V, BW W1 V → Blk V w.heap.size 24 #[.slice (some ⟨b0, o0, none⟩) 3 3, iv 200, iv 800] ∧ Blk V gp 3 #[iv 1] ∧ Blk V gt 36 #[iv 0, iv 150] ∧ Blk V g6 3 #[iv 0] ∧ Blk V g7 31 #[iv 0]) := Lq fun V hb => ⟨k0.same (hb.block _ k0.lt), k1.same (hb.block _ k1.lt), k2.same (hb.block _ k2.lt), k3.same (hb.block _ k3.lt), k4.same (hb.block _ k4.lt)⟩
 have HE : Hid (∀ V, BW w V → V.cell? ⟨b0, o0 + 7, none⟩ = some (.string ⟨#[109, 105, 100]⟩) ∧ V.cell? ⟨b0, o0 + 7 + 1, none⟩ = some (iv 400) ∧ V.cell? ⟨b0, o0 + 7 + 2, none⟩ = some (iv 500) ∧ V.cell? ⟨b0, o0 + 7 + 3, none⟩ = some (iv 600) ∧ V.cell? ⟨b0, o0 + 7 + 4, none⟩ = some (iv 100) ∧ V.cell? ⟨b0, o0 + 7 + 5, none⟩ = some (iv 4) ∧ V.cell? ⟨b0, o0 + 7 + 6, none⟩ = some (iv 5)) := Lq fun V hb => ⟨keepC hb e0, keepC hb e1, keepC hb e2, keepC hb e3, keepC hb e4, keepC hb e5, keepC hb e6⟩
 have p0 := k0.c 0
 have p1 := k0.c 1
 have p2 := k0.c 2
 clear hH hbW1 k0 k1 k2 k3 k4 hck e0 e1 e2 e3 e4 e5 e6 hx1
 refine (callsIn_wide (n := 0)).1 ?_
 refine callsIn_of_wp_marks Tryz.func28 rfl trivial ?_ rfl
 simp only [Tryz.ntmps28, List.size_toArray, List.length_cons, List.length_nil, Nat.reduceAdd, Nat.reduceSub, Array.replicate_succ, Array.replicate_zero, List.push_toArray, List.append_toArray, List.nil_append, List.cons_append]
 gi_wp2_with fail
 refine ⟨trivial, rfl, (callsIn_wide.2 HCK.out).mono ?_⟩
 rintro e w2 ⟨rfl, hb2⟩
 have X2 := Lq hb2
 have hz2 := hb2.size
 clear hb2 p0 p1 p2 hW1 HCK
 have p0 := (HC.out _ X2.out).1.c 0
 have r0 := (HC.out _ X2.out).2.1.c 0
 unfold ret3
 gi_wp2_with fail
 refine ⟨trivial, rfl, (callsIn_wide.2 (HO.out 0 2 1 true (by decide) _ _ (by go_simp))).mono ?_⟩
 rintro e w3 ⟨rfl, hb3⟩
 have X3 := Lq (belowT X2.out (belowT (belowA (belowR w2) _) hb3))
 have hz3 := X3.out.size
 clear hb3 p0 r0
 have HBD := Lq (belowDq (belowR w3))
 have HS : Hid (∀ V, BW w3 V → V.cell? ⟨w.heap.size, 0, none⟩ = some (.slice (some ⟨b0, o0, none⟩) 3 3) ∧ V.cell? ⟨w.heap.size, 1, none⟩ = some (iv 200) ∧ V.cell? ⟨w.heap.size, 2, none⟩ = some (iv 800) ∧ V.cell? ⟨gp, 0, none⟩ = some (iv 1) ∧ V.cell? ⟨b0, o0 + 7 + 1, none⟩ = some (iv 400)) := Lq fun V hb => ⟨(HC.out _ (belowT X3.out hb)).1.cell 0, (HC.out _ (belowT X3.out hb)).1.cell 1, (HC.out _ (belowT X3.out hb)).1.cell 2, (HC.out _ (belowT X3.out hb)).2.1.cell 0, (HE.out _ (belowT (belowT HB1.out X3.out) hb)).2.1⟩
 gi_wp2_with fail
 refine wpIn_wide.2 ?_
 go_region_held3 (fun V => V.cell? ⟨w.heap.size, 0, none⟩ = some (.slice (some ⟨b0, o0, none⟩) 3 3) ∧ V.cell? ⟨w.heap.size, 1, none⟩ = some (iv 200) ∧ V.cell? ⟨w.heap.size, 2, none⟩ = some (iv 800) ∧ V.cell? ⟨gp, 0, none⟩ = some (iv 1) ∧ V.cell? ⟨b0, o0 + 7 + 1, none⟩ = some (iv 400)) (first | exact HS.out _ HBD.out | exact HS.out _ (belowA HBD.out _) | exact HS.out _ X4.out) ((go_at_call 67; (refine (HO.out 200 800 400 true (by decide) _ _ (by go_simp)).mono ?_); rintro e w4 ⟨rfl, hb4⟩; have X4 := Lq (belowT (belowA HBD.out _) hb4); clear hb4))
 have X5 := Lq (belowT X3.out X4.out)
 have hz4 := X4.out.size
 have r0 := (HC.out _ X5.out).2.2.1.c 0
 have r1 := (HC.out _ X5.out).2.2.1.c 1
 gi_wp2_with fail
 refine ⟨trivial, rfl, (callsIn_wide.2 (HTI.out w4)).mono ?_⟩
 rintro e w5 ⟨rfl, hb5⟩
 have X6 := Lq (belowT X5.out hb5)
 have hz5 := hb5.size
 clear hb5 r0 r1 HTI HO HBD HS X2 X3 X4 X5
 have p0 := (HC.out _ X6.out).1.c 0
 have p1 := (HC.out _ X6.out).1.c 1
 have p2 := (HC.out _ X6.out).1.c 2
 have r0 := (HC.out _ X6.out).2.2.1.c 0
 have r1 := (HC.out _ X6.out).2.2.1.c 1
 obtain ⟨g11, hg11⟩ := ex w5.heap.size
 obtain ⟨gm, hgm⟩ := ex (g11 + 1)
 obtain ⟨bb, hbb⟩ := ex (gm + 1)
 obtain ⟨tb, htb⟩ := ex (bb + 1)
 obtain ⟨Wa, hWa⟩ := ex (w5.alloc (.cells #[.slice (some ⟨b0, o0, none⟩) 3 3, iv 200, iv 800] 119))
 have hba : BW w5 Wa := by rw [← hWa]; exact belowA (belowR _) _
 have hza : Wa.heap.size = gm := by rw [← hWa]; simp; omega
 have k11 : Blk Wa g11 119 #[.slice (some ⟨b0, o0, none⟩) 3 3, iv 200, iv 800] := by rw [← hWa, ← hg11]; exact Blk.new w5 119 _
 have q11 := k11.c 0
 have q12 := k11.c 1
 have q13 := k11.c 2
 have r0 : Wa.cell? ⟨gt, 0, none⟩ = some (iv 0) := keepC hba r0
 have r1 : Wa.cell? ⟨gt, 1, none⟩ = some (iv 150) := keepC hba r1
 have hlg : g11 < gm ∧ gt < gm := by omega
 obtain ⟨hlg1, hlg2⟩ := hlg
 gi_wp2_with fail
 obtain ⟨W6, hW6⟩ := ex (Wa.alloc (.cells #[iv 0] 3))
 have hb6a : BW Wa W6 := by rw [← hW6]; exact belowA (belowR _) _
 have hb6 : BW w5 W6 := belowT hba hb6a
 have hz6 : W6.heap.size = bb := by rw [← hW6]; simp; omega
 have k11 : Blk W6 g11 119 #[.slice (some ⟨b0, o0, none⟩) 3 3, iv 200, iv 800] := k11.same (hb6a.block _ k11.lt)
 have km : Blk W6 gm 3 #[iv 0] := by rw [← hW6, ← hza]; exact Blk.new Wa 3 _
 have hbe := bends68_any (some ⟨b0, o0, none⟩) 3 3 200 800 0 150 W6
 rw [hz6, htb] at hbe
 have HBE := Lq hbe
 clear hbe
 rw [hW6]
 refine ⟨trivial, rfl, (callsIn_wide.2 HBE.out).mono ?_⟩
 rintro e w7 ⟨rfl, rfl⟩
 obtain ⟨W0, hW0⟩ := ex ((W6.alloc (.cells #[.slice (some ⟨b0, o0, none⟩) 3 3, iv 200, iv 800] 119)).alloc (.cells #[iv 0, iv 150] 36))
 have hb0 : BW W6 W0 := by rw [← hW0]; exact belowA (belowA (belowR _) _) _
 have kbb : Blk W0 bb 119 #[.slice (some ⟨b0, o0, none⟩) 3 3, iv 200, iv 800] := by rw [← hW0, ← hz6]; exact (Blk.new W6 119 _).alloc _
 have ktb : Blk W0 tb 36 #[iv 0, iv 150] := by
  rw [← hW0, ← htb, ← hz6]
  have := Blk.new (W6.alloc (.cells #[.slice (some ⟨b0, o0, none⟩) 3 3, iv 200, iv 800] 119)) 36 #[iv 0, iv 150]
  rw [World.size_alloc] at this
  exact this
 have hbw5 : BW W1 W0 := belowT (belowT X6.out hb6) hb0
 have HH0 := Lq (HH1.out.below hbw5 (by omega))
 have HBW := Lq (belowT HB1.out hbw5)
 have hF0 : BalI W0 gm 0 W0 := ⟨rfl, rfl, rfl, KeepM.refl _ _, km.same (hb0.block _ km.lt)⟩
 have K11 := Lq (k11.same (hb0.block _ k11.lt))
 have KC := Lq (HC.out _ hbw5)
 have HI0 := Lq hF0
 have HLOOP : Hid (Blk W0 tb 36 #[iv 0, iv 150] ∧ Blk W0 bb 119 #[.slice (some ⟨b0, o0, none⟩) 3 3, iv 200, iv 800]) := Lq ⟨ktb, kbb⟩
 have hz0 : tb < W0.heap.size := ktb.lt
 rw [hW0]
 have HLE : Hid (∀ (wt : Int) (V : World), KeepM (fun k => k = gm ∨ k = gm) W0 V → 0 ≤ wt → wt ≤ 1000 → Calls Tryz.prog 59 #[.agg #[.slice (some ⟨b0, o0, none⟩) 3 3, iv 200, iv 800], iv wt] V (Rt V (sumsV (leastK hull5 0 wt) (leastK hull5 1 wt) (leastK hull5 2 wt)))) := Lq fun wt V hk a b => least59_any hull5 (some ⟨b0, o0, none⟩) B 3 wt V (HH0.out.keepM hk (by omega) (by omega) (by omega)) (by have := hk.size; omega) hull5_ok a b
 have HCB : Hid (∀ V, KeepM (fun k => k = gm ∨ k = gm) W0 V → V.cell? ⟨g11, 0, none⟩ = some (.slice (some ⟨b0, o0, none⟩) 3 3) ∧ V.cell? ⟨g11, 1, none⟩ = some (iv 200) ∧ V.cell? ⟨g11, 2, none⟩ = some (iv 800)) := Lq fun V hk => ⟨hk.cell (K11.out.cell 0) (by omega), hk.cell (K11.out.cell 1) (by omega), hk.cell (K11.out.cell 2) (by omega)⟩
 have HG0 : Hid (∀ V, KeepM (fun k => k = gm ∨ k = gm) W0 V → V.cell? ⟨w.heap.size, 0, none⟩ = some (.slice (some ⟨b0, o0, none⟩) 3 3) ∧ V.cell? ⟨gp, 0, none⟩ = some (iv 1) ∧ V.cell? ⟨b0, o0 + 7, none⟩ = some (.string ⟨#[109, 105, 100]⟩) ∧ V.cell? ⟨b0, o0 + 7 + 1, none⟩ = some (iv 400) ∧ V.cell? ⟨b0, o0 + 7 + 2, none⟩ = some (iv 500) ∧ V.cell? ⟨b0, o0 + 7 + 3, none⟩ = some (iv 600) ∧ V.cell? ⟨b0, o0 + 7 + 4, none⟩ = some (iv 100) ∧ V.cell? ⟨b0, o0 + 7 + 5, none⟩ = some (iv 4) ∧ V.cell? ⟨b0, o0 + 7 + 6, none⟩ = some (iv 5)) := Lq fun V hk => by
  obtain ⟨e0, e1, e2, e3, e4, e5, e6⟩ := HE.out W0 HBW.out
  exact ⟨hk.cell (KC.out.1.cell 0) (by omega), hk.cell (KC.out.2.1.cell 0) (by omega), hk.cell e0 (by omega), hk.cell e1 (by omega), hk.cell e2 (by omega), hk.cell e3 (by omega), hk.cell e4 (by omega), hk.cell e5 (by omega), hk.cell e6 (by omega)⟩
 have hg67 : g7 < g11 := by omega
 have K67 : Hid (Blk W0 g6 3 #[iv 0] ∧ Blk W0 g7 31 #[iv 0]) := Lq ⟨KC.out.2.2.2.1, KC.out.2.2.2.2⟩
 have n10 : hull5.ps.length ≤ 10 := by simp [hull5]
 have HALL : Hid (piecesOf 0 (bendsL hull5 0 150) = [(0, 50), (50, 100), (100, 150)]) := Lq (by rw [bends150]; rfl)
 clear hW0 hb0 kbb ktb hF0 HH1 HB1 HBE p0 p1 p2 r0 r1 hbw5 K11 km k11 HC HE KC X6 hW6 hb6 hb6a hba hWa q11 q12 q13 hz6 hza hzW1
 gi_wp2_with fail
 refine rangeFunc_bends 0 (fun k => k = gm ∨ k = gm) tb bb hull5 (some ⟨b0, o0, none⟩) B 3 0 150 rfl HLOOP.out.1 HLOOP.out.2 HH0.out.ps (by omega) n10 (fun k hk => by omega)
  (fun pre W => BalI W0 gm (balM pre.length) W) (fun _ _ => False) ?_ ?_ HI0.out ?_ ?_ ?_
 ·exact fun s X Y hX hb => hX.below hb (Nat.le_refl _) (by omega)
 ·exact fun s X Y hX _ => hX.elim
 ·intro m l2 pre s W hI hpre hsz
  rw [HALL.out] at hpre
  have hcs := pieces_cases hpre
  have hgd : (0 ≤ s.1 ∧ s.1 ≤ 100 ∧ 0 ≤ s.2 ∧ s.2 ≤ 150) ∧ (1 ≤ leastK hull5 0 s.1 ∧ leastK hull5 0 s.1 ≤ 1000000 ∧ 0 ≤ leastK hull5 1 s.1 ∧ 0 ≤ leastK hull5 2 s.1) ∧ ((s.2 ≠ 150 ∧ 1 ≤ leastK hull5 0 s.2 ∧ leastK hull5 0 s.2 ≤ 1000000 ∧ 0 ≤ leastK hull5 1 s.2 ∧ 0 ≤ leastK hull5 2 s.2) ∨ s.2 = 150) ∧ balE s.2 = balM (pre ++ [s]).length ∧ balM pre.length = 0 := by
   obtain ⟨v1, v2, v3⟩ := val_least0
   obtain ⟨v4, v5, v6⟩ := val_least50
   obtain ⟨v7, v8, v9⟩ := val_least100
   rcases hcs with ⟨rfl, hl⟩ | ⟨rfl, hl⟩ | ⟨rfl, hl⟩ <;> simp [balE, balM, hl, v1, v2, v3, v4, v5, v6, v7, v8, v9]
  obtain ⟨a, b⟩ := s
  simp only at hgd
  obtain ⟨hbd, hga, hgb, hmE, hm0⟩ := hgd
  rw [hm0] at hI
  have HGA := Lq hga
  have HGBD := Lq hgb
  have HME := Lq hmE
  have HM0 := Lq hm0
  clear hga hgb hmE hm0 hcs hpre
  gi_wp2
  refine ⟨belowA (belowR _) _, ?_⟩
  intro Wb hIb hg2 hs2
  have hIb : BalI W0 gm (balM pre.length) Wb := hIb
  rw [HM0.out] at hIb
  obtain ⟨f13, hf13⟩ := ex W.heap.size
  have b13 : Blk Wb f13 36 #[iv a, iv b] := by
   rw [← hf13]
   exact (Blk.new W 36 #[iv a, iv b]).grown hg2 (fun e => by injection e with e; omega)
  have hf13' : W0.heap.size + 2 < f13 := by omega
  rw [hf13]
  obtain ⟨g66, hg66⟩ := ex Wb.heap.size
  obtain ⟨W2, hW2⟩ := ex (Wb.alloc (.cells #[iv a, iv b] 3))
  have hb2 : BW Wb W2 := by rw [← hW2]; exact belowA (belowR _) _
  have k66 : Blk W2 g66 3 #[iv a, iv b] := by rw [← hW2, ← hg66]; exact Blk.new Wb 3 _
  have hzb := hIb.keep.size
  have hF2 := hIb.below hb2 hzb (by omega)
  have HK2 := Lq hF2.keep
  have HF2 := Lq hF2
  have hzk : g66 < W2.heap.size := k66.lt
  have hlt13 := b13.lt
  have hgw66 : W0.heap.size ≤ g66 := by omega
  have H66 : Hid (∀ V, KeepM (fun k => k = gm ∨ k = gm) W2 V → V.cell? ⟨g66, 0, none⟩ = some (iv a) ∧ V.cell? ⟨g66, 1, none⟩ = some (iv b)) := Lq fun V hk => ⟨hk.cell (k66.cell 0) (by omega), hk.cell (k66.cell 1) (by omega)⟩
  have y0 := b13.c 0
  have y1 := b13.c 1
  have HKa : Hid (KeepM (fun k => k = gm ∨ k = gm) Wb W2) := Lq (KeepM.of_below hb2)
  clear hI hg2 hs2 hIb b13 hf13 hsz hb2 k66 hF2
  gi_wp2_with fail
  clear hW2 y0 y1 hg66
  gi_loopw [68] (fun vj wr => (vj = iv 0 ∧ Hid (BalI W0 gm 0 wr) ∧ Hid (KeepM (fun k => k = gm ∨ k = gm) W2 wr)) ∨ (vj = iv 1 ∧ Hid (BalI W0 gm 0 wr) ∧ Hid (KeepM (fun k => k = gm ∨ k = gm) W2 wr)) ∨ (vj = iv 2 ∧ Hid (BalI W0 gm (balE b) wr) ∧ Hid (KeepM (fun k => k = gm ∨ k = gm) W2 wr))) (fun vj _ => 2 - (intOf vj).toNat)
  case atStart => exact .inl ⟨rfl, HF2, Lq (KeepM.refl _ _)⟩
  case round =>
   clear HF2
   rcases hrel with ⟨rfl, HF, HKW⟩ | ⟨rfl, HF, HKW⟩ | ⟨rfl, HF, HKW⟩
   ·skip
    obtain ⟨S0, hS0⟩ := ex (leastK hull5 0 a)
    obtain ⟨S1, hS1⟩ := ex (leastK hull5 1 a)
    obtain ⟨S2, hS2⟩ := ex (leastK hull5 2 a)
    have hgg := HGA.out
    rw [hS0, hS1, hS2] at hgg
    have HS0 : Hid (leastK hull5 0 a = S0 ∧ leastK hull5 1 a = S1 ∧ leastK hull5 2 a = S2) := Lq ⟨hS0, hS1, hS2⟩
    clear hS0 hS1 hS2
    have hF := HF.out
    obtain ⟨y0, y1⟩ := H66.out _ HKW.out
    obtain ⟨c0, c1, c2⟩ := HCB.out _ (HK2.out.trans HKW.out)
    gi_wp2_with fail
    refine ⟨trivial, hdd _, (CallsIn.inRound l2 (callsIn_wide.2 (HLE.out a wr (HK2.out.trans HKW.out) (by omega) (by omega)))).mono ?_⟩
    rintro e x1 ⟨rfl, hb1⟩
    rw [HS0.out.1, HS0.out.2.1, HS0.out.2.2]
    obtain ⟨gs, hgs⟩ := ex x1.heap.size
    obtain ⟨x2, hx2⟩ := ex (x1.alloc (.cells #[iv S0, iv S1, iv S2] 123))
    have hb2 : BW x1 x2 := by rw [← hx2]; exact belowA (belowR _) _
    have ks : Blk x2 gs 123 #[iv S0, iv S1, iv S2] := by rw [← hx2, ← hgs]; exact Blk.new x1 123 _
    obtain ⟨x3, hx3⟩ := ex (x2.setCell ⟨gs, 0, none⟩ (iv (S0 - 1)))
    have ks3 : Blk x3 gs 123 #[iv (S0 - 1), iv S1, iv S2] := by rw [← hx3]; exact ks.set_ 0 _
    have hgsw : wr.heap.size ≤ gs := by have := hb1.size; omega
    have X3 : Hid (BW wr x3) := Lq (by rw [← hx3]; exact belowS (belowT hb1 hb2) hgsw _)
    have z0 := ks.c 0
    have zf := ks.frozen 0
    have zl := ks.lt
    have KS3 := Lq ks3
    have hsw : IntKind.i64.wrap (S0 - 1) = S0 - 1 := by rw [IntKind.wrap_i64]; omega
    obtain ⟨c3, c4, c5⟩ := HCB.out _ ((HK2.out.trans HKW.out).trans (KeepM.of_below X3.out))
    clear hb1 hb2 ks ks3 y0 y1 c0 c1 c2 hF
    gi_wp2_with fail
    clear hx3 z0 zf zl hx2 hgs hsw
    obtain ⟨gb, hgb⟩ := ex x3.heap.size
    have hlv := levers66_any (some ⟨b0, o0, none⟩) 3 3 200 800 x3
    rw [hgb] at hlv
    refine ⟨trivial, hdd _, (CallsIn.inRound l2 (callsIn_wide.2 hlv)).mono ?_⟩
    clear hlv
    rintro e XX ⟨rfl, hbl, gb1, gb2, hgbX⟩
    have XW := Lq (belowT X3.out hbl)
    have HKX := Lq (HKW.out.trans (KeepM.of_below XW.out) : KeepM (fun k => k = gm ∨ k = gm) W2 XX)
    have HGB : Hid (∀ V, BW XX V → V.cell? ⟨gb, 1, none⟩ = some (iv 200) ∧ V.cell? ⟨gb, 2, none⟩ = some (iv 800)) := Lq fun V hb => ⟨keepC hb gb1, keepC hb gb2⟩
    have HGS : Hid (∀ V, BW XX V → Blk V gs 123 #[iv (S0 - 1), iv S1, iv S2]) := Lq fun V hb => KS3.out.same ((hb.block _ (Nat.lt_of_lt_of_le KS3.out.lt hbl.size)).trans (hbl.block _ KS3.out.lt))
    have hF := HF.out.below XW.out (by have := (HK2.out.trans HKW.out).size; omega) (by have := HF.out.bm.lt; omega)
    have HFX := Lq hF
    have HGM : Hid (∀ V, BW XX V → Blk V gm 3 #[iv 0]) := Lq fun V hb => HFX.out.bm.same (hb.block _ HFX.out.bm.lt)
    have HGP : Hid (∀ V, BW XX V → V.cell? ⟨w.heap.size, 0, none⟩ = some (.slice (some ⟨b0, o0, none⟩) 3 3) ∧ V.cell? ⟨gp, 0, none⟩ = some (iv 1) ∧ V.cell? ⟨b0, o0 + 7, none⟩ = some (.string ⟨#[109, 105, 100]⟩) ∧ V.cell? ⟨b0, o0 + 7 + 1, none⟩ = some (iv 400) ∧ V.cell? ⟨b0, o0 + 7 + 2, none⟩ = some (iv 500) ∧ V.cell? ⟨b0, o0 + 7 + 3, none⟩ = some (iv 600) ∧ V.cell? ⟨b0, o0 + 7 + 4, none⟩ = some (iv 100) ∧ V.cell? ⟨b0, o0 + 7 + 5, none⟩ = some (iv 4) ∧ V.cell? ⟨b0, o0 + 7 + 6, none⟩ = some (iv 5)) := Lq fun V hb => HG0.out V ((HK2.out.trans HKX.out).trans (KeepM.of_below hb))
    have hzX := hbl.size
    clear hbl gb1 gb2 hF c3 c4 c5 hgb
    gi_wp2_with fail
    gi_loopw [81] (fun vi wr => (vi = iv 0 ∧ Hid (BW XX wr)) ∨ (vi = iv 1 ∧ Hid (BW XX wr)) ∨ (vi = iv 2 ∧ Hid (BW XX wr)) ∨ (vi = iv 3 ∧ Hid (OnlyAt XX wr gm) ∧ Hid (Blk wr gm 3 #[iv 0]))) (fun vi _ => 3 - (intOf vi).toNat)
    case atStart => exact .inl ⟨rfl, Lq (belowR _)⟩
    case round =>
    have q0 := fun W => (idx138 gb W).1
    have q1 := fun W => (idx138 gb W).2.1
    have q2 := fun W => (idx138 gb W).2.2
    have hge0 : decide (0 ≤ S0 - 1) = true := decide_eq_true (by omega)
    have hge1 : decide (0 ≤ S1) = true := decide_eq_true (by omega)
    have hge2 : decide (0 ≤ S2) = true := decide_eq_true (by omega)
    clear HF
    rcases hrel with ⟨rfl, HBX⟩ | ⟨rfl, HBX⟩ | ⟨rfl, HBX⟩ | ⟨rfl, HOX, HMX⟩
    ·obtain ⟨g18, hg18⟩ := ex wr.heap.size
     obtain ⟨W8, hW8⟩ := ex (wr.alloc (.cells #[.func (.func 102) #[] #[], .func (.func 105) #[] #[], .func (.func 106) #[] #[]] 137))
     have hb8 : BW wr W8 := by rw [← hW8]; exact belowA (belowR _) _
     have k18 : Blk W8 g18 137 #[.func (.func 102) #[] #[], .func (.func 105) #[] #[], .func (.func 106) #[] #[]] := by rw [← hW8, ← hg18]; exact Blk.new wr 137 _
     have X8 := Lq (belowT HBX.out hb8)
     have HS8 : Hid (∀ V, BW W8 V → V.cell? ⟨g18, 0, none⟩ = some (.func (.func 102) #[] #[])) := Lq fun V hb => (k18.same (hb.block _ k18.lt)).cell 0
     have hA : ∀ V, BW W8 V → Calls Tryz.prog 102 #[.agg #[.string ⟨#[109, 105, 100]⟩, iv 400, iv 500, iv 600, iv 100, iv 4, iv 5]] V (Rt V (iv 1)) := fun V hb8 => ((fun V _ => arm102_any pMid V) : ∀ V, BW XX V → _) V (belowT X8.out hb8)
     have HA := Lq hA
     clear hb8 k18 hA
     gi_wp2_with fail
     refine reg28_23_0 HA.out (fun W hb => ⟨HS8.out W hb, (HGP.out W (belowT X8.out hb)).1, (HGP.out W (belowT X8.out hb)).2.1, (HGP.out W (belowT X8.out hb)).2.2⟩) ?_
     intro u200 u201 u202 u203 u204 u205 u206 u207 x8 hbx8
     have X9 := Lq (belowT X8.out hbx8)
     have n0 := (HGS.out _ X9.out).c 0
     have n1 := (HGS.out _ X9.out).lt
     clear hW8 hg18 hbx8 HA
     gi_wp2_with fail
     go_roundw
     case rel => exact .inr (.inl ⟨rfl, X9⟩)
     case measure => simp [intOf]
    ·obtain ⟨g18, hg18⟩ := ex wr.heap.size
     obtain ⟨W8, hW8⟩ := ex (wr.alloc (.cells #[.func (.func 103) #[] #[pT gb 0], .func (.func 105) #[] #[], .func (.func 106) #[] #[]] 137))
     have hb8 : BW wr W8 := by rw [← hW8]; exact belowA (belowR _) _
     have k18 : Blk W8 g18 137 #[.func (.func 103) #[] #[pT gb 0], .func (.func 105) #[] #[], .func (.func 106) #[] #[]] := by rw [← hW8, ← hg18]; exact Blk.new wr 137 _
     have X8 := Lq (belowT HBX.out hb8)
     have HS8 : Hid (∀ V, BW W8 V → V.cell? ⟨g18, 0, none⟩ = some (.func (.func 103) #[] #[pT gb 0])) := Lq fun V hb => (k18.same (hb.block _ k18.lt)).cell 0
     have hA : ∀ V, BW W8 V → Calls Tryz.prog 103 #[.agg #[.string ⟨#[109, 105, 100]⟩, iv 400, iv 500, iv 600, iv 100, iv 4, iv 5], pT gb 0] V (Rt V (iv 200)) := fun V hb8 => ((fun V hb => arm103_any pMid gb 200 V (HGB.out V hb).1 (by simp [pMid]) (by omega)) : ∀ V, BW XX V → _) V (belowT X8.out hb8)
     have HA := Lq hA
     clear hb8 k18 hA
     gi_wp2_with fail
     refine reg28_23_1 HA.out (fun W hb => ⟨HS8.out W hb, (HGP.out W (belowT X8.out hb)).1, (HGP.out W (belowT X8.out hb)).2.1, (HGP.out W (belowT X8.out hb)).2.2⟩) ?_
     intro u200 u201 u202 u203 u204 u205 u206 u207 x8 hbx8
     have X9 := Lq (belowT X8.out hbx8)
     have n0 := (HGS.out _ X9.out).c 1
     have n1 := (HGS.out _ X9.out).lt
     clear hW8 hg18 hbx8 HA
     gi_wp2_with fail
     go_roundw
     case rel => exact .inr (.inr (.inl ⟨rfl, X9⟩))
     case measure => simp [intOf]
    ·obtain ⟨g18, hg18⟩ := ex wr.heap.size
     obtain ⟨W8, hW8⟩ := ex (wr.alloc (.cells #[.func (.func 104) #[] #[pT gb 0], .func (.func 105) #[] #[], .func (.func 106) #[] #[]] 137))
     have hb8 : BW wr W8 := by rw [← hW8]; exact belowA (belowR _) _
     have k18 : Blk W8 g18 137 #[.func (.func 104) #[] #[pT gb 0], .func (.func 105) #[] #[], .func (.func 106) #[] #[]] := by rw [← hW8, ← hg18]; exact Blk.new wr 137 _
     have X8 := Lq (belowT HBX.out hb8)
     have HS8 : Hid (∀ V, BW W8 V → V.cell? ⟨g18, 0, none⟩ = some (.func (.func 104) #[] #[pT gb 0])) := Lq fun V hb => (k18.same (hb.block _ k18.lt)).cell 0
     have hA : ∀ V, BW W8 V → Calls Tryz.prog 104 #[.agg #[.string ⟨#[109, 105, 100]⟩, iv 400, iv 500, iv 600, iv 100, iv 4, iv 5], pT gb 0] V (Rt V (iv 400)) := fun V hb8 => ((fun V hb => arm104_any pMid gb 800 V (HGB.out V hb).2 (by simp [pMid]) (by omega)) : ∀ V, BW XX V → _) V (belowT X8.out hb8)
     have HA := Lq hA
     clear hb8 k18 hA
     gi_wp2_with fail
     refine reg28_23_2 HA.out (fun W hb => ⟨HS8.out W hb, (HGP.out W (belowT X8.out hb)).1, (HGP.out W (belowT X8.out hb)).2.1, (HGP.out W (belowT X8.out hb)).2.2⟩) ?_
     intro u200 u201 u202 u203 u204 u205 u206 u207 x8 hbx8
     have X9 := Lq (belowT X8.out hbx8)
     have n0 := (HGS.out _ X9.out).c 2
     have n1 := (HGS.out _ X9.out).lt
     clear hW8 hg18 hbx8 HA
     gi_wp2_with fail
     go_roundw
     case rel => exact .inr (.inr (.inr ⟨rfl, Lq (OnlyAt.of_below X9.out _), Lq (HGM.out _ X9.out)⟩))
     case measure => simp [intOf]
    ·have HKY : Hid (KeepM (fun k => k = gm ∨ k = gm) W2 wr) := Lq (HKX.out.trans (KeepM.of_only HOX.out (.inl rfl)))
     have HFY : Hid (BalI W0 gm 0 wr) := Lq ⟨HOX.out.os.trans HFX.out.os, HOX.out.tape.trans HFX.out.tape, HOX.out.output.trans HFX.out.output, HFX.out.keep.trans (KeepM.of_only HOX.out (.inl rfl)), HMX.out⟩
     gi_wp2_with fail
     go_roundw
     case rel => exact .inr (.inl ⟨rfl, HFY, HKY⟩)
     case measure => simp [intOf]
   ·rcases HGBD.out with hgb | hgb
    ·obtain ⟨HNB, hgb⟩ := hgb
     obtain ⟨S0, hS0⟩ := ex (leastK hull5 0 b)
     obtain ⟨S1, hS1⟩ := ex (leastK hull5 1 b)
     obtain ⟨S2, hS2⟩ := ex (leastK hull5 2 b)
     have hgg := hgb
     rw [hS0, hS1, hS2] at hgg
     have HS1 : Hid (leastK hull5 0 b = S0 ∧ leastK hull5 1 b = S1 ∧ leastK hull5 2 b = S2) := Lq ⟨hS0, hS1, hS2⟩
     clear hS0 hS1 hS2 hgb
     have hF := HF.out
     obtain ⟨y0, y1⟩ := H66.out _ HKW.out
     obtain ⟨c0, c1, c2⟩ := HCB.out _ (HK2.out.trans HKW.out)
     gi_wp2_with fail
     refine ⟨trivial, hdd _, (CallsIn.inRound l2 (callsIn_wide.2 (HLE.out b wr (HK2.out.trans HKW.out) (by omega) (by omega)))).mono ?_⟩
     rintro e x1 ⟨rfl, hb1⟩
     rw [HS1.out.1, HS1.out.2.1, HS1.out.2.2]
     obtain ⟨gs, hgs⟩ := ex x1.heap.size
     obtain ⟨x2, hx2⟩ := ex (x1.alloc (.cells #[iv S0, iv S1, iv S2] 123))
     have hb2 : BW x1 x2 := by rw [← hx2]; exact belowA (belowR _) _
     have ks : Blk x2 gs 123 #[iv S0, iv S1, iv S2] := by rw [← hx2, ← hgs]; exact Blk.new x1 123 _
     obtain ⟨x3, hx3⟩ := ex (x2.setCell ⟨gs, 0, none⟩ (iv (S0 - 1)))
     have ks3 : Blk x3 gs 123 #[iv (S0 - 1), iv S1, iv S2] := by rw [← hx3]; exact ks.set_ 0 _
     have hgsw : wr.heap.size ≤ gs := by have := hb1.size; omega
     have X3 : Hid (BW wr x3) := Lq (by rw [← hx3]; exact belowS (belowT hb1 hb2) hgsw _)
     have z0 := ks.c 0
     have zf := ks.frozen 0
     have zl := ks.lt
     have KS3 := Lq ks3
     have hsw : IntKind.i64.wrap (S0 - 1) = S0 - 1 := by rw [IntKind.wrap_i64]; omega
     obtain ⟨c3, c4, c5⟩ := HCB.out _ ((HK2.out.trans HKW.out).trans (KeepM.of_below X3.out))
     clear hb1 hb2 ks ks3 y0 y1 c0 c1 c2 hF
     gi_wp2_with fail
     clear hx3 z0 zf zl hx2 hgs hsw
     obtain ⟨gb, hgb⟩ := ex x3.heap.size
     have hlv := levers66_any (some ⟨b0, o0, none⟩) 3 3 200 800 x3
     rw [hgb] at hlv
     refine ⟨trivial, hdd _, (CallsIn.inRound l2 (callsIn_wide.2 hlv)).mono ?_⟩
     clear hlv
     rintro e XX ⟨rfl, hbl, gb1, gb2, hgbX⟩
     have XW := Lq (belowT X3.out hbl)
     have HKX := Lq (HKW.out.trans (KeepM.of_below XW.out) : KeepM (fun k => k = gm ∨ k = gm) W2 XX)
     have HGB : Hid (∀ V, BW XX V → V.cell? ⟨gb, 1, none⟩ = some (iv 200) ∧ V.cell? ⟨gb, 2, none⟩ = some (iv 800)) := Lq fun V hb => ⟨keepC hb gb1, keepC hb gb2⟩
     have HGS : Hid (∀ V, BW XX V → Blk V gs 123 #[iv (S0 - 1), iv S1, iv S2]) := Lq fun V hb => KS3.out.same ((hb.block _ (Nat.lt_of_lt_of_le KS3.out.lt hbl.size)).trans (hbl.block _ KS3.out.lt))
     have hF := HF.out.below XW.out (by have := (HK2.out.trans HKW.out).size; omega) (by have := HF.out.bm.lt; omega)
     have HFX := Lq hF
     have HGM : Hid (∀ V, BW XX V → Blk V gm 3 #[iv 0]) := Lq fun V hb => HFX.out.bm.same (hb.block _ HFX.out.bm.lt)
     have HGP : Hid (∀ V, BW XX V → V.cell? ⟨w.heap.size, 0, none⟩ = some (.slice (some ⟨b0, o0, none⟩) 3 3) ∧ V.cell? ⟨gp, 0, none⟩ = some (iv 1) ∧ V.cell? ⟨b0, o0 + 7, none⟩ = some (.string ⟨#[109, 105, 100]⟩) ∧ V.cell? ⟨b0, o0 + 7 + 1, none⟩ = some (iv 400) ∧ V.cell? ⟨b0, o0 + 7 + 2, none⟩ = some (iv 500) ∧ V.cell? ⟨b0, o0 + 7 + 3, none⟩ = some (iv 600) ∧ V.cell? ⟨b0, o0 + 7 + 4, none⟩ = some (iv 100) ∧ V.cell? ⟨b0, o0 + 7 + 5, none⟩ = some (iv 4) ∧ V.cell? ⟨b0, o0 + 7 + 6, none⟩ = some (iv 5)) := Lq fun V hb => HG0.out V ((HK2.out.trans HKX.out).trans (KeepM.of_below hb))
     have hzX := hbl.size
     clear hbl gb1 gb2 hF c3 c4 c5 hgb
     gi_wp2_with fail
     gi_loopw [81] (fun vi wr => (vi = iv 0 ∧ Hid (BW XX wr)) ∨ (vi = iv 1 ∧ Hid (BW XX wr)) ∨ (vi = iv 2 ∧ Hid (BW XX wr)) ∨ (vi = iv 3 ∧ Hid (OnlyAt XX wr gm) ∧ Hid (Blk wr gm 3 #[iv 0]))) (fun vi _ => 3 - (intOf vi).toNat)
     case atStart => exact .inl ⟨rfl, Lq (belowR _)⟩
     case round =>
     have q0 := fun W => (idx138 gb W).1
     have q1 := fun W => (idx138 gb W).2.1
     have q2 := fun W => (idx138 gb W).2.2
     have hge0 : decide (0 ≤ S0 - 1) = true := decide_eq_true (by omega)
     have hge1 : decide (0 ≤ S1) = true := decide_eq_true (by omega)
     have hge2 : decide (0 ≤ S2) = true := decide_eq_true (by omega)
     clear HF
     rcases hrel with ⟨rfl, HBX⟩ | ⟨rfl, HBX⟩ | ⟨rfl, HBX⟩ | ⟨rfl, HOX, HMX⟩
     ·obtain ⟨g18, hg18⟩ := ex wr.heap.size
      obtain ⟨W8, hW8⟩ := ex (wr.alloc (.cells #[.func (.func 102) #[] #[], .func (.func 105) #[] #[], .func (.func 106) #[] #[]] 137))
      have hb8 : BW wr W8 := by rw [← hW8]; exact belowA (belowR _) _
      have k18 : Blk W8 g18 137 #[.func (.func 102) #[] #[], .func (.func 105) #[] #[], .func (.func 106) #[] #[]] := by rw [← hW8, ← hg18]; exact Blk.new wr 137 _
      have X8 := Lq (belowT HBX.out hb8)
      have HS8 : Hid (∀ V, BW W8 V → V.cell? ⟨g18, 0, none⟩ = some (.func (.func 102) #[] #[])) := Lq fun V hb => (k18.same (hb.block _ k18.lt)).cell 0
      have hA : ∀ V, BW W8 V → Calls Tryz.prog 102 #[.agg #[.string ⟨#[109, 105, 100]⟩, iv 400, iv 500, iv 600, iv 100, iv 4, iv 5]] V (Rt V (iv 1)) := fun V hb8 => ((fun V _ => arm102_any pMid V) : ∀ V, BW XX V → _) V (belowT X8.out hb8)
      have HA := Lq hA
      clear hb8 k18 hA
      gi_wp2_with fail
      refine reg28_23_0 HA.out (fun W hb => ⟨HS8.out W hb, (HGP.out W (belowT X8.out hb)).1, (HGP.out W (belowT X8.out hb)).2.1, (HGP.out W (belowT X8.out hb)).2.2⟩) ?_
      intro u200 u201 u202 u203 u204 u205 u206 u207 x8 hbx8
      have X9 := Lq (belowT X8.out hbx8)
      have n0 := (HGS.out _ X9.out).c 0
      have n1 := (HGS.out _ X9.out).lt
      clear hW8 hg18 hbx8 HA
      gi_wp2_with fail
      go_roundw
      case rel => exact .inr (.inl ⟨rfl, X9⟩)
      case measure => simp [intOf]
     ·obtain ⟨g18, hg18⟩ := ex wr.heap.size
      obtain ⟨W8, hW8⟩ := ex (wr.alloc (.cells #[.func (.func 103) #[] #[pT gb 0], .func (.func 105) #[] #[], .func (.func 106) #[] #[]] 137))
      have hb8 : BW wr W8 := by rw [← hW8]; exact belowA (belowR _) _
      have k18 : Blk W8 g18 137 #[.func (.func 103) #[] #[pT gb 0], .func (.func 105) #[] #[], .func (.func 106) #[] #[]] := by rw [← hW8, ← hg18]; exact Blk.new wr 137 _
      have X8 := Lq (belowT HBX.out hb8)
      have HS8 : Hid (∀ V, BW W8 V → V.cell? ⟨g18, 0, none⟩ = some (.func (.func 103) #[] #[pT gb 0])) := Lq fun V hb => (k18.same (hb.block _ k18.lt)).cell 0
      have hA : ∀ V, BW W8 V → Calls Tryz.prog 103 #[.agg #[.string ⟨#[109, 105, 100]⟩, iv 400, iv 500, iv 600, iv 100, iv 4, iv 5], pT gb 0] V (Rt V (iv 200)) := fun V hb8 => ((fun V hb => arm103_any pMid gb 200 V (HGB.out V hb).1 (by simp [pMid]) (by omega)) : ∀ V, BW XX V → _) V (belowT X8.out hb8)
      have HA := Lq hA
      clear hb8 k18 hA
      gi_wp2_with fail
      refine reg28_23_1 HA.out (fun W hb => ⟨HS8.out W hb, (HGP.out W (belowT X8.out hb)).1, (HGP.out W (belowT X8.out hb)).2.1, (HGP.out W (belowT X8.out hb)).2.2⟩) ?_
      intro u200 u201 u202 u203 u204 u205 u206 u207 x8 hbx8
      have X9 := Lq (belowT X8.out hbx8)
      have n0 := (HGS.out _ X9.out).c 1
      have n1 := (HGS.out _ X9.out).lt
      clear hW8 hg18 hbx8 HA
      gi_wp2_with fail
      go_roundw
      case rel => exact .inr (.inr (.inl ⟨rfl, X9⟩))
      case measure => simp [intOf]
     ·obtain ⟨g18, hg18⟩ := ex wr.heap.size
      obtain ⟨W8, hW8⟩ := ex (wr.alloc (.cells #[.func (.func 104) #[] #[pT gb 0], .func (.func 105) #[] #[], .func (.func 106) #[] #[]] 137))
      have hb8 : BW wr W8 := by rw [← hW8]; exact belowA (belowR _) _
      have k18 : Blk W8 g18 137 #[.func (.func 104) #[] #[pT gb 0], .func (.func 105) #[] #[], .func (.func 106) #[] #[]] := by rw [← hW8, ← hg18]; exact Blk.new wr 137 _
      have X8 := Lq (belowT HBX.out hb8)
      have HS8 : Hid (∀ V, BW W8 V → V.cell? ⟨g18, 0, none⟩ = some (.func (.func 104) #[] #[pT gb 0])) := Lq fun V hb => (k18.same (hb.block _ k18.lt)).cell 0
      have hA : ∀ V, BW W8 V → Calls Tryz.prog 104 #[.agg #[.string ⟨#[109, 105, 100]⟩, iv 400, iv 500, iv 600, iv 100, iv 4, iv 5], pT gb 0] V (Rt V (iv 400)) := fun V hb8 => ((fun V hb => arm104_any pMid gb 800 V (HGB.out V hb).2 (by simp [pMid]) (by omega)) : ∀ V, BW XX V → _) V (belowT X8.out hb8)
      have HA := Lq hA
      clear hb8 k18 hA
      gi_wp2_with fail
      refine reg28_23_2 HA.out (fun W hb => ⟨HS8.out W hb, (HGP.out W (belowT X8.out hb)).1, (HGP.out W (belowT X8.out hb)).2.1, (HGP.out W (belowT X8.out hb)).2.2⟩) ?_
      intro u200 u201 u202 u203 u204 u205 u206 u207 x8 hbx8
      have X9 := Lq (belowT X8.out hbx8)
      have n0 := (HGS.out _ X9.out).c 2
      have n1 := (HGS.out _ X9.out).lt
      clear hW8 hg18 hbx8 HA
      gi_wp2_with fail
      go_roundw
      case rel => exact .inr (.inr (.inr ⟨rfl, Lq (OnlyAt.of_below X9.out _), Lq (HGM.out _ X9.out)⟩))
      case measure => simp [intOf]
     ·have HKY : Hid (KeepM (fun k => k = gm ∨ k = gm) W2 wr) := Lq (HKX.out.trans (KeepM.of_only HOX.out (.inl rfl)))
      have HFY : Hid (BalI W0 gm 0 wr) := Lq ⟨HOX.out.os.trans HFX.out.os, HOX.out.tape.trans HFX.out.tape, HOX.out.output.trans HFX.out.output, HFX.out.keep.trans (KeepM.of_only HOX.out (.inl rfl)), HMX.out⟩
      gi_wp2_with fail
      go_roundw
      case rel => exact .inr (.inr ⟨rfl, by unfold balE; rw [if_neg HNB]; exact HFY, HKY⟩)
      case measure => simp [intOf]
    ·subst hgb
     obtain ⟨S0, hS0⟩ := ex (leastK hull5 0 150)
     obtain ⟨S1, hS1⟩ := ex (leastK hull5 1 150)
     have hgg : 1 ≤ S0 ∧ S0 ≤ 1000000 ∧ 0 ≤ S1 := by rw [← hS0, ← hS1, val_least150.1, val_least150.2.1]; omega
     have HS1 : Hid (leastK hull5 0 150 = S0 ∧ leastK hull5 1 150 = S1 ∧ leastK hull5 2 150 = -140000) := Lq ⟨hS0, hS1, val_least150.2.2⟩
     clear hS0 hS1
     have hF := HF.out
     obtain ⟨y0, y1⟩ := H66.out _ HKW.out
     obtain ⟨c0, c1, c2⟩ := HCB.out _ (HK2.out.trans HKW.out)
     gi_wp2_with fail
     refine ⟨trivial, hdd _, (CallsIn.inRound l2 (callsIn_wide.2 (HLE.out 150 wr (HK2.out.trans HKW.out) (by omega) (by omega)))).mono ?_⟩
     rintro e x1 ⟨rfl, hb1⟩
     rw [HS1.out.1, HS1.out.2.1, HS1.out.2.2]
     obtain ⟨gs, hgs⟩ := ex x1.heap.size
     obtain ⟨x2, hx2⟩ := ex (x1.alloc (.cells #[iv S0, iv S1, iv (-140000)] 123))
     have hb2 : BW x1 x2 := by rw [← hx2]; exact belowA (belowR _) _
     have ks : Blk x2 gs 123 #[iv S0, iv S1, iv (-140000)] := by rw [← hx2, ← hgs]; exact Blk.new x1 123 _
     obtain ⟨x3, hx3⟩ := ex (x2.setCell ⟨gs, 0, none⟩ (iv (S0 - 1)))
     have ks3 : Blk x3 gs 123 #[iv (S0 - 1), iv S1, iv (-140000)] := by rw [← hx3]; exact ks.set_ 0 _
     have hgsw : wr.heap.size ≤ gs := by have := hb1.size; omega
     have X3 : Hid (BW wr x3) := Lq (by rw [← hx3]; exact belowS (belowT hb1 hb2) hgsw _)
     have z0 := ks.c 0
     have zf := ks.frozen 0
     have zl := ks.lt
     have KS3 := Lq ks3
     have hsw : IntKind.i64.wrap (S0 - 1) = S0 - 1 := by rw [IntKind.wrap_i64]; omega
     obtain ⟨c3, c4, c5⟩ := HCB.out _ ((HK2.out.trans HKW.out).trans (KeepM.of_below X3.out))
     clear hb1 hb2 ks ks3 y0 y1 c0 c1 c2 hF
     gi_wp2_with fail
     clear hx3 z0 zf zl hx2 hgs hsw
     obtain ⟨gb, hgb⟩ := ex x3.heap.size
     have hlv := levers66_any (some ⟨b0, o0, none⟩) 3 3 200 800 x3
     rw [hgb] at hlv
     refine ⟨trivial, hdd _, (CallsIn.inRound l2 (callsIn_wide.2 hlv)).mono ?_⟩
     clear hlv
     rintro e XX ⟨rfl, hbl, gb1, gb2, hgbX⟩
     have XW := Lq (belowT X3.out hbl)
     have HKX := Lq (HKW.out.trans (KeepM.of_below XW.out) : KeepM (fun k => k = gm ∨ k = gm) W2 XX)
     have HGB : Hid (∀ V, BW XX V → V.cell? ⟨gb, 1, none⟩ = some (iv 200) ∧ V.cell? ⟨gb, 2, none⟩ = some (iv 800)) := Lq fun V hb => ⟨keepC hb gb1, keepC hb gb2⟩
     have HGS : Hid (∀ V, BW XX V → Blk V gs 123 #[iv (S0 - 1), iv S1, iv (-140000)]) := Lq fun V hb => KS3.out.same ((hb.block _ (Nat.lt_of_lt_of_le KS3.out.lt hbl.size)).trans (hbl.block _ KS3.out.lt))
     have hF := HF.out.below XW.out (by have := (HK2.out.trans HKW.out).size; omega) (by have := HF.out.bm.lt; omega)
     have HFX := Lq hF
     have HGM : Hid (∀ V, BW XX V → Blk V gm 3 #[iv 0]) := Lq fun V hb => HFX.out.bm.same (hb.block _ HFX.out.bm.lt)
     have HGP : Hid (∀ V, BW XX V → V.cell? ⟨w.heap.size, 0, none⟩ = some (.slice (some ⟨b0, o0, none⟩) 3 3) ∧ V.cell? ⟨gp, 0, none⟩ = some (iv 1) ∧ V.cell? ⟨b0, o0 + 7, none⟩ = some (.string ⟨#[109, 105, 100]⟩) ∧ V.cell? ⟨b0, o0 + 7 + 1, none⟩ = some (iv 400) ∧ V.cell? ⟨b0, o0 + 7 + 2, none⟩ = some (iv 500) ∧ V.cell? ⟨b0, o0 + 7 + 3, none⟩ = some (iv 600) ∧ V.cell? ⟨b0, o0 + 7 + 4, none⟩ = some (iv 100) ∧ V.cell? ⟨b0, o0 + 7 + 5, none⟩ = some (iv 4) ∧ V.cell? ⟨b0, o0 + 7 + 6, none⟩ = some (iv 5)) := Lq fun V hb => HG0.out V ((HK2.out.trans HKX.out).trans (KeepM.of_below hb))
     have hzX := hbl.size
     clear hbl gb1 gb2 hF c3 c4 c5 hgb
     gi_wp2_with fail
     gi_loopw [81] (fun vi wr => (vi = iv 0 ∧ Hid (BW XX wr)) ∨ (vi = iv 1 ∧ Hid (BW XX wr)) ∨ (vi = iv 2 ∧ Hid (BW XX wr)) ∨ (vi = iv 3 ∧ Hid (OnlyAt XX wr gm) ∧ Hid (Blk wr gm 3 #[iv 350]))) (fun vi _ => 3 - (intOf vi).toNat)
     case atStart => exact .inl ⟨rfl, Lq (belowR _)⟩
     case round =>
     have q0 := fun W => (idx138 gb W).1
     have q1 := fun W => (idx138 gb W).2.1
     have q2 := fun W => (idx138 gb W).2.2
     have hge0 : decide (0 ≤ S0 - 1) = true := decide_eq_true (by omega)
     have hge1 : decide (0 ≤ S1) = true := decide_eq_true (by omega)
     skip
     clear HF
     rcases hrel with ⟨rfl, HBX⟩ | ⟨rfl, HBX⟩ | ⟨rfl, HBX⟩ | ⟨rfl, HOX, HMX⟩
     ·obtain ⟨g18, hg18⟩ := ex wr.heap.size
      obtain ⟨W8, hW8⟩ := ex (wr.alloc (.cells #[.func (.func 102) #[] #[], .func (.func 105) #[] #[], .func (.func 106) #[] #[]] 137))
      have hb8 : BW wr W8 := by rw [← hW8]; exact belowA (belowR _) _
      have k18 : Blk W8 g18 137 #[.func (.func 102) #[] #[], .func (.func 105) #[] #[], .func (.func 106) #[] #[]] := by rw [← hW8, ← hg18]; exact Blk.new wr 137 _
      have X8 := Lq (belowT HBX.out hb8)
      have HS8 : Hid (∀ V, BW W8 V → V.cell? ⟨g18, 0, none⟩ = some (.func (.func 102) #[] #[])) := Lq fun V hb => (k18.same (hb.block _ k18.lt)).cell 0
      have hA : ∀ V, BW W8 V → Calls Tryz.prog 102 #[.agg #[.string ⟨#[109, 105, 100]⟩, iv 400, iv 500, iv 600, iv 100, iv 4, iv 5]] V (Rt V (iv 1)) := fun V hb8 => ((fun V _ => arm102_any pMid V) : ∀ V, BW XX V → _) V (belowT X8.out hb8)
      have HA := Lq hA
      clear hb8 k18 hA
      gi_wp2_with fail
      refine reg28_23_0 HA.out (fun W hb => ⟨HS8.out W hb, (HGP.out W (belowT X8.out hb)).1, (HGP.out W (belowT X8.out hb)).2.1, (HGP.out W (belowT X8.out hb)).2.2⟩) ?_
      intro u200 u201 u202 u203 u204 u205 u206 u207 x8 hbx8
      have X9 := Lq (belowT X8.out hbx8)
      have n0 := (HGS.out _ X9.out).c 0
      have n1 := (HGS.out _ X9.out).lt
      clear hW8 hg18 hbx8 HA
      gi_wp2_with fail
      go_roundw
      case rel => exact .inr (.inl ⟨rfl, X9⟩)
      case measure => simp [intOf]
     ·obtain ⟨g18, hg18⟩ := ex wr.heap.size
      obtain ⟨W8, hW8⟩ := ex (wr.alloc (.cells #[.func (.func 103) #[] #[pT gb 0], .func (.func 105) #[] #[], .func (.func 106) #[] #[]] 137))
      have hb8 : BW wr W8 := by rw [← hW8]; exact belowA (belowR _) _
      have k18 : Blk W8 g18 137 #[.func (.func 103) #[] #[pT gb 0], .func (.func 105) #[] #[], .func (.func 106) #[] #[]] := by rw [← hW8, ← hg18]; exact Blk.new wr 137 _
      have X8 := Lq (belowT HBX.out hb8)
      have HS8 : Hid (∀ V, BW W8 V → V.cell? ⟨g18, 0, none⟩ = some (.func (.func 103) #[] #[pT gb 0])) := Lq fun V hb => (k18.same (hb.block _ k18.lt)).cell 0
      have hA : ∀ V, BW W8 V → Calls Tryz.prog 103 #[.agg #[.string ⟨#[109, 105, 100]⟩, iv 400, iv 500, iv 600, iv 100, iv 4, iv 5], pT gb 0] V (Rt V (iv 200)) := fun V hb8 => ((fun V hb => arm103_any pMid gb 200 V (HGB.out V hb).1 (by simp [pMid]) (by omega)) : ∀ V, BW XX V → _) V (belowT X8.out hb8)
      have HA := Lq hA
      clear hb8 k18 hA
      gi_wp2_with fail
      refine reg28_23_1 HA.out (fun W hb => ⟨HS8.out W hb, (HGP.out W (belowT X8.out hb)).1, (HGP.out W (belowT X8.out hb)).2.1, (HGP.out W (belowT X8.out hb)).2.2⟩) ?_
      intro u200 u201 u202 u203 u204 u205 u206 u207 x8 hbx8
      have X9 := Lq (belowT X8.out hbx8)
      have n0 := (HGS.out _ X9.out).c 1
      have n1 := (HGS.out _ X9.out).lt
      clear hW8 hg18 hbx8 HA
      gi_wp2_with fail
      go_roundw
      case rel => exact .inr (.inr (.inl ⟨rfl, X9⟩))
      case measure => simp [intOf]
     ·obtain ⟨g18, hg18⟩ := ex wr.heap.size
      obtain ⟨W8, hW8⟩ := ex (wr.alloc (.cells #[.func (.func 104) #[] #[pT gb 0], .func (.func 105) #[] #[], .func (.func 106) #[] #[]] 137))
      have hb8 : BW wr W8 := by rw [← hW8]; exact belowA (belowR _) _
      have k18 : Blk W8 g18 137 #[.func (.func 104) #[] #[pT gb 0], .func (.func 105) #[] #[], .func (.func 106) #[] #[]] := by rw [← hW8, ← hg18]; exact Blk.new wr 137 _
      have X8 := Lq (belowT HBX.out hb8)
      have HS8 : Hid (∀ V, BW W8 V → V.cell? ⟨g18, 0, none⟩ = some (.func (.func 104) #[] #[pT gb 0])) := Lq fun V hb => (k18.same (hb.block _ k18.lt)).cell 0
      have hA : ∀ V, BW W8 V → Calls Tryz.prog 104 #[.agg #[.string ⟨#[109, 105, 100]⟩, iv 400, iv 500, iv 600, iv 100, iv 4, iv 5], pT gb 0] V (Rt V (iv 400)) := fun V hb8 => ((fun V hb => arm104_any pMid gb 800 V (HGB.out V hb).2 (by simp [pMid]) (by omega)) : ∀ V, BW XX V → _) V (belowT X8.out hb8)
      have HA := Lq hA
      clear hb8 k18 hA
      gi_wp2_with fail
      refine reg28_23_2 HA.out (fun W hb => ⟨HS8.out W hb, (HGP.out W (belowT X8.out hb)).1, (HGP.out W (belowT X8.out hb)).2.1, (HGP.out W (belowT X8.out hb)).2.2⟩) ?_
      intro u200 u201 u202 u203 u204 u205 u206 u207 x8 hbx8
      have X9 := Lq (belowT X8.out hbx8)
      have n0 := (HGS.out _ X9.out).c 2
      have n1 := (HGS.out _ X9.out).lt
      clear hW8 hg18 hbx8 HA
      have hdb : decide ((0 : Int) ≤ -140000) = false := rfl
      gi_wp2_with fail
      refine reg28_24 (gm := gm) (gs := gs) (fun W hb => ⟨(HGM.out _ (belowT X9.out hb)).cell 0, (HGM.out _ (belowT X9.out hb)).frozen 0, (HGM.out _ (belowT X9.out hb)).lt⟩) (fun W hb => ⟨(HGM.out _ (belowT X9.out hb)).cell 0, (HGS.out _ (belowT X9.out hb)).cell 2⟩) ?_
      intro u300 u301 u302 u303 u304 u305 u306 u307 u308 u309 wx hwx
      obtain ⟨V0, hbV, rfl⟩ := hwx
      have HO9 : Hid (OnlyAt XX (V0.setCell ⟨gm, 0, none⟩ (iv 350)) gm) := Lq ((OnlyAt.of_below (belowT X9.out hbV) gm).set 0 _)
      have HM9 : Hid (Blk (V0.setCell ⟨gm, 0, none⟩ (iv 350)) gm 3 #[iv 350]) := Lq ((HGM.out _ (belowT X9.out hbV)).set_ 0 (iv 350))
      clear hbV n0 n1
      gi_wp2_with fail
      go_roundw
      case rel => exact .inr (.inr (.inr ⟨rfl, HO9, HM9⟩))
      case measure => simp [intOf]
     ·have HKY : Hid (KeepM (fun k => k = gm ∨ k = gm) W2 wr) := Lq (HKX.out.trans (KeepM.of_only HOX.out (.inl rfl)))
      have HFY : Hid (BalI W0 gm 350 wr) := Lq ⟨HOX.out.os.trans HFX.out.os, HOX.out.tape.trans HFX.out.tape, HOX.out.output.trans HFX.out.output, HFX.out.keep.trans (KeepM.of_only HOX.out (.inl rfl)), HMX.out⟩
      gi_wp2_with fail
      go_roundw
      case rel => exact .inr (.inr ⟨rfl, by unfold balE; rw [if_pos rfl]; exact HFY, HKY⟩)
      case measure => simp [intOf]
   ·gi_wp2_with fail
    refine ⟨HKa.out.trans HKW.out, ?_⟩
    have := HF.out
    rw [HME.out] at this
    exact this
 ·intro W hI hsz hD
  rw [HALL.out] at hI
  have hI : BalI W0 gm 350 W := hI
  have b6 : Blk W g6 3 #[iv 0] := K67.out.1.same (hI.keep.same _ (by omega) (by omega))
  have b7 : Blk W g7 31 #[iv 0] := K67.out.2.same (hI.keep.same _ (by omega) (by omega))
  have zm := hI.bm.c 0
  have q6 := b6.c 0
  have q7 := b7.c 0
  have f6 := b6.frozen 0
  have f7 := b7.frozen 0
  have l6 := b6.lt
  have l7 := b7.lt
  have B6 := Lq b6
  have B7 := Lq b7
  have HIX := Lq hI
  have HD := Lq hD
  clear hI b6 b7 hD HI0 HLOOP HCB HLE HG0
  gi_wp2_with fail
  obtain ⟨WX, hWX⟩ := ex ((W.setCell ⟨g6, 0, none⟩ (iv 350)).setCell ⟨g7, 0, none⟩ (iv 0))
  have k6 : Blk WX g6 3 #[iv 350] := by rw [← hWX]; exact (B6.out.set_ 0 _).far (by dsimp only; omega) _
  have k7 : Blk WX g7 31 #[iv 0] := by rw [← hWX]; exact (B7.out.far (by dsimp only; omega) _).set_ 0 _
  have hbf := HIX.out.fin HBW.out (by omega)
  have hbx : BW w WX := by rw [← hWX]; exact belowS (belowS hbf (by dsimp only; omega) _) (by dsimp only; omega) _
  have HD2 : Hid (WX.heap[W0.heap.size]? = some (.deferred (some []))) := Lq (by
   rw [← hWX]
   exact (Below.heap_setCell _ _ _ _ (by simp only; omega)).trans ((Below.heap_setCell _ _ _ _ (by simp only; omega)).trans HD.out))
  rw [hWX]
  have HK6 := Lq k6
  have HK7 := Lq k7
  have HBX := Lq hbx
  clear hWX k6 k7 hbx hbf zm q6 q7 f6 f7
  refine ⟨by simp, .inl ⟨_, _, rfl, run_takeDeferred HD2.out, ?_⟩⟩
  have hpb := below_putObj WX (Nat.le_refl W0.heap.size) (.deferred none)
  have y6 := (HK6.out.same (hpb.block _ (by omega))).c 0
  have y7 := (HK7.out.same (hpb.block _ (by omega))).c 0
  exact ⟨.tuple #[iv 350, iv 0], by simp [results, Tryz.results28, go_sem, y6, y7], rfl, HBX.out.trans (hpb.mono (by omega))⟩
 ·exact fun pre W _ hX => hX.elim
end Go.Proofs.YtmhjhbchokbonaaGreat
