/- (block.task).can: whether no block of some cut has to be heavier than so much. sort.Search, with each of the functions that it is handed. lightest, count, Winch and Sand. Heaviest: how far one part can be limited. -/
import Derived.Test.YtmhjhbchokbonaaGreatM0
import Derived.Test.YtmhjhbchokbonaaGreatM14
import Derived.Test.YtmhjhbchokbonaaGreatM16
import Derived.Test.YtmhjhbchokbonaaGreatM17
set_option maxRecDepth 1000000
set_option maxHeartbeats 16000000
namespace Go.Proofs.YtmhjhbchokbonaaGreat
open Go.RowKit Go.Shelf
attribute [local go_sem] Oper.semAt_some
section
variable {w : World} {B g : Nat} {h : Hul} {A : Option Addr} {cap : Nat} {J : Option Addr} {capJ : Nat} {N : List Nd} {bs : List Nat} {br km : Nat}
def HeavyPost (v : Bool) (km : Nat) (f : Nat → Int) (w : World) (e : Ending) (w' : World) : Prop := e = .returned (.bool v) ∧ OnlyAt w w' km ∧ KnownAt w' km f
theorem heavy_any (H : DeckSt w B g h A cap J capJ N bs br km) (hT : TreeOk h.ps N) (hK : KnownAt w km (mostV h N)) (set tb wb : Nat) (wt : Int) (hs : set < 256) (ht : w.cell? ⟨tb, 0, none⟩ = some (ptr g)) (hw : w.cell? ⟨wb, 0, none⟩ = some (iv wt)) (htk : tb ≠ km) (hwk : wb ≠ km) :
  Calls Tryz.prog 135 #[iv set, ptr tb, ptr wb] w (HeavyPost (decide (wt < mostV h N set)) km (mostV h N) w) := by
 have hd : OnlyAt w w.drew km := (OnlyAt.refl w km).drew
 have hm := most_any (H.only hd (.inl rfl)) hT hK.drew set hs
 have HM := Lq hm
 have HC : Hid (∀ W, OnlyAt w W km → W.cell? ⟨tb, 0, none⟩ = some (ptr g) ∧ W.cell? ⟨wb, 0, none⟩ = some (iv wt)) := Lq fun W ho => ⟨ho.cell ht htk, ho.cell hw hwk⟩
 have HD := Lq hd
 obtain ⟨M, hM⟩ := ex (mostV h N set)
 rw [hM] at HM ⊢
 clear hm hM
 obtain ⟨F, hF⟩ := ex (mostV h N)
 rw [hF] at HM ⊢
 clear hF H hK hT
 go_enter Tryz.func135, Tryz.ntmps135
 go_wp2
 go_region_held3 (fun W => W.cell? ⟨tb, 0, none⟩ = some (ptr g) ∧ W.cell? ⟨wb, 0, none⟩ = some (iv wt)) (first | exact HC.out w.drew HD.out | exact HC.out w1 ho) (((go_at_call 54; refine HM.out.mono ?_; rintro e w1 ⟨rfl, ho1, hk1⟩; have ho : OnlyAt w w1 km := HD.out.trans ho1)))
 go_wp2
 go_ret
 exact ⟨rfl, ho, hk1⟩
end
def fitsCut (h : Hul) (N : List Nd) (wt : Int) (C : List Nat) : Bool := !anyTo (fun s => decide (wt < mostV h N s)) (blkTo C h.ps.length) (manyTo C h.ps.length)
def canF (h : Hul) (N : List Nd) (b : Nat) (wt : Int) : Bool := (cutsL h.js h.ps.length b).any (fitsCut h N wt)
structure CanI (W0 : World) (f4 km : Nat) (f : Nat → Int) (v : Bool) (W : World) : Prop where
 os : W.os = W0.os
 tape : W.tape = W0.tape
 out : W.output = W0.output
 keep : KeepM (fun k => k = km ∨ k = f4) W0 W
 kn : KnownAt W km f
 b4 : Blk W f4 4 #[.bool v]
theorem CanI.below {W0 W W' : World} {f4 km : Nat} {f : Nat → Int} {v : Bool} (h : CanI W0 f4 km f v W) (hb : Below W0.heap.size W W') (h4 : f4 < W0.heap.size) (hk : km < W0.heap.size) : CanI W0 f4 km f v W' :=
 ⟨hb.os.trans h.os, hb.tape.trans h.tape, hb.output.trans h.out, ⟨Nat.le_trans h.keep.size hb.size, fun k hm hlt => (hb.block k hlt).trans (h.keep.same k hm hlt)⟩, h.kn.same (hb.block _ hk), h.b4.same (hb.block _ h4)⟩
theorem CanI.only {W0 W W' : World} {f4 km : Nat} {f : Nat → Int} {v : Bool} (h : CanI W0 f4 km f v W) (ho : OnlyAt W W' km) (hk : KnownAt W' km f) (h4 : f4 ≠ km) : CanI W0 f4 km f v W' :=
 ⟨ho.os.trans h.os, ho.tape.trans h.tape, ho.output.trans h.out, h.keep.trans ⟨ho.size, fun k hk hlt => ho.block k hlt (fun e => hk (.inl e))⟩, hk, h.b4.same (ho.block _ h.b4.lt h4)⟩
theorem CanI.fin {w W0 W : World} {f4 km : Nat} {f : Nat → Int} {v : Bool} (h : CanI W0 f4 km f v W) (hb : BW w W0) (h4 : w.heap.size ≤ f4) (h4' : f4 < W0.heap.size) (hk : km < w.heap.size) (o : Obj) :
  OnlyAt w (W.putObj W0.heap.size o) km ∧ KnownAt (W.putObj W0.heap.size o) km f ∧ (W.putObj W0.heap.size o).cell? ⟨f4, 0, none⟩ = some (.bool v) := by
 have hz := hb.size
 have hp : ∀ k, k < W0.heap.size → (W.putObj W0.heap.size o).heap[k]? = W.heap[k]? := fun k hk => World.putObj_heap_other (by omega)
 refine ⟨⟨h.os.trans hb.os, h.tape.trans hb.tape, h.out.trans hb.output, by have := h.keep.size; simp [World.putObj]; omega, fun k hk hne => (hp k (by omega)).trans ((h.keep.same k (by omega) (by omega)).trans (hb.block k hk))⟩, h.kn.same (hp km (by omega)), ?_⟩
 have hb4 : Blk (W.putObj W0.heap.size o) f4 4 #[.bool v] := h.b4.same (hp f4 h4')
 exact hb4.cell 0
theorem can_any {w : World} {BD g : Nat} {h : Hul} {A : Option Addr} {cap : Nat} {J : Option Addr} {capJ : Nat} {N : List Nd} {bs : List Nat} {br km : Nat} (H : DeckSt w BD g h A cap J capJ N bs br km) (hk : HulOk h) (hT : TreeOk h.ps N) (hK : KnownAt w km (mostV h N)) (b : Nat) (wt : Int) (hb8 : b ≤ 8) :
  Calls Tryz.prog 118 #[.agg #[ptr g, iv b], iv wt] w (HeavyPost (canF h N b wt) km (mostV h N) w) := by
 have hn8 := hk.n8
 obtain ⟨n, hn⟩ := ex h.ps.length
 have hkm := hK.lt
 have hgS : g < w.heap.size := Nat.lt_of_lt_of_le H.gB H.hB
 obtain ⟨s0, hs0⟩ := ex w.heap.size
 obtain ⟨W3, hW3⟩ := ex (((w.alloc (.cells #[ptr g, nv b] 192)).alloc (.cells #[iv wt] 3)).alloc (.cells #[.bool false] 4))
 have hz3 : W3.heap.size = s0 + 3 := by rw [← hW3, ← hs0]; simp
 have hb3 : BW w W3 := by rw [← hW3]; exact belowA (belowA (belowA (belowR _) _) _) _
 have b2 : Blk W3 s0 192 #[ptr g, nv b] := by rw [← hW3, ← hs0]; exact ((Blk.new w 192 _).alloc _).alloc _
 have b3 : Blk W3 (s0 + 1) 3 #[iv wt] := by
  rw [← hW3, ← hs0]
  have := (Blk.new (w.alloc (.cells #[ptr g, nv b] 192)) 3 #[iv wt]).alloc (.cells #[.bool false] 4)
  rwa [World.size_alloc] at this
 have b4 : Blk W3 (s0 + 2) 4 #[.bool false] := by
  rw [← hW3, ← hs0]
  have := Blk.new ((w.alloc (.cells #[ptr g, nv b] 192)).alloc (.cells #[iv wt] 3)) 4 #[.bool false]
  rwa [World.size_alloc, World.size_alloc] at this
 obtain ⟨f3, hf3⟩ := ex (s0 + 1)
 obtain ⟨f4, hf4⟩ := ex (f3 + 1)
 have e4 : s0 + 2 = f4 := by omega
 rw [hf3] at b3
 rw [e4] at b4
 have hcu := cuts_any g A n cap b W3 (by rw [← hn]; exact keepC hb3 H.c0)
 obtain ⟨W0, hW0⟩ := ex (((W3.alloc (.cells #[ptr g] 110)).alloc (.cells #[nv b] 3)).alloc (.cells #[nv n] 3))
 obtain ⟨db, hdb⟩ := ex W3.heap.size
 have hz0 : W0.heap.size = db + 3 := by rw [← hW0, ← hdb]; simp
 have hb0 : BW W3 W0 := by rw [← hW0]; exact belowA (belowA (belowA (belowR _) _) _) _
 have d1 : Blk W0 db 110 #[ptr g] := by rw [← hW0, ← hdb]; exact ((Blk.new W3 110 _).alloc _).alloc _
 have d2 : Blk W0 (db + 1) 3 #[nv b] := by
  rw [← hW0, ← hdb]
  have := (Blk.new (W3.alloc (.cells #[ptr g] 110)) 3 #[nv b]).alloc (.cells #[nv n] 3)
  rwa [World.size_alloc] at this
 have d3 : Blk W0 (db + 2) 3 #[nv n] := by
  rw [← hW0, ← hdb]
  have := Blk.new ((W3.alloc (.cells #[ptr g] 110)).alloc (.cells #[nv b] 3)) 3 #[nv n]
  rwa [World.size_alloc, World.size_alloc] at this
 have hbw : BW w W0 := belowT hb3 hb0
 have hds := H.below hbw
 have hkn := hK.below hbw
 have b2' := b2.same (hb0.block _ b2.lt)
 have b3' := b3.same (hb0.block _ b3.lt)
 have b4' := b4.same (hb0.block _ b4.lt)
 have hBD := H.hB
 obtain ⟨B0, hB0a, hB0b, rp, rj⟩ := hds.rd
 have r2 : W3.cell? ⟨s0, 0, none⟩ = some (ptr g) := b2.cell 0
 have r2b : W3.cell? ⟨s0, 1, none⟩ = some (nv b) := b2.cell 1
 have HI0 : Hid (CanI W0 f4 km (mostV h N) false W0) := Lq ⟨rfl, rfl, rfl, KeepM.refl _ _, hkn, b4'⟩
 have HCU := Lq hcu
 have HLOOP : Hid (Blk W0 (db + 2) 3 #[nv n] ∧ Blk W0 db 110 #[ptr g] ∧ Blk W0 (db + 1) 3 #[nv b] ∧ W0.cell? ⟨g, 1, none⟩ = some (.slice J h.js.length capJ) ∧ RdN 2 encSp W0 B0 J h.js) := Lq ⟨d3, d1, d2, hds.c1, rj⟩
 have HDS := Lq hds
 have HBW := Lq hbw
 have HB2 : Hid (Blk W0 s0 192 #[ptr g, nv b] ∧ Blk W0 f3 3 #[iv wt]) := Lq ⟨b2', b3'⟩
 have hgk := H.gk
 have hz0' : db + 3 ≤ W0.heap.size := by omega
 have hord : km < s0 ∧ g < s0 ∧ s0 < f3 ∧ f3 < f4 ∧ f4 < db ∧ BD ≤ s0 ∧ w.heap.size ≤ s0 := by omega
 rw [hdb] at HCU
 have HORD := Lq hord
 have HN := Lq hn
 clear hcu b2 b3 b4 hb3 hz3 hb0 d1 d2 d3 hbw hds hkn b2' b3' b4' rj rp e4 hz0 H hK hord
 refine (callsIn_wide (n := 0)).1 ?_
 refine callsIn_of_wp_marks Tryz.func118 rfl trivial ?_ rfl
 simp only [Tryz.ntmps118, List.size_toArray, List.length_cons, List.length_nil, Nat.reduceAdd, Nat.reduceSub, Array.replicate_succ, Array.replicate_zero, List.push_toArray, List.append_toArray, List.nil_append, List.cons_append]
 gi_wp2_with fail
 refine ⟨trivial, rfl, (callsIn_wide.2 HCU.out).mono ?_⟩
 rintro e w5 ⟨rfl, rfl⟩
 rw [hW0]
 clear hW3 hW0 HCU r2 r2b hdb
 gi_wp2_with fail
 obtain ⟨o1, o2, o3, o4, o5, o6, o7⟩ := HORD.out
 have hnn8 : n ≤ 8 := by omega
 have hn1 := hk.n1
 refine rangeFunc_cuts 0 (fun k => k = km ∨ k = f4) (db + 2) db (db + 1) g n b B0 capJ J h.js rfl HLOOP.out.1 HLOOP.out.2.1 HLOOP.out.2.2.1 HLOOP.out.2.2.2.1 HLOOP.out.2.2.2.2 (by omega) (fun k hk => by omega) (by omega) (by omega) (by omega) (by omega) (fun k hk => by omega) (by omega) hnn8 hb8 (by rw [← hn]; exact hk.js) hk.j12
  (fun pre W => CanI W0 f4 km (mostV h N) false W ∧ ∀ C ∈ pre, fitsCut h N wt C = false) (fun pre W => CanI W0 f4 km (mostV h N) true W ∧ ∃ C ∈ pre, fitsCut h N wt C = true) ?_ ?_ ⟨HI0.out, by simp⟩ ?_ ?_ ?_
 ·exact fun s X Y hX hb => ⟨hX.1.below hb (by omega) (by omega), hX.2⟩
 ·exact fun s X Y hX hb => ⟨hX.1.below hb (by omega) (by omega), hX.2⟩
 ·intro m l2 pre C W hI hpre hsz
  obtain ⟨hcl, hc8⟩ := cutsL_mem hb8 hnn8 C (hpre.subset (List.mem_append_right pre (List.mem_singleton.2 rfl)))
  obtain ⟨c0, c1, c2, c3, c4, c5, c6, c7, hce⟩ := eight hcl
  have hcv2 : cutV C = .agg #[nv c0, nv c1, nv c2, nv c3, nv c4, nv c5, nv c6, nv c7] := by rw [hce]; rfl
  rw [hcv2]
  gi_wp2
  refine ⟨belowA (belowR _) _, ?_⟩
  intro W2 hI2 hg2 hs2
  obtain ⟨hI2, hno⟩ := hI2
  obtain ⟨f11, hf11⟩ := ex W.heap.size
  have b11 : Blk W2 f11 155 (C.map nv).toArray := by
   rw [← hf11, hce]
   exact (Blk.new W 155 #[nv c0, nv c1, nv c2, nv c3, nv c4, nv c5, nv c6, nv c7]).grown hg2 (fun e => by injection e with e; omega)
  have hf11' : W0.heap.size + 2 < f11 := by omega
  rw [hf11]
  have nM : ∀ k, k < W0.heap.size → k ≠ km → k ≠ f4 → W2.heap[k]? = W0.heap[k]? := fun k hk h1 h2 => hI2.keep.same k (by omega) hk
  have b2 := HB2.out.1.same (nM s0 (by omega) (by omega) (by omega))
  have b3 := HB2.out.2.same (nM f3 (by omega) (by omega) (by omega))
  have hds := HDS.out.keepM hI2.keep.size (fun k hk hne => nM k (by omega) hne (by omega))
  have hblk := fun W => blocks_any C n W hcl hc8 hnn8
  obtain ⟨S, hS⟩ := ex (blkTo C n)
  obtain ⟨K, hK⟩ := ex (manyTo C n)
  have hSl : S.length = 8 := by rw [← hS]; exact blkTo_len _ _
  have hS256 : ∀ x ∈ S, x < 256 := by rw [← hS]; exact blkTo_lt _ _ hnn8
  have hK8 : K ≤ 8 := by rw [← hK]; exact manyTo_le hc8 _
  have hft : fitsCut h N wt C = !anyTo (fun s => decide (wt < mostV h N s)) S K := by unfold fitsCut; rw [hn, hS, hK]
  obtain ⟨s0', s1, s2, s3, s4, s5, s6, s7, hse⟩ := eight hSl
  have hsv : cutV S = .agg #[nv s0', nv s1, nv s2, nv s3, nv s4, nv s5, nv s6, nv s7] := by rw [hse]; rfl
  unfold BlocksPost at hblk
  rw [hcv2, hS, hK, hsv] at hblk
  have hcl2 : ∀ i x, C[i]? = some x → W2.cell? ⟨f11, i, none⟩ = some (nv x) := fun i x hx => b11.nat hx
  rw [hce] at hcl2
  have rg : W2.cell? ⟨g, 0, none⟩ = some (.slice A n cap) := by have := hds.c0; rw [hn] at this; exact this
  have rt : W2.cell? ⟨s0, 0, none⟩ = some (ptr g) := b2.cell 0
  have HBLK := Lq hblk
  have HCL2 := Lq hcl2
  have HRG := Lq rg
  have HRT := Lq rt
  have HI2 := Lq hI2
  have HNO := Lq hno
  have HFT := Lq hft
  have HSE := Lq hse
  have HDS2 := Lq hds
  have B3 := Lq b3
  have B2 := Lq b2
  have hz20 := hI2.keep.size
  clear hblk hI2 hno hft hse hds b2 b3 b11 hS hK hsv hcv2 hce hcl2 nM hI hg2 hs2 hf11 hpre hsz rg rt W
  gi_wp2_with fail
  refine reg117_3 (HCL2.out 0 _ rfl) (HCL2.out 1 _ rfl) (HCL2.out 2 _ rfl) (HCL2.out 3 _ rfl) (HCL2.out 4 _ rfl) (HCL2.out 5 _ rfl) (HCL2.out 6 _ rfl) (HCL2.out 7 _ rfl) HRT.out HRG.out HBLK.out ?_
  intro gg u14 u15 u16 u17 u18 u19 u20 u21 u22 u23 u24 u25 wx hgg hgl hbx hblk
  have hI4 := HI2.out.below (hbx.mono hz20) (by omega) (by omega)
  have hds4 := HDS2.out.below hbx
  have b2x := B2.out.same (hbx.block _ B2.out.lt)
  have b3x := B3.out.same (hbx.block _ B3.out.lt)
  have hblk' : Blk wx gg 154 (S.map nv).toArray := by rw [HSE.out]; exact hblk
  have hkx := hI4.kn.lt
  have hsl := fun W => slice122 W gg K hK8
  have hzx := hbx.size
  have hco := contains128_any (ptr s0) (ptr f3) (fun s => decide (wt < mostV h N s)) (fun X => OnlyAt wx X km ∧ KnownAt X km (mostV h N)) gg K S wx (by omega) (by omega) ⟨OnlyAt.refl wx km, hI4.kn⟩
   (fun W hW i x hx => hW.1.cell (hblk'.nat hx) (by omega))
   (fun W x hW hx => (heavy_any (hds4.only hW.1 (.inl rfl)) hT hW.2 x s0 f3 wt (hS256 x hx) (hW.1.cell (b2x.cell 0) (by omega)) (hW.1.cell (b3x.cell 0) (by omega)) (by omega) (by omega)).mono (fun e w' hp => ⟨hp.1, hW.1.trans hp.2.1, hp.2.2⟩))
  obtain ⟨q, hq⟩ := ex (anyTo (fun s => decide (wt < mostV h N s)) S K)
  rw [hq] at hco
  have HFQ : Hid (fitsCut h N wt C = !q) := Lq (by rw [HFT.out, hq])
  have HCO := Lq hco
  have HI4 := Lq hI4
  have HBX := Lq hbx
  clear hco hI4 hq hds4 b2x b3x hblk hblk' hbx HBLK HCL2 HRG HRT HDS2 HFT HSE
  gi_wp2_with fail
  refine ⟨trivial, hdd _, (CallsIn.inRound l2 (callsIn_wide.2 HCO.out)).mono ?_⟩
  rintro e w7 ⟨rfl, ho7, hk7⟩
  have HI7 : Hid (CanI W0 f4 km (mostV h N) false w7) := Lq (HI4.out.only ho7 hk7 (by omega))
  have HK7 : Hid (KeepM (fun k => k = km ∨ k = f4) W2 w7) := Lq ((KeepM.of_below HBX.out).trans (KeepM.of_only ho7 (.inl rfl)))
  have r4 := HI7.out.b4.cell 0
  have x4 := HI7.out.b4.frozen 0
  clear ho7 hk7 HCO hsl
  cases q
  ·gi_wp2_with fail
   exact ⟨HK7.out.trans (KeepM.set_ _ _ (.inr rfl)), ⟨HI7.out.os, HI7.out.tape, HI7.out.out, HI7.out.keep.trans (KeepM.set_ _ _ (.inr rfl)), HI7.out.kn.same (Below.heap_setCell _ _ _ _ (by simp only; omega)), by have := HI7.out.b4.set_ 0 (.bool true); simpa using this⟩, C, by simp, HFQ.out⟩
  ·gi_wp2_with fail
   exact ⟨HK7.out, HI7.out, fun D hD => (List.mem_append.1 hD).elim (fun h => HNO.out D h) (fun h => by rw [List.mem_singleton.1 h]; exact HFQ.out)⟩
 ·intro W hI hsz hD
  obtain ⟨hI, hall⟩ := hI
  have hres : canF h N b wt = false := by unfold canF; rw [HN.out, List.any_eq_false]; intro C hC; simp [hall C hC]
  have HRES := Lq hres
  have y4 : W.cell? ⟨f4, 0, none⟩ = some (.bool false) := hI.b4.cell 0
  have x4 := hI.b4.frozen 0
  have HI := Lq hI
  have HD := Lq hD
  have hz0 := hI.keep.size
  clear hI hD hres hall HI0 HLOOP HDS HB2
  gi_wp2_with fail
  have HX : Hid (CanI W0 f4 km (mostV h N) false (W.setCell ⟨f4, 0, none⟩ (.bool false))) := Lq ⟨HI.out.os, HI.out.tape, HI.out.out, HI.out.keep.trans (KeepM.set_ _ _ (.inr rfl)), HI.out.kn.same (Below.heap_setCell _ _ _ _ (by simp only; omega)), by have := HI.out.b4.set_ 0 (.bool false); simpa using this⟩
  have HD2 : Hid ((W.setCell ⟨f4, 0, none⟩ (.bool false)).heap[W0.heap.size]? = some (.deferred (some []))) := Lq ((Below.heap_setCell _ _ _ _ (by simp only; omega)).trans HD.out)
  refine ⟨by simp, .inl ⟨_, _, rfl, run_takeDeferred HD2.out, ?_⟩⟩
  obtain ⟨z1, z2, z3⟩ := HX.out.fin HBW.out (by omega) (by omega) (by omega) (.deferred none)
  exact ⟨.bool false, by simp [results, Tryz.results118, go_sem, z3], by rw [HRES.out], z1, z2⟩
 ·intro pre W hpre hI hsz hD
  obtain ⟨hI, C, hC, hfc⟩ := hI
  have hres : canF h N b wt = true := by unfold canF; rw [HN.out, List.any_eq_true]; exact ⟨C, hpre.subset hC, hfc⟩
  have HRES := Lq hres
  have y4 : W.cell? ⟨f4, 0, none⟩ = some (.bool true) := hI.b4.cell 0
  have HI := Lq hI
  have HD := Lq hD
  have hz0 := hI.keep.size
  clear hI hD hres hfc HI0 HLOOP HDS HB2
  gi_wp2_with fail
  refine ⟨by simp, .inl ⟨_, _, rfl, run_takeDeferred HD.out, ?_⟩⟩
  obtain ⟨z1, z2, z3⟩ := HI.out.fin HBW.out (by omega) (by omega) (by omega) (.deferred none)
  exact ⟨.bool true, by simp [results, Tryz.results118, go_sem, z3], by rw [HRES.out], z1, z2⟩
end Go.Proofs.YtmhjhbchokbonaaGreat
namespace Go.Proofs.YtmhjhbchokbonaaGreat
open Go.RowKit
def searchF (pred : Nat → Bool) : Nat → Nat → Nat → Nat
 | 0, i, _ => i
 | f + 1, i, j => if i < j then (if pred ((i + j) / 2) then searchF pred f i ((i + j) / 2) else searchF pred f ((i + j) / 2 + 1) j) else i
theorem searchF_least {pred : Nat → Bool} (hm : ∀ a b, a ≤ b → pred a = true → pred b = true) : ∀ (f i j : Nat), i ≤ j → j < f + i → (∀ k, k < i → pred k = false) →
  i ≤ searchF pred f i j ∧ searchF pred f i j ≤ j ∧ (∀ k, k < searchF pred f i j → pred k = false) ∧ (searchF pred f i j < j → pred (searchF pred f i j) = true) := by
 intro f
 induction f with
 | zero => intro i j h1 h2; omega
 | succ f ih =>
  intro i j h1 h2 h3
  rw [searchF]
  by_cases hij : i < j
  ·rw [if_pos hij]
   obtain ⟨h, hh⟩ := ex ((i + j) / 2)
   rw [hh]
   have hb : i ≤ h ∧ h < j := by omega
   cases hp : pred h with
   | true =>
    rw [if_pos rfl]
    obtain ⟨a, b, c, d⟩ := ih i h hb.1 (by omega) h3
    refine ⟨a, by omega, c, fun hlt => ?_⟩
    rcases Nat.lt_or_ge (searchF pred f i h) h with hl | hg
    ·exact d hl
    ·have : searchF pred f i h = h := by omega
     rw [this]; exact hp
   | false =>
    rw [if_neg (by simp)]
    obtain ⟨a, b, c, d⟩ := ih (h + 1) j (by omega) (by omega) (fun k hk => by
     cases hpk : pred k with
     | false => rfl
     | true => have := hm k h (by omega) hpk; rw [hp] at this; cases this)
    exact ⟨by omega, b, c, d⟩
  ·rw [if_neg hij]
   exact ⟨Nat.le_refl _, h1, h3, fun h => by omega⟩
theorem searchF_le (pred : Nat → Bool) : ∀ (f i j : Nat), i ≤ j → i ≤ searchF pred f i j ∧ searchF pred f i j ≤ j := by
 intro f
 induction f with
 | zero => intro i j h; exact ⟨Nat.le_refl _, h⟩
 | succ f ih =>
  intro i j h
  rw [searchF]
  by_cases hij : i < j
  ·rw [if_pos hij]
   split
   ·have := ih i ((i + j) / 2) (by omega); omega
   ·have := ih ((i + j) / 2 + 1) j (by omega); omega
  ·rw [if_neg hij]; exact ⟨Nat.le_refl _, h⟩
theorem search75_any (p1 p2 p3 p4 p5 : Value) (pred : Nat → Bool) (Inv : World → Prop) (n : Nat) (w : World) (hn : n ≤ 1000000000000000000) (hI : Inv w)
  (hF : ∀ W k, Inv W → k < n → Calls Tryz.prog 73 #[iv (k : Nat), p1, p2, p3, p4, p5] W fun e w' => e = .returned (.bool (pred k)) ∧ Inv w') :
  Calls Tryz.prog 72 #[iv n, .func (.func 73) #[] #[p1, p2, p3, p4, p5]] w fun e w' => e = .returned (nv (searchF pred (n + 1) 0 n)) ∧ Inv w' := by
 have HF := Lq hF
 have HI := Lq hI
 obtain ⟨R, hR⟩ := ex (searchF pred (n + 1) 0 n)
 have HR := Lq hR
 rw [hR]
 clear hF hI hR
 go_enter Tryz.func72, Tryz.ntmps72
 go_wp2_with fail
 go_loopw [5, 6] (fun vi vj wr => ∃ i j f : Nat, vi = iv i ∧ vj = iv j ∧ i ≤ j ∧ j ≤ n ∧ j < f + i ∧ Hid (Inv wr) ∧ Hid (searchF pred f i j = R)) (fun vi vj _ => (intOf vj).toNat - (intOf vi).toNat)
 case atStart => exact ⟨0, n, n + 1, rfl, rfl, Nat.zero_le _, Nat.le_refl _, by omega, HI, HR⟩
 case round =>
  clear HI HR
  obtain ⟨i, j, f, rfl, rfl, hij, hjn, hjf, HI, HR⟩ := hrel
  by_cases hlt : i < j
  ·obtain ⟨f, rfl⟩ : ∃ f', f = f' + 1 := ⟨f - 1, by omega⟩
   have hst : searchF pred (f + 1) i j = if pred ((i + j) / 2) then searchF pred f i ((i + j) / 2) else searchF pred f ((i + j) / 2 + 1) j := by rw [searchF, if_pos hlt]
   obtain ⟨h, hh⟩ := ex ((i + j) / 2)
   rw [hh] at hst
   have hb : i ≤ h ∧ h < j := by omega
   have hcall := HF.out wr h HI.out (by omega)
   obtain ⟨q, hq⟩ := ex (pred h)
   rw [hq] at hst hcall
   have HST := Lq hst
   have HC := Lq hcall
   have hu0 : IntKind.u64.wrap ((i : Int) + (j : Int)) = (i : Int) + (j : Int) := by rw [IntKind.wrap_u64]; omega
   have hu1 : ((i : Int) + (j : Int)) / 2 = (h : Int) := by omega
   clear hst hcall hq hh
   go_wp2_with fail
   refine HC.out.mono ?_
   rintro e w1 ⟨rfl, hI1⟩
   have HI1 := Lq hI1
   clear hI1 HC
   cases q
   ·have hr : searchF pred f (h + 1) j = R := by rw [← HR.out, HST.out]; rfl
    have HR2 := Lq hr
    clear hr HST
    go_wp2_with fail
    go_roundw
    case rel => exact ⟨h + 1, j, f, by go_num, rfl, by omega, by omega, by omega, HI1, HR2⟩
    case measure => simp [intOf]; omega
   ·have hr : searchF pred f i h = R := by rw [← HR.out, HST.out]; rfl
    have HR2 := Lq hr
    clear hr HST
    go_wp2_with fail
    go_roundw
    case rel => exact ⟨i, h, f, rfl, rfl, by omega, by omega, by omega, HI1, HR2⟩
    case measure => simp [intOf]; omega
  ·have hz : ¬ (i : Int) < (j : Int) := by omega
   have hri : R = i := by
    rw [← HR.out]
    cases f with
    | zero => rfl
    | succ f => rw [searchF, if_neg hlt]
   go_wp2_with fail
   go_ret
   exact ⟨by first | rfl | (rw [hri]; rfl), HI.out⟩
theorem search117_any (p1 : Value) (pred : Nat → Bool) (Inv : World → Prop) (n : Nat) (w : World) (hn : n ≤ 1000000000000000000) (hI : Inv w)
  (hF : ∀ W k, Inv W → k < n → Calls Tryz.prog 118 #[p1, iv (k : Nat)] W fun e w' => e = .returned (.bool (pred k)) ∧ Inv w') :
  Calls Tryz.prog 72 #[iv n, .func (.func 118) #[p1] #[]] w fun e w' => e = .returned (nv (searchF pred (n + 1) 0 n)) ∧ Inv w' := by
 have HF := Lq hF
 have HI := Lq hI
 obtain ⟨R, hR⟩ := ex (searchF pred (n + 1) 0 n)
 have HR := Lq hR
 rw [hR]
 clear hF hI hR
 go_enter Tryz.func72, Tryz.ntmps72
 go_wp2_with fail
 go_loopw [5, 6] (fun vi vj wr => ∃ i j f : Nat, vi = iv i ∧ vj = iv j ∧ i ≤ j ∧ j ≤ n ∧ j < f + i ∧ Hid (Inv wr) ∧ Hid (searchF pred f i j = R)) (fun vi vj _ => (intOf vj).toNat - (intOf vi).toNat)
 case atStart => exact ⟨0, n, n + 1, rfl, rfl, Nat.zero_le _, Nat.le_refl _, by omega, HI, HR⟩
 case round =>
  clear HI HR
  obtain ⟨i, j, f, rfl, rfl, hij, hjn, hjf, HI, HR⟩ := hrel
  by_cases hlt : i < j
  ·obtain ⟨f, rfl⟩ : ∃ f', f = f' + 1 := ⟨f - 1, by omega⟩
   have hst : searchF pred (f + 1) i j = if pred ((i + j) / 2) then searchF pred f i ((i + j) / 2) else searchF pred f ((i + j) / 2 + 1) j := by rw [searchF, if_pos hlt]
   obtain ⟨h, hh⟩ := ex ((i + j) / 2)
   rw [hh] at hst
   have hb : i ≤ h ∧ h < j := by omega
   have hcall := HF.out wr h HI.out (by omega)
   obtain ⟨q, hq⟩ := ex (pred h)
   rw [hq] at hst hcall
   have HST := Lq hst
   have HC := Lq hcall
   have hu0 : IntKind.u64.wrap ((i : Int) + (j : Int)) = (i : Int) + (j : Int) := by rw [IntKind.wrap_u64]; omega
   have hu1 : ((i : Int) + (j : Int)) / 2 = (h : Int) := by omega
   clear hst hcall hq hh
   go_wp2_with fail
   refine HC.out.mono ?_
   rintro e w1 ⟨rfl, hI1⟩
   have HI1 := Lq hI1
   clear hI1 HC
   cases q
   ·have hr : searchF pred f (h + 1) j = R := by rw [← HR.out, HST.out]; rfl
    have HR2 := Lq hr
    clear hr HST
    go_wp2_with fail
    go_roundw
    case rel => exact ⟨h + 1, j, f, by go_num, rfl, by omega, by omega, by omega, HI1, HR2⟩
    case measure => simp [intOf]; omega
   ·have hr : searchF pred f i h = R := by rw [← HR.out, HST.out]; rfl
    have HR2 := Lq hr
    clear hr HST
    go_wp2_with fail
    go_roundw
    case rel => exact ⟨i, h, f, rfl, rfl, by omega, by omega, by omega, HI1, HR2⟩
    case measure => simp [intOf]; omega
  ·have hz : ¬ (i : Int) < (j : Int) := by omega
   have hri : R = i := by
    rw [← HR.out]
    cases f with
    | zero => rfl
    | succ f => rw [searchF, if_neg hlt]
   go_wp2_with fail
   go_ret
   exact ⟨by first | rfl | (rw [hri]; rfl), HI.out⟩
end Go.Proofs.YtmhjhbchokbonaaGreat
namespace Go.Proofs.YtmhjhbchokbonaaGreat
open Go.RowKit Go.Shelf
attribute [local go_sem] Oper.semAt_some
def lightW (h : Hul) (N : List Nd) (b : Nat) : Nat := searchF (fun k => canF h N b k) (h.ps.length * 100000 + 2) 0 (h.ps.length * 100000 + 1)
theorem lightW_le (h : Hul) (N : List Nd) (b : Nat) : lightW h N b ≤ h.ps.length * 100000 + 1 := (searchF_le _ _ _ _ (Nat.zero_le _)).2
section
variable {w : World} {B g : Nat} {h : Hul} {A : Option Addr} {cap : Nat} {J : Option Addr} {capJ : Nat} {N : List Nd} {bs : List Nat} {br km : Nat}
theorem lightest_any (H : DeckSt w B g h A cap J capJ N bs br km) (hk : HulOk h) (hT : TreeOk h.ps N) (hK : KnownAt w km (mostV h N)) (b : Nat) (hb8 : b ≤ 8) :
  Calls Tryz.prog 117 #[.func (.func 118) #[.agg #[ptr g, nv b]] #[], iv (h.ps.length * 100000 : Nat)] w (fun e w' => e = .returned (.tuple #[nv (lightW h N b), .bool (decide (lightW h N b ≤ h.ps.length * 100000))]) ∧ OnlyAt w w' km ∧ KnownAt w' km (mostV h N)) := by
 have hn8 := hk.n8
 have hse := search117_any (.agg #[ptr g, nv b]) (fun k => canF h N b k) (fun X => OnlyAt w X km ∧ KnownAt X km (mostV h N)) (h.ps.length * 100000 + 1) w (by omega) ⟨OnlyAt.refl w km, hK⟩
  (fun W k hW hlt => (can_any (H.only hW.1 (.inl rfl)) hk hT hW.2 b k hb8).mono (fun e w' hp => ⟨hp.1, hW.1.trans hp.2.1, hp.2.2⟩))
 have hle := lightW_le h N b
 have hL : searchF (fun k => canF h N b k) (h.ps.length * 100000 + 1 + 1) 0 (h.ps.length * 100000 + 1) = lightW h N b := rfl
 rw [hL] at hse
 obtain ⟨R, hR⟩ := ex (lightW h N b)
 rw [hR] at hse hle ⊢
 obtain ⟨M, hM⟩ := ex (h.ps.length * 100000)
 have hM8 : M ≤ 800000 := by omega
 rw [hM] at hse hle ⊢
 have HSE := Lq hse
 clear hse hL hR hM H hT hK hk hn8
 go_enter Tryz.func117, Tryz.ntmps117
 go_wp2_with fail
 refine HSE.out.mono ?_
 rintro e w1 ⟨rfl, ho, hk⟩
 have HO := Lq (And.intro ho hk)
 clear ho hk HSE
 go_wp2_with fail
 go_ret2
 refine ⟨?_, HO.out⟩
 simp
end
def CountPost (h : Hul) (A : Option Addr) (cap : Nat) (J : Option Addr) (capJ : Nat) (l : List Wgh) (v : Int) (w : World) (e : Ending) (w' : World) : Prop :=
 BW w w' ∧ ((openE h l ≠ 0 ∧ e = .returned (.tuple #[.pointer none, iv 0, iv (openE h l)])) ∨ (openE h l = 0 ∧ ¬ (1 ≤ v ∧ v ≤ 8) ∧ e = .returned (.tuple #[.pointer none, iv 0, iv 7])) ∨
  (openE h l = 0 ∧ openPre h l = 0 ∧ Feas h l ∧ 1 ≤ v ∧ v ≤ 8 ∧ ∃ N, IsTree h l N ∧ ((h.ps.length * 100000 < lightW h N v.toNat ∧ e = .returned (.tuple #[.pointer none, iv 0, iv 9])) ∨
   (lightW h N v.toNat ≤ h.ps.length * 100000 ∧ ∃ g bs br km BD, e = .returned (.tuple #[ptr g, nv (lightW h N v.toNat), iv 0]) ∧ DeckHere w w' h A cap J capJ N g bs br km BD))))
theorem count_any (h : Hul) (A J : Option Addr) (B cap capJ : Nat) (AL : Option Addr) (l : List Wgh) (capL : Nat) (v : Int) (w : World) (hH : HulRd w B h A cap J capJ) (hL : RdN 3 encWgh w B AL l) (hlc : l.length ≤ capL) (hB : B ≤ w.heap.size) :
  Calls Tryz.prog 80 #[hv h A cap J capJ, .slice AL l.length capL, iv v] w (CountPost h A cap J capJ l v w) := by
 obtain ⟨W1, hW1, hb0, hz1, p0, p1, p2, p3, p4⟩ := hulBox w h A cap J capJ
 have hop := open_any h A J B cap capJ AL l capL W1 (hH.below hb0 hB) (hL.below hb0 hB) hlc (Nat.le_trans hB hb0.size)
 have HOP := Lq hop
 have HB0 := Lq hb0
 have hz1 : w.heap.size ≤ W1.heap.size := hb0.size
 clear hop hb0 hH hL
 go_enter Tryz.func80, Tryz.ntmps80
 go_wp2_with fail
 refine HOP.out.mono ?_
 intro e w1 hpost
 obtain ⟨hb1, hpost⟩ := openPost_cases hpost
 have HB1 := Lq (belowT HB0.out hb1)
 have hz2 := hb1.size
 clear hb1 HOP hW1 HB0 p0 p1 p2 p3 p4
 rcases hpost with ⟨hne, rfl⟩ | ⟨h0, hp, hf, N, g, bs, br, km, BD, hN, rfl, HD⟩
 ·obtain ⟨E, hE⟩ := ex (openE h l)
  have HE := Lq hE
  rw [hE] at hne ⊢
  have hcb : (E == 0) = false := by simpa using hne
  clear hE
  go_wp2_with fail
  go_ret3
  exact ⟨HB1.out, .inl ⟨by rw [HE.out]; exact hne, by rw [HE.out]; rfl⟩⟩
 ·have hk := hulOk (openPre_zero hp).1
  have hn8 := hk.n8
  have hT := treeOk_isTree hp hN
  have HFC : Hid (∀ e w', BW w w' → ((¬ (1 ≤ v ∧ v ≤ 8) ∧ e = .returned (.tuple #[.pointer none, iv 0, iv 7])) ∨ (1 ≤ v ∧ v ≤ 8 ∧ ((h.ps.length * 100000 < lightW h N v.toNat ∧ e = .returned (.tuple #[.pointer none, iv 0, iv 9])) ∨
   (lightW h N v.toNat ≤ h.ps.length * 100000 ∧ e = .returned (.tuple #[ptr g, nv (lightW h N v.toNat), iv 0]) ∧ DeckHere w w' h A cap J capJ N g bs br km BD)))) → CountPost h A cap J capJ l v w e w') := Lq fun e w' a b => ⟨a, .inr (b.elim (fun b => .inl ⟨h0, b⟩) (fun b => .inr ⟨h0, hp, hf, b.1, b.2.1, N, hN, b.2.2.elim .inl (fun c => .inr ⟨c.1, g, bs, br, km, BD, c.2⟩)⟩))⟩
  have HD0 := Lq HD
  have hg0 := HD.g0
  have hk0 := HD.k0
  have c0 := HD.st.c0
  clear HD hf h0 hp hN
  obtain ⟨q, hq⟩ := ex (inB 1 8 v)
  go_wp2_with (refine HD0.out ?_)
  refine (out_oneB hq _ _ (by go_simp)).mono ?_
  rintro e w2 ⟨rfl, hb2⟩
  have hb2 := belowT (belowA (belowR w1) _) hb2
  have HB2 := Lq (belowT HB1.out hb2)
  have HD2 := Lq (HD0.out.below hb2)
  clear hb2 c0
  cases q
  ·have HV : Hid (¬ (1 ≤ v ∧ v ≤ 8)) := Lq (by simpa [inB] using hq)
   clear hq
   go_wp2_with fail
   go_ret3
   exact HFC.out _ _ HB2.out (.inl ⟨HV.out, rfl⟩)
  ·have HV : Hid (1 ≤ v ∧ v ≤ 8) := Lq (by simpa [inB] using hq)
   clear hq
   obtain ⟨b, rfl⟩ : ∃ b : Nat, v = b := ⟨v.toNat, by have := HV.out; omega⟩
   have hli := lightest_any HD2.out.st hk hT HD2.out.kn b (by have := HV.out; omega)
   have c0 := HD2.out.st.c0
   have hle := lightW_le h N b
   obtain ⟨M, hM⟩ := ex (h.ps.length * 100000)
   have hMi : (h.ps.length : Int) * 100000 = (M : Int) := by omega
   have hMw : IntKind.i64.wrap ((h.ps.length : Int) * 100000) = (M : Int) := by rw [hMi]; exact wrap62 _ (by omega) (by omega)
   obtain ⟨R, hR⟩ := ex (lightW h N b)
   have HFC2 := HFC.out
   rw [Int.toNat_natCast, hR, hM] at HFC2
   rw [hM] at hle
   rw [hR, hM] at hli
   rw [hR] at hle
   have HFC := Lq HFC2
   have HLI := Lq hli
   have hR2 : (R : Int) ≤ 800001 := by omega
   clear HFC2 hli hM hR hT hk HD0
   go_wp2_with (refine HD2.out ?_)
   refine HLI.out.mono ?_
   rintro e w3 ⟨rfl, ho3, hk3⟩
   have HD3 : Hid (DeckHere w w3 h A cap J capJ N g bs br km BD) := Lq (by
    have hd := HD2.out.only ho3 hk3
    exact ⟨Nat.le_trans hz1 hd.g0, Nat.le_trans hz1 hd.k0, hd.st, hd.kn, hd.fz⟩)
   have HB3 : Hid (BW w w3) := Lq (ho3.below HB2.out (by omega))
   clear ho3 hk3 HLI c0
   by_cases hRM : R ≤ M
   ·have hd : decide (R ≤ M) = true := by simpa using hRM
    rw [hd]
    go_wp2_with fail
    go_ret3
    exact HFC.out _ _ HB3.out (.inr ⟨HV.out.1, HV.out.2, .inr ⟨hRM, rfl, HD3.out⟩⟩)
   ·have hd : decide (R ≤ M) = false := by simpa using hRM
    rw [hd]
    go_wp2_with fail
    go_ret3
    exact HFC.out _ _ HB3.out (.inr ⟨HV.out.1, HV.out.2, .inl ⟨by omega, rfl⟩⟩)
def CountOne (F : Nat → Int × Int) (h : Hul) (l : List Wgh) (v : Int) (w : World) (e : Ending) (w' : World) : Prop :=
 BW w w' ∧ ((openE h l ≠ 0 ∧ e = .returned (.tuple #[iv 0, iv (openE h l)])) ∨ (openE h l = 0 ∧ ¬ (1 ≤ v ∧ v ≤ 8) ∧ e = .returned (.tuple #[iv 0, iv 7])) ∨
  (openE h l = 0 ∧ openPre h l = 0 ∧ Feas h l ∧ 1 ≤ v ∧ v ≤ 8 ∧ ∃ N, IsTree h l N ∧ ((h.ps.length * 100000 < lightW h N v.toNat ∧ e = .returned (.tuple #[iv 0, iv 9])) ∨
   (lightW h N v.toNat ≤ h.ps.length * 100000 ∧ e = .returned (.tuple #[iv (F (lightW h N v.toNat)).1, iv (F (lightW h N v.toNat)).2])))))
def winchOf (h : Hul) (L : Nat) : Int × Int := (max 1 (upD (L * h.shi) 1000), 0)
def sandOf (h : Hul) (L : Nat) : Int × Int := if 1000 * h.winch < L then (0, 9) else if L = 0 then (2000, 0) else (min 2000 ((1000 * h.winch).tdiv L), 0)
theorem winch_any (h : Hul) (A J : Option Addr) (B cap capJ : Nat) (AL : Option Addr) (l : List Wgh) (capL : Nat) (v : Int) (w : World) (hH : HulRd w B h A cap J capJ) (hL : RdN 3 encWgh w B AL l) (hlc : l.length ≤ capL) (hB : B ≤ w.heap.size) :
  Calls Tryz.prog 37 #[hv h A cap J capJ, .slice AL l.length capL, iv v] w (CountOne (winchOf h) h l v w) := by
 obtain ⟨W1, hW1, hb0, hz1, p0, p1, p2, p3, p4⟩ := hulBox w h A cap J capJ
 have hop := count_any h A J B cap capJ AL l capL v W1 (hH.below hb0 hB) (hL.below hb0 hB) hlc (Nat.le_trans hB hb0.size)
 have HOP := Lq hop
 have HB0 := Lq hb0
 have hz1 : w.heap.size ≤ W1.heap.size := hb0.size
 clear hop hb0 hH hL
 go_enter Tryz.func37, Tryz.ntmps37
 go_wp2_with fail
 refine HOP.out.mono ?_
 intro e w1 hpost
 obtain ⟨hb1, hpost⟩ := hpost
 have HB1 := Lq (belowT HB0.out hb1)
 have hz2 := hb1.size
 clear hb1 HOP hW1 HB0 p0 p1 p2 p3 p4
 rcases hpost with ⟨hne, rfl⟩ | ⟨h0, hv8, rfl⟩ | ⟨h0, hp, hf, h1, h8, N, hN, hpost⟩
 ·obtain ⟨E, hE⟩ := ex (openE h l)
  have HE := Lq hE
  rw [hE] at hne ⊢
  have hcb : (E == 0) = false := by simpa using hne
  clear hE
  go_wp2_with fail
  go_ret2
  exact ⟨HB1.out, .inl ⟨by rw [HE.out]; exact hne, by rw [HE.out]; rfl⟩⟩
 ·have H0 := Lq (And.intro h0 hv8)
  clear h0 hv8
  go_wp2_with fail
  go_ret2
  exact ⟨HB1.out, .inr (.inl ⟨H0.out.1, H0.out.2, rfl⟩)⟩
 ·have hk := hulOk (openPre_zero hp).1
  have hn8 := hk.n8
  have hle := lightW_le h N v.toNat
  have HFC : Hid (∀ e w', BW w w' → ((h.ps.length * 100000 < lightW h N v.toNat ∧ e = .returned (.tuple #[iv 0, iv 9])) ∨
   (lightW h N v.toNat ≤ h.ps.length * 100000 ∧ e = .returned (.tuple #[iv (winchOf h (lightW h N v.toNat)).1, iv (winchOf h (lightW h N v.toNat)).2]))) → CountOne (winchOf h) h l v w e w') := Lq fun e w' a b => ⟨a, .inr (.inr ⟨h0, hp, hf, h1, h8, N, hN, b⟩)⟩
  obtain ⟨R, hR⟩ := ex (lightW h N v.toNat)
  rw [hR] at hpost hle HFC
  clear hf h0 hp hN hR h1 h8
  rcases hpost with ⟨hlt, rfl⟩ | ⟨hle2, g, bs, br, km, BD, rfl, HD⟩
  ·go_wp2_with fail
   go_ret2
   exact HFC.out _ _ HB1.out (.inl ⟨hlt, rfl⟩)
  ·have c3 := HD.st.c3
   have hy1 : 0 ≤ (R : Int) * h.shi := Int.mul_nonneg (by omega) (by have := hk.s1; have := hk.s2; omega)
   have hy2 : (R : Int) * h.shi ≤ 800001 * 2000 := Int.mul_le_mul (by omega) hk.s3 (by have := hk.s1; have := hk.s2; omega) (by omega)
   have hup := fun W => upDiv_any (w := W) ((R : Int) * h.shi) 1000 hy1 (by omega) (by decide) (by decide)
   have hw2 : IntKind.i64.wrap ((R : Int) * h.shi) = (R : Int) * h.shi := wrap62 _ hy1 (by omega)
   have HUP := Lq hup
   have HWV : Hid (winchOf h R = (max 1 (((R : Int) * h.shi + 1000 - 1).tdiv 1000), 0)) := Lq rfl
   clear HD hup
   go_wp2_with (refine HUP.out ?_)
   refine (HUP.out w1).mono ?_
   rintro e w2 ⟨rfl, hb2⟩
   have HB2 := Lq (belowT HB1.out hb2)
   clear hb2 HUP c3
   go_wp2_with fail
   go_ret2
   exact HFC.out _ _ HB2.out (.inr ⟨hle2, by rw [HWV.out]; rfl⟩)
theorem sand_any (h : Hul) (A J : Option Addr) (B cap capJ : Nat) (AL : Option Addr) (l : List Wgh) (capL : Nat) (v : Int) (w : World) (hH : HulRd w B h A cap J capJ) (hL : RdN 3 encWgh w B AL l) (hlc : l.length ≤ capL) (hB : B ≤ w.heap.size) :
  Calls Tryz.prog 38 #[hv h A cap J capJ, .slice AL l.length capL, iv v] w (CountOne (sandOf h) h l v w) := by
 obtain ⟨W1, hW1, hb0, hz1, p0, p1, p2, p3, p4⟩ := hulBox w h A cap J capJ
 have hop := count_any h A J B cap capJ AL l capL v W1 (hH.below hb0 hB) (hL.below hb0 hB) hlc (Nat.le_trans hB hb0.size)
 have HOP := Lq hop
 have HB0 := Lq hb0
 have hz1 : w.heap.size ≤ W1.heap.size := hb0.size
 clear hop hb0 hH hL
 go_enter Tryz.func38, Tryz.ntmps38
 go_wp2_with fail
 refine HOP.out.mono ?_
 intro e w1 hpost
 obtain ⟨hb1, hpost⟩ := hpost
 have HB1 := Lq (belowT HB0.out hb1)
 have hz2 := hb1.size
 clear hb1 HOP hW1 HB0 p0 p1 p2 p3 p4
 rcases hpost with ⟨hne, rfl⟩ | ⟨h0, hv8, rfl⟩ | ⟨h0, hp, hf, h1, h8, N, hN, hpost⟩
 ·obtain ⟨E, hE⟩ := ex (openE h l)
  have HE := Lq hE
  rw [hE] at hne ⊢
  have hcb : (E == 0) = false := by simpa using hne
  clear hE
  go_wp2_with fail
  go_ret2
  exact ⟨HB1.out, .inl ⟨by rw [HE.out]; exact hne, by rw [HE.out]; rfl⟩⟩
 ·have H0 := Lq (And.intro h0 hv8)
  clear h0 hv8
  go_wp2_with fail
  go_ret2
  exact ⟨HB1.out, .inr (.inl ⟨H0.out.1, H0.out.2, rfl⟩)⟩
 ·have hk := hulOk (openPre_zero hp).1
  have hn8 := hk.n8
  have hle := lightW_le h N v.toNat
  have HFC : Hid (∀ e w', BW w w' → ((h.ps.length * 100000 < lightW h N v.toNat ∧ e = .returned (.tuple #[iv 0, iv 9])) ∨
   (lightW h N v.toNat ≤ h.ps.length * 100000 ∧ e = .returned (.tuple #[iv (sandOf h (lightW h N v.toNat)).1, iv (sandOf h (lightW h N v.toNat)).2]))) → CountOne (sandOf h) h l v w e w') := Lq fun e w' a b => ⟨a, .inr (.inr ⟨h0, hp, hf, h1, h8, N, hN, b⟩)⟩
  obtain ⟨R, hR⟩ := ex (lightW h N v.toNat)
  rw [hR] at hpost hle HFC
  clear hf h0 hp hN hR h1 h8
  rcases hpost with ⟨hlt, rfl⟩ | ⟨hle2, g, bs, br, km, BD, rfl, HD⟩
  ·go_wp2_with fail
   go_ret2
   exact HFC.out _ _ HB1.out (.inl ⟨hlt, rfl⟩)
  ·have c4 := HD.st.c4
   have := hk.w1
   have := hk.w2
   have hw2 : IntKind.i64.wrap (1000 * h.winch) = 1000 * h.winch := wrap62 _ (by omega) (by omega)
   have hq0 : 0 ≤ (1000 * h.winch).tdiv (R : Int) := Int.tdiv_nonneg (by omega) (by omega)
   have hq1 : (1000 * h.winch).tdiv (R : Int) ≤ 1000 * h.winch := by rw [Int.tdiv_eq_ediv_of_nonneg (by omega)]; exact Int.ediv_le_self _ (by omega)
   have hw3 : IntKind.i64.wrap ((1000 * h.winch).tdiv (R : Int)) = (1000 * h.winch).tdiv (R : Int) := wrap62 _ hq0 (by omega)
   by_cases hgt : 1000 * h.winch < (R : Int)
   ·have HWV : Hid (sandOf h R = (0, 9)) := Lq (by unfold sandOf; rw [if_pos hgt])
    clear HD
    go_wp2_with (refine c4 ?_)
    go_ret2
    exact HFC.out _ _ HB1.out (.inr ⟨hle2, by rw [HWV.out]; rfl⟩)
   ·by_cases hR0 : R = 0
    ·subst hR0
     have HWV : Hid (sandOf h 0 = (2000, 0)) := Lq (by unfold sandOf; rw [if_neg hgt, if_pos rfl])
     clear HD
     go_wp2_with (refine c4 ?_)
     go_ret2
     exact HFC.out _ _ HB1.out (.inr ⟨hle2, by rw [HWV.out]; rfl⟩)
    ·have HWV : Hid (sandOf h R = (min 2000 ((1000 * h.winch).tdiv R), 0)) := Lq (by unfold sandOf; rw [if_neg hgt, if_neg hR0])
     have hRz : (R : Int) ≠ 0 := by omega
     have hRb : ((R : Int) == 0) = false := by simpa using hR0
     clear HD
     go_wp2_with (refine c4 ?_)
     go_ret2
     exact HFC.out _ _ HB1.out (.inr ⟨hle2, by rw [HWV.out]; rfl⟩)
attribute [local go_sem] Oper.semAt_some
structure PartsAt (w : World) (q : Nat) (ps : List Prt) : Prop where
 rd : RdN 3 encPrt w (q + 1) (some ⟨q, 0, none⟩) ps
 fz : ∀ o, w.frozen? ⟨q, o, none⟩ = false
 lt : q < w.heap.size
theorem PartsAt.below {w w' : World} {q : Nat} {ps : List Prt} (h : PartsAt w q ps) (hb : BW w w') : PartsAt w' q ps :=
 ⟨h.rd.below hb h.lt, fun o => (hb.frozen (p := ⟨q, o, none⟩) h.lt).trans (h.fz o), Nat.lt_of_lt_of_le h.lt hb.size⟩
theorem PartsAt.cells {w : World} {q : Nat} {ps : List Prt} (h : PartsAt w q ps) {i : Nat} {p : Prt} (hp : ps[i]? = some p) :
  w.cell? ⟨q, i * 3, none⟩ = some (.string p.name) ∧ w.cell? ⟨q, i * 3 + 1, none⟩ = some (iv p.lo) ∧ w.cell? ⟨q, i * 3 + 2, none⟩ = some (iv p.hi) := by
 obtain ⟨b, off, e, _, c0, c1, c2⟩ := prtAt h.rd hp
 injection e with e
 injection e with e1 e2
 subst e1 e2
 simp only [Nat.zero_add] at c0 c1 c2
 exact ⟨c0, c1, c2⟩
theorem PartsAt.of {w : World} {q : Nat} {ps : List Prt} (hc : ∀ i p, ps[i]? = some p → w.cell? ⟨q, i * 3, none⟩ = some (.string p.name) ∧ w.cell? ⟨q, i * 3 + 1, none⟩ = some (iv p.lo) ∧ w.cell? ⟨q, i * 3 + 2, none⟩ = some (iv p.hi)) (hf : ∀ o, w.frozen? ⟨q, o, none⟩ = false) (hl : q < w.heap.size) : PartsAt w q ps := by
 refine ⟨fun i p hp => ⟨q, 0, rfl, by omega, fun j u hu => ?_⟩, hf, hl⟩
 obtain ⟨c0, c1, c2⟩ := hc i p hp
 simp only [Nat.zero_add]
 match j, hu with
 | 0, hu => simp only [encPrt, List.getElem?_cons_zero, Option.some.injEq] at hu; rw [← hu]; exact c0
 | 1, hu => simp only [encPrt, List.getElem?_cons_succ, List.getElem?_cons_zero, Option.some.injEq] at hu; rw [← hu]; exact c1
 | 2, hu => simp only [encPrt, List.getElem?_cons_succ, List.getElem?_cons_zero, Option.some.injEq] at hu; rw [← hu]; exact c2
 | j + 3, hu => simp [encPrt] at hu
theorem cell_far {w : World} {q o o' : Nat} {u : Value} (h : o ≠ o') : (w.setCell ⟨q, o', none⟩ u).cell? ⟨q, o, none⟩ = w.cell? ⟨q, o, none⟩ := by
 go_simp
theorem PartsAt.setLo {w : World} {q : Nat} {ps : List Prt} (h : PartsAt w q ps) {i : Nat} {p : Prt} (hp : ps[i]? = some p) (v : Int) : PartsAt (w.setCell ⟨q, i * 3 + 1, none⟩ (iv v)) q (ps.set i ⟨p.name, v, p.hi⟩) := by
 have hlt := (List.getElem?_eq_some_iff.1 hp).1
 refine .of (fun j r hr => ?_) (fun o => by have := h.fz o; go_simp) (by have := h.lt; simpa using this)
 by_cases hij : i = j
 ·subst hij
  rw [List.getElem?_set_self hlt] at hr
  injection hr with hr
  subst hr
  obtain ⟨c0, c1, c2⟩ := h.cells hp
  exact ⟨(cell_far (by omega)).trans c0, by go_simp, (cell_far (by omega)).trans c2⟩
 ·rw [List.getElem?_set_ne hij] at hr
  obtain ⟨c0, c1, c2⟩ := h.cells hr
  exact ⟨(cell_far (by omega)).trans c0, (cell_far (by omega)).trans c1, (cell_far (by omega)).trans c2⟩
theorem PartsAt.setHi {w : World} {q : Nat} {ps : List Prt} (h : PartsAt w q ps) {i : Nat} {p : Prt} (hp : ps[i]? = some p) (v : Int) : PartsAt (w.setCell ⟨q, i * 3 + 2, none⟩ (iv v)) q (ps.set i ⟨p.name, p.lo, v⟩) := by
 have hlt := (List.getElem?_eq_some_iff.1 hp).1
 refine .of (fun j r hr => ?_) (fun o => by have := h.fz o; go_simp) (by have := h.lt; simpa using this)
 by_cases hij : i = j
 ·subst hij
  rw [List.getElem?_set_self hlt] at hr
  injection hr with hr
  subst hr
  obtain ⟨c0, c1, c2⟩ := h.cells hp
  exact ⟨(cell_far (by omega)).trans c0, (cell_far (by omega)).trans c1, by go_simp⟩
 ·rw [List.getElem?_set_ne hij] at hr
  obtain ⟨c0, c1, c2⟩ := h.cells hr
  exact ⟨(cell_far (by omega)).trans c0, (cell_far (by omega)).trans c1, (cell_far (by omega)).trans c2⟩
theorem flat_at : ∀ (ps : List Prt) (i : Nat) (p : Prt), ps[i]? = some p → ∀ j, j < 3 → (ps.flatMap encPrt)[i * 3 + j]? = (encPrt p)[j]?
 | [], i, p, hp, j, hj => by simp at hp
 | a :: l, 0, p, hp, j, hj => by
  simp only [List.getElem?_cons_zero, Option.some.injEq] at hp
  subst hp
  rw [List.flatMap_cons, List.getElem?_append_left (by simp [encPrt]; omega), Nat.zero_mul, Nat.zero_add]
 | a :: l, i + 1, p, hp, j, hj => by
  simp only [List.getElem?_cons_succ] at hp
  rw [List.flatMap_cons, List.getElem?_append_right (by simp [encPrt]; omega), ← flat_at l i p hp j hj]
  congr 1
  simp [encPrt]
  omega
theorem PartsAt.own {w : World} {base : Nat} {v : Value} {ps : List Prt} (h : w.ownsRow base 44 3 v ps.length (ps.flatMap encPrt)) (hn : 0 < ps.length) : ∃ q cap, v = .slice (some ⟨q, 0, none⟩) ps.length cap ∧ base ≤ q ∧ ps.length ≤ cap ∧ PartsAt w q ps := by
 obtain ⟨q, cap, e, h1, h2, h3⟩ := own_form h hn
 subst e
 refine ⟨q, cap, rfl, h1, h3, .of (fun i p hp => ?_) (fun o => h.frozenAt o) h2⟩
 have hi := (List.getElem?_eq_some_iff.1 hp).1
 have f0 := flat_at ps i p hp 0 (by omega)
 have f1 := flat_at ps i p hp 1 (by omega)
 have f2 := flat_at ps i p hp 2 (by omega)
 rw [Nat.add_zero] at f0
 exact ⟨(h.cellAt _ (by omega)).trans f0, (h.cellAt _ (by omega)).trans f1, (h.cellAt _ (by omega)).trans f2⟩
structure LimE (X : World) (BD g q cap : Nat) (n : Nat) (N : List Nd) (bs : List Nat) (br s : Nat) (most : Int) (f8 f5 f9 : Nat) : Prop where
 root : bs[N.length - 1]? = some br
 tab : TabAt X BD N bs
 c0 : X.cell? ⟨g, 0, none⟩ = some (.slice (some ⟨q, 0, none⟩) n cap)
 c5 : X.cell? ⟨g, 5, none⟩ = some (ptr br)
 gB : g < BD
 qB : BD ≤ q
 e8 : X.cell? ⟨f8, 0, none⟩ = some (ptr g)
 e5 : X.cell? ⟨f5, 0, none⟩ = some (nv s)
 e9 : X.cell? ⟨f9, 0, none⟩ = some (iv most)
 n8 : f8 ≠ q
 n5 : f5 ≠ q
 n9 : f9 ≠ q
theorem LimE.only {X Y : World} {BD g q cap : Nat} {n : Nat} {N : List Nd} {bs : List Nat} {br s : Nat} {most : Int} {f8 f5 f9 : Nat} (h : LimE X BD g q cap n N bs br s most f8 f5 f9) (ho : OnlyAt X Y q) : LimE Y BD g q cap n N bs br s most f8 f5 f9 :=
 ⟨h.root, h.tab.only ho h.qB, ho.cell h.c0 (by have := h.gB; have := h.qB; omega), ho.cell h.c5 (by have := h.gB; have := h.qB; omega), h.gB, h.qB, ho.cell h.e8 h.n8, ho.cell h.e5 h.n5, ho.cell h.e9 h.n9, h.n8, h.n5, h.n9⟩
theorem TabAt.more {w : World} {B B' : Nat} {N : List Nd} {bs : List Nat} (h : TabAt w B N bs) (hB : B ≤ B') : TabAt w B' N bs := by
 intro i nd hi
 obtain ⟨b, h1, h2, c0, c1, c2, c3, A, cap, c4, hk⟩ := h i nd hi
 refine ⟨b, h1, by omega, c0, c1, c2, c3, A, cap, c4, fun k j hkj => ?_⟩
 obtain ⟨bb, off, bj, e, hb, hj, hc⟩ := hk k j hkj
 exact ⟨bb, off, bj, e, by omega, hj, hc⟩
def moreF (N : List Nd) (s : Nat) (most : Int) (ps : List Prt) : Bool := (wgh ps N s).2 && decide ((wgh ps N s).1.shi = most)
theorem more_any {X : World} {BD g q cap : Nat} {N : List Nd} {bs : List Nat} {br s : Nat} {most : Int} {f8 f5 f9 : Nat} {ps : List Prt} (E : LimE X BD g q cap ps.length N bs br s most f8 f5 f9) (hq : PartsAt X q ps) {i : Nat} {p : Prt} (hp : ps[i]? = some p) (k : Nat) (hk : p.lo + k ≤ 100000) (hl : 0 ≤ p.lo)
  (hT : TreeOk (ps.set i ⟨p.name, p.lo, p.lo + k⟩) N) (hs : s < 256) (f11 f12 : Nat) (h11 : X.cell? ⟨f11, 1, none⟩ = some (iv p.lo)) (h12 : X.cell? ⟨f12, 0, none⟩ = some (pT q (i * 3 + 1))) :
  Calls Tryz.prog 73 #[nv k, ptr f11, ptr f12, ptr f8, ptr f5, ptr f9] X fun e w' => e = .returned (.bool (moreF N s most (ps.set i ⟨p.name, p.lo, p.lo + k⟩))) ∧ OnlyAt X w' q ∧ PartsAt w' q (ps.set i ⟨p.name, p.lo, p.lo + k⟩) := by
 obtain ⟨d0, d1, d2⟩ := hq.cells hp
 have df := hq.fz (i * 3 + 2)
 obtain ⟨X1, hX1⟩ := ex (X.setCell ⟨q, i * 3 + 2, none⟩ (iv (p.lo + k)))
 have hq1 : PartsAt X1 q (ps.set i ⟨p.name, p.lo, p.lo + k⟩) := by rw [← hX1]; exact hq.setHi hp _
 have ho1 : OnlyAt X X1 q := by rw [← hX1]; exact ⟨rfl, rfl, rfl, by simp, fun k _ hne => Below.heap_setCell _ _ _ _ hne⟩
 have E1 := E.only ho1
 have hw := weigh_any (q + 1) g (some ⟨q, 0, none⟩) cap _ s N bs br X1 hT hs E1.root (E1.tab.more (by have := E.qB; omega)) (by rw [List.length_set]; exact E1.c0) E1.c5 hq1.rd (by have := E.gB; have := E.qB; omega) hq1.lt
 obtain ⟨ps', hps⟩ : ∃ ps', ps.set i ⟨p.name, p.lo, p.lo + k⟩ = ps' := ⟨_, rfl⟩
 rw [hps] at hw hq1 ⊢
 obtain ⟨m, hm⟩ := ex ((wgh ps' N s).1)
 obtain ⟨v, hv⟩ := ex ((wgh ps' N s).2)
 have hmf : moreF N s most ps' = (v && decide (m.shi = most)) := by unfold moreF; rw [hm, hv]
 rw [hm, hv] at hw
 rw [hmf]
 obtain ⟨ma, mb, mc, md⟩ := m
 simp only
 have x8 := E.e8; have x5 := E.e5; have x9 := E.e9
 have y8 := E1.e8; have y5 := E1.e5; have y9 := E1.e9
 have n8 := E.n8; have n5 := E.n5; have n9 := E.n9
 have HW := Lq hw
 have HO1 := Lq ho1
 have HQ1 := Lq hq1
 have hww : IntKind.i64.wrap (p.lo + (k : Int)) = p.lo + (k : Int) := wrap62 _ (by omega) (by omega)
 clear hw ho1 hq1 hmf hm hv hps hT hq E E1
 go_enter Tryz.func73, Tryz.ntmps73
 go_wp2_with (refine HW.out ?_)
 refine HW.out.mono ?_
 rintro e w2 ⟨rfl, hb2⟩
 have HB2 := Lq hb2
 have z9 := keepC hb2 y9
 have l9 := lt_of_cell z9
 have z9a : (w2.alloc (.cells #[Value.int IntKind.i64 ma, Value.int IntKind.i64 mb, Value.int IntKind.i64 mc, Value.int IntKind.i64 md] 150)).cell? ⟨f9, 0, none⟩ = some (iv most) := keepA z9 _
 have HR : Hid (∀ W, BW X1 W → OnlyAt X W q ∧ PartsAt W q ps') := Lq fun W hb => ⟨HO1.out.trans (OnlyAt.of_below hb q), HQ1.out.below hb⟩
 clear hb2 HW HQ1 HO1 hX1
 cases v
 ·go_wp2_with fail
  go_ret
  exact ⟨rfl, HR.out _ (belowA HB2.out _)⟩
 ·by_cases hmm : md = most
  ·subst hmm
   go_wp2_with fail
   go_ret
   exact ⟨by simp, HR.out _ (belowA HB2.out _)⟩
  ·have hmb : (md == most) = false := by simpa using hmm
   go_wp2_with fail
   go_ret
   exact ⟨by simp [hmm], HR.out _ (belowA HB2.out _)⟩
end Go.Proofs.YtmhjhbchokbonaaGreat
