/- (block.task).can: whether no block of some cut has to be heavier than so much. .. -/
import Derived.Test.YtigcophcpboanaaGreatDoorM7
set_option maxRecDepth 1000000
set_option maxHeartbeats 0
namespace Go.Proofs.YtigcophcpboanaaGreatDoor
open Go.RowKit Go.Shelf
section
variable{v:Bool}{f4 km:Nat}{W W' W0 w:World}
attribute [local go_sem] Oper.semAt_some
section
variable {w:World} {B g:Nat} {h:Hul} {A:Option Addr} {cap:Nat} {J:Option Addr} {capJ:Nat} {N:List Nd} {bs:List Nat} {br km:Nat}
def HeavyPost(v:Bool)(km:Nat)(f:Nat→Int)(w:World)(e:Ending)(w':World):Prop:=e=.returned (.bool v)∧OnlyAt w w' km∧KnownAt w' km f
theorem heavy_any(H:DeckSt w B g h A cap J capJ N bs br km)(hT:TreeOk h.ps N)(hK:KnownAt w km (mostV h N))(set tb wb:Nat)(wt:Int)(hs:set<256)(ht:w.cell? ⟨tb,0,none⟩=some (ptr g))(hw:w.cell? ⟨wb,0,none⟩=some (iv wt))(htk:tb≠km)(hwk:wb≠km) :
  Cs 158 #[iv set,ptr tb,ptr wb] w (HeavyPost (decide (wt<mostV h N set)) km (mostV h N) w):=by
 have hd:OnlyAt w w.drew km:=(OnlyAt.refl w km).drew;have hm:=most_any (H.only hd (.inl rfl)) hT hK.drew set hs;have HM:=Lq hm;have HC:Hid (∀W,OnlyAt w W km→W.cell? ⟨tb,0,none⟩=some (ptr g)∧W.cell? ⟨wb,0,none⟩=some (iv wt)):=Lq fun W ho=>⟨ho.cell ht htk,ho.cell hw hwk⟩
 have HD:=Lq hd;obtain⟨M,hM⟩:=ex (mostV h N set);rw[hM]at HM ⊢;clear hm hM;obtain⟨F,hF⟩:=ex (mostV h N);rw[hF]at HM ⊢;clear hF H hK hT;go_enter Tryz.func158,Tryz.ntmps158
 go_wp2
 go_region_held3 (fun W=>W.cell? ⟨tb,0,none⟩=some (ptr g)∧W.cell? ⟨wb,0,none⟩=some (iv wt)) (first | exact HC.out w.drew HD.out | exact HC.out w1 ho) (((go_at_call 58;refine HM.out.mono ?_;rintro e w1 ⟨rfl,ho1,hk1⟩;have ho:OnlyAt w w1 km:=HD.out.trans ho1)))
 go_wp2
 go_ret
 exact⟨rfl,ho,hk1⟩
end
def fitsCut(h:Hul)(N:List Nd)(wt:Int)(C:List Nat):Bool:=!anyToB (fun s=>decide (wt<mostV h N s)) (blkTo C h.ps.length) (manyTo C h.ps.length)
def canF(h:Hul)(N:List Nd)(b:Nat)(wt:Int):Bool:=(cutsL h.js h.ps.length b).any (fitsCut h N wt)
structure CanI(W0:World)(f4 km:Nat)(f:Nat→Int)(v:Bool)(W:World):Prop where
 os:W.os=W0.os
 tape:W.tape=W0.tape
 out:W.output=W0.output
 keep:KeepMB (fun k=>k=km∨k=f4) W0 W
 kn:KnownAt W km f
 b4:Blk W f4 4 #[.bool v]
theorem CanI.below{f:Nat→Int}(h:CanI W0 f4 km f v W)(hb:Below W0.heap.size W W')(h4:f4<W0.heap.size)(hk:km<W0.heap.size):CanI W0 f4 km f v W' :=
 ⟨hb.os.trans h.os,hb.tape.trans h.tape,hb.output.trans h.out,⟨lT h.keep.size hb.size,fun k hm hlt=>(hb.block k hlt).trans (h.keep.same k hm hlt)⟩,h.kn.same (hb.block _ hk),h.b4.same (hb.block _ h4)⟩
theorem CanI.only{f:Nat→Int}(h:CanI W0 f4 km f v W)(ho:OnlyAt W W' km)(hk:KnownAt W' km f)(h4:f4≠km):CanI W0 f4 km f v W' :=
 ⟨ho.os.trans h.os,ho.tape.trans h.tape,ho.output.trans h.out,h.keep.trans ⟨ho.size,fun k hk hlt=>ho.block k hlt (fun e=>hk (.inl e))⟩,hk,h.b4.same (ho.block _ h.b4.lt h4)⟩
theorem CanI.fin{f:Nat→Int}(h:CanI W0 f4 km f v W)(hb:BW w W0)(h4:w.heap.size≤f4)(h4':f4<W0.heap.size)(hk:km<w.heap.size)(o:Obj) :
  OnlyAt w (W.putObj W0.heap.size o) km∧KnownAt (W.putObj W0.heap.size o) km f∧(W.putObj W0.heap.size o).cell? ⟨f4,0,none⟩=some (.bool v):=by
 have hz:=hb.size;have hp:∀k,k<W0.heap.size→(W.putObj W0.heap.size o).heap[k]?=W.heap[k]?:=fun k hk=>World.putObj_heap_other (by omega)
 refine⟨⟨h.os.trans hb.os,h.tape.trans hb.tape,h.out.trans hb.output,by have:=h.keep.size;simp[World.putObj];omega,fun k hk hne=>(hp k (by omega)).trans ((h.keep.same k (by omega) (by omega)).trans (hb.block k hk))⟩,h.kn.same (hp km (by omega)), ?_⟩
 have hb4:Blk (W.putObj W0.heap.size o) f4 4 #[.bool v]:=h.b4.same (hp f4 h4');exact hb4.cell 0
theorem can_any{BD g:Nat}{h:Hul}{A:Option Addr}{cap:Nat}{J:Option Addr}{capJ:Nat}{N:List Nd}{bs:List Nat}{br:Nat}(H:DeckSt w BD g h A cap J capJ N bs br km)(hk:HulOk h)(hT:TreeOk h.ps N)(hK:KnownAt w km (mostV h N))(b:Nat)(wt:Int)(hb8:b≤8) :
  Cs 135 #[.agg #[ptr g,iv b],iv wt] w (HeavyPost (canF h N b wt) km (mostV h N) w):=by
 have hn8:=hk.n8;obtain⟨n,hn⟩:=ex h.ps.length;have hkm:=hK.lt;have hgS:g<w.heap.size:=lz H.gB H.hB;obtain⟨s0,hs0⟩:=ex w.heap.size;obtain⟨W3,hW3⟩:=ex (((w.alloc (.cells #[ptr g,nv b] 221)).alloc (.cells #[iv wt] 3)).alloc (.cells #[.bool false] 4));have hz3:W3.heap.size=s0+3:=by rw[←hW3,←hs0];simp
 have hb3:BW w W3:=by rw[←hW3];exact bA (bA (bA (bR _) _) _) _
 have b2:Blk W3 s0 221 #[ptr g,nv b]:=by rw[←hW3,←hs0];exact((Blk.new w 221 _).alloc _).alloc _
 have b3:Blk W3 (s0+1) 3 #[iv wt]:=by
  rw[←hW3,←hs0];have:=(Blk.new (w.alloc (.cells #[ptr g,nv b] 221)) 3 #[iv wt]).alloc (.cells #[.bool false] 4)
  rwa [World.size_alloc]at this
 have b4:Blk W3 (s0+2) 4 #[.bool false]:=by
  rw[←hW3,←hs0];have:=Blk.new ((w.alloc (.cells #[ptr g,nv b] 221)).alloc (.cells #[iv wt] 3)) 4 #[.bool false]
  rwa [World.size_alloc,World.size_alloc]at this
 obtain⟨f3,hf3⟩:=ex (s0+1);obtain⟨f4,hf4⟩:=ex (f3+1);have e4:s0+2=f4:=by omega
 rw[hf3]at b3;rw[e4]at b4;have hcu:=cuts_any g A n cap b W3 (by rw[←hn];exact kC hb3 H.c0)
 obtain⟨W0,hW0⟩:=ex (((W3.alloc (.cells #[ptr g] 113)).alloc (.cells #[nv b] 3)).alloc (.cells #[nv n] 3));obtain⟨db,hdb⟩:=ex W3.heap.size;have hz0:W0.heap.size=db+3:=by rw[←hW0,←hdb];simp
 have hb0:BW W3 W0:=by rw[←hW0];exact bA (bA (bA (bR _) _) _) _
 have d1:Blk W0 db 113 #[ptr g]:=by rw[←hW0,←hdb];exact((Blk.new W3 113 _).alloc _).alloc _
 have d2:Blk W0 (db+1) 3 #[nv b]:=by
  rw[←hW0,←hdb];have:=(Blk.new (W3.alloc (.cells #[ptr g] 113)) 3 #[nv b]).alloc (.cells #[nv n] 3)
  rwa [World.size_alloc]at this
 have d3:Blk W0 (db+2) 3 #[nv n]:=by
  rw[←hW0,←hdb];have:=Blk.new ((W3.alloc (.cells #[ptr g] 113)).alloc (.cells #[nv b] 3)) 3 #[nv n]
  rwa [World.size_alloc,World.size_alloc]at this
 have hbw:BW w W0:=bT hb3 hb0;have hds:=H.below hbw;have hkn:=hK.below hbw;have b2':=b2.same (hb0.block _ b2.lt);have b3':=b3.same (hb0.block _ b3.lt);have b4':=b4.same (hb0.block _ b4.lt);have hBD:=H.hB;obtain⟨B0,hB0a,hB0b,rp,rj⟩:=hds.rd;have r2:W3.cell? ⟨s0,0,none⟩=some (ptr g):=b2.cell 0;have r2b:W3.cell? ⟨s0,1,none⟩=some (nv b):=b2.cell 1;have HI0:Hid (CanI W0 f4 km (mostV h N) false W0):=Lq ⟨rfl,rfl,rfl,KeepMB.refl _ _,hkn,b4'⟩;have HCU:=Lq hcu;have HLOOP:Hid (Blk W0 (db+2) 3 #[nv n]∧Blk W0 db 113 #[ptr g]∧Blk W0 (db+1) 3 #[nv b]∧W0.cell? ⟨g,1,none⟩=some (.slice J h.js.length capJ)∧RdN 2 encSp W0 B0 J h.js):=Lq ⟨d3,d1,d2,hds.c1,rj⟩;have HDS:=Lq hds;have HBW:=Lq hbw;have HB2:Hid (Blk W0 s0 221 #[ptr g,nv b]∧Blk W0 f3 3 #[iv wt]):=Lq ⟨b2',b3'⟩;have hgk:=H.gk;have hz0':db+3≤W0.heap.size:=by omega
 have hord:km<s0∧g<s0∧s0<f3∧f3<f4∧f4<db∧BD≤s0∧w.heap.size≤s0:=by omega
 rw[hdb]at HCU;have HORD:=Lq hord;have HN:=Lq hn;clear hcu b2 b3 b4 hb3 hz3 hb0 d1 d2 d3 hbw hds hkn b2' b3' b4' rj rp e4 hz0 H hK hord;refine(callsIn_wide (n:=0)).1 ?_;refine callsIn_of_wp_marks Tryz.func135 rfl trivial ?_ rfl;simp only[Tryz.ntmps135,List.size_toArray,List.length_cons,List.length_nil,Nat.reduceAdd,Nat.reduceSub,Array.replicate_succ,Array.replicate_zero,List.push_toArray,List.append_toArray,List.nil_append,List.cons_append]
 gi_wp2_with fail
 refine⟨trivial,rfl,(callsIn_wide.2 HCU.out).mono ?_⟩;rintro e w5 ⟨rfl,rfl⟩;rw[hW0];clear hW3 hW0 HCU r2 r2b hdb
 gi_wp2_with fail
 obtain⟨o1,o2,o3,o4,o5,o6,o7⟩:=HORD.out;have hnn8:n≤8:=by omega
 have hn1:=hk.n1;refine rangeFunc_cuts 0 (fun k=>k=km∨k=f4) (db+2) db (db+1) g n b B0 capJ J h.js rfl HLOOP.out.1 HLOOP.out.2.1 HLOOP.out.2.2.1 HLOOP.out.2.2.2.1 HLOOP.out.2.2.2.2 (by omega) (fun k hk=>by omega) (by omega) (by omega) (by omega) (by omega) (fun k hk=>by omega) (by omega) hnn8 hb8 (by rw[←hn];exact hk.js) hk.j12
  (fun pre W=>CanI W0 f4 km (mostV h N) false W∧∀C∈pre,fitsCut h N wt C=false) (fun pre W=>CanI W0 f4 km (mostV h N) true W∧∃C∈pre,fitsCut h N wt C=true) ?_ ?_ ⟨HI0.out,by simp⟩ ?_ ?_ ?_
 ·exact fun s X Y hX hb=>⟨hX.1.below hb (by omega) (by omega),hX.2⟩
 ·exact fun s X Y hX hb=>⟨hX.1.below hb (by omega) (by omega),hX.2⟩
 ·intro m l2 pre C W hI hpre hsz;obtain⟨hcl,hc8⟩:=cutsL_mem hb8 hnn8 C (hpre.subset (List.mem_append_right pre (List.mem_singleton.2 rfl)));obtain⟨c0,c1,c2,c3,c4,c5,c6,c7,hce⟩:=eight hcl;have hcv2:cutV C=.agg #[nv c0,nv c1,nv c2,nv c3,nv c4,nv c5,nv c6,nv c7]:=by rw[hce];rfl
  rw[hcv2]
  gi_wp2
  refine⟨bA (bR _) _, ?_⟩;intro W2 hI2 hg2 hs2;obtain⟨hI2,hno⟩:=hI2;obtain⟨f11,hf11⟩:=ex W.heap.size;have b11:Blk W2 f11 169 (C.map nv).toArray:=by rw[←hf11,hce];exact(Blk.new W 169 #[nv c0,nv c1,nv c2,nv c3,nv c4,nv c5,nv c6,nv c7]).grown hg2 (fun e=>by injection e with e;omega)
  have hf11':W0.heap.size+2<f11:=by omega
  rw[hf11];have nM:∀k,k<W0.heap.size→k≠km→k≠f4→W2.heap[k]?=W0.heap[k]?:=fun k hk h1 h2=>hI2.keep.same k (by omega) hk
  have b2:=HB2.out.1.same (nM s0 (by omega) (by omega) (by omega))
  have b3:=HB2.out.2.same (nM f3 (by omega) (by omega) (by omega))
  have hds:=HDS.out.keepM hI2.keep.size (fun k hk hne=>nM k (by omega) hne (by omega))
  have hblk:=fun W=>blocks_any C n W hcl hc8 hnn8
  obtain⟨S,hS⟩:=ex (blkTo C n);obtain⟨K,hK⟩:=ex (manyTo C n);have hSl:S.length=8:=by rw[←hS];exact blkTo_len _ _
  have hS256:∀x∈S,x<256:=by rw[←hS];exact blkTo_lt _ _ hnn8
  have hK8:K≤8:=by rw[←hK];exact manyTo_le hc8 _
  have hft:fitsCut h N wt C=!anyToB (fun s=>decide (wt<mostV h N s)) S K:=by unfold fitsCut;rw[hn,hS,hK]
  obtain⟨s0',s1,s2,s3,s4,s5,s6,s7,hse⟩:=eight hSl;have hsv:cutV S=.agg #[nv s0',nv s1,nv s2,nv s3,nv s4,nv s5,nv s6,nv s7]:=by rw[hse];rfl
  unfold BlocksPost at hblk;rw[hcv2,hS,hK,hsv]at hblk;have hcl2:∀i x,C[i]?=some x→W2.cell? ⟨f11,i,none⟩=some (nv x):=fun i x hx=>b11.nat hx
  rw[hce]at hcl2;have rg:W2.cell? ⟨g,0,none⟩=some (.slice A n cap):=by have:=hds.c0;rw[hn]at this;exact this
  have rt:W2.cell? ⟨s0,0,none⟩=some (ptr g):=b2.cell 0;have HBLK:=Lq hblk;have HCL2:=Lq hcl2;have HRG:=Lq rg;have HRT:=Lq rt;have HI2:=Lq hI2;have HNO:=Lq hno;have HFT:=Lq hft;have HSE:=Lq hse;have HDS2:=Lq hds;have B3:=Lq b3;have B2:=Lq b2;have hz20:=hI2.keep.size;clear hblk hI2 hno hft hse hds b2 b3 b11 hS hK hsv hcv2 hce hcl2 nM hI hg2 hs2 hf11 hpre hsz rg rt W
  gi_wp2_with fail
  refine reg117_3 (HCL2.out 0 _ rfl) (HCL2.out 1 _ rfl) (HCL2.out 2 _ rfl) (HCL2.out 3 _ rfl) (HCL2.out 4 _ rfl) (HCL2.out 5 _ rfl) (HCL2.out 6 _ rfl) (HCL2.out 7 _ rfl) HRT.out HRG.out HBLK.out ?_;intro gg u14 u15 u16 u17 u18 u19 u20 u21 u22 u23 u24 u25 wx hgg hgl hbx hblk;have hI4:=HI2.out.below (hbx.mono hz20) (by omega) (by omega)
  have hds4:=HDS2.out.below hbx;have b2x:=B2.out.same (hbx.block _ B2.out.lt);have b3x:=B3.out.same (hbx.block _ B3.out.lt);have hblk':Blk wx gg 168 (S.map nv).toArray:=by rw[HSE.out];exact hblk
  have hkx:=hI4.kn.lt;have hsl:=fun W=>slice122 W gg K hK8
  have hzx:=hbx.size;have hco:=contains128_any (ptr s0) (ptr f3) (fun s=>decide (wt<mostV h N s)) (fun X=>OnlyAt wx X km∧KnownAt X km (mostV h N)) gg K S wx (by omega) (by omega) ⟨OnlyAt.refl wx km,hI4.kn⟩
   (fun W hW i x hx=>hW.1.cell (hblk'.nat hx) (by omega))
   (fun W x hW hx=>(heavy_any (hds4.only hW.1 (.inl rfl)) hT hW.2 x s0 f3 wt (hS256 x hx) (hW.1.cell (b2x.cell 0) (by omega)) (hW.1.cell (b3x.cell 0) (by omega)) (by omega) (by omega)).mono (fun e w' hp=>⟨hp.1,hW.1.trans hp.2.1,hp.2.2⟩))
  obtain⟨q,hq⟩:=ex (anyToB (fun s=>decide (wt<mostV h N s)) S K)
  rw[hq]at hco;have HFQ:Hid (fitsCut h N wt C=!q):=Lq (by rw[HFT.out,hq])
  have HCO:=Lq hco;have HI4:=Lq hI4;have HBX:=Lq hbx;clear hco hI4 hq hds4 b2x b3x hblk hblk' hbx HBLK HCL2 HRG HRT HDS2 HFT HSE
  gi_wp2_with fail
  refine⟨trivial,hdd _,(CallsIn.inRound l2 (callsIn_wide.2 HCO.out)).mono ?_⟩;rintro e w7 ⟨rfl,ho7,hk7⟩;have HI7:Hid (CanI W0 f4 km (mostV h N) false w7):=Lq (HI4.out.only ho7 hk7 (by omega))
  have HK7:Hid (KeepMB (fun k=>k=km∨k=f4) W2 w7):=Lq ((KeepMB.of_below HBX.out).trans (KeepMB.of_only ho7 (.inl rfl)))
  have r4:=HI7.out.b4.cell 0;have x4:=HI7.out.b4.frozen 0;clear ho7 hk7 HCO hsl;cases q
  ·gi_wp2_with fail
   exact⟨HK7.out.trans (KeepMB.set_ _ _ (.inr rfl)),⟨HI7.out.os,HI7.out.tape,HI7.out.out,HI7.out.keep.trans (KeepMB.set_ _ _ (.inr rfl)),HI7.out.kn.same (Below.heap_setCell _ _ _ _ (by simp only;omega)),by have:=HI7.out.b4.set_ 0 (.bool true);simpa using this⟩,C,by simp,HFQ.out⟩
  ·gi_wp2_with fail
   exact⟨HK7.out,HI7.out,fun D hD=>(List.mem_append.1 hD).elim (fun h=>HNO.out D h) (fun h=>by rw[List.mem_singleton.1 h];exact HFQ.out)⟩
 ·intro W hI hsz hD;obtain⟨hI,hall⟩:=hI;have hres:canF h N b wt=false:=by unfold canF;rw[HN.out,List.any_eq_false];intro C hC;simp[hall C hC]
  have HRES:=Lq hres;have y4:W.cell? ⟨f4,0,none⟩=some (.bool false):=hI.b4.cell 0;have x4:=hI.b4.frozen 0;have HI:=Lq hI;have HD:=Lq hD;have hz0:=hI.keep.size;clear hI hD hres hall HI0 HLOOP HDS HB2
  gi_wp2_with fail
  have HX:Hid (CanI W0 f4 km (mostV h N) false (W.setCell ⟨f4,0,none⟩ (.bool false))):=Lq ⟨HI.out.os,HI.out.tape,HI.out.out,HI.out.keep.trans (KeepMB.set_ _ _ (.inr rfl)),HI.out.kn.same (Below.heap_setCell _ _ _ _ (by simp only;omega)),by have:=HI.out.b4.set_ 0 (.bool false);simpa using this⟩
  have HD2:Hid ((W.setCell ⟨f4,0,none⟩ (.bool false)).heap[W0.heap.size]?=some (.deferred (some []))):=Lq ((Below.heap_setCell _ _ _ _ (by simp only;omega)).trans HD.out)
  refine⟨by simp,.inl ⟨_,_,rfl,run_takeDeferred HD2.out, ?_⟩⟩
  obtain⟨zB,zC,zD⟩:=HX.out.fin HBW.out (by omega) (by omega) (by omega) (.deferred none)
  exact⟨.bool false,by simp[results,Tryz.results135,go_sem,zD],by rw[HRES.out],zB,zC⟩
 ·intro pre W hpre hI hsz hD;obtain⟨hI,C,hC,hfc⟩:=hI;have hres:canF h N b wt=true:=by unfold canF;rw[HN.out,List.any_eq_true];exact⟨C,hpre.subset hC,hfc⟩
  have HRES:=Lq hres;have y4:W.cell? ⟨f4,0,none⟩=some (.bool true):=hI.b4.cell 0;have HI:=Lq hI;have HD:=Lq hD;have hz0:=hI.keep.size;clear hI hD hres hfc HI0 HLOOP HDS HB2
  gi_wp2_with fail
  refine⟨by simp,.inl ⟨_,_,rfl,run_takeDeferred HD.out, ?_⟩⟩
  obtain⟨zB,zC,zD⟩:=HI.out.fin HBW.out (by omega) (by omega) (by omega) (.deferred none)
  exact⟨.bool true,by simp[results,Tryz.results135,go_sem,zD],by rw[HRES.out],zB,zC⟩
end
end Go.Proofs.YtigcophcpboanaaGreatDoor
namespace Go.Proofs.YtigcophcpboanaaGreatDoor
open Go.RowKit
def searchF(pred:Nat→Bool):Nat→Nat→Nat→Nat
 | 0,i,_=>i
 | f+1,i,j=>if i<j then(if pred ((i+j)/2)then searchF pred f i ((i+j)/2)else searchF pred f ((i+j)/2+1) j)else i
theorem searchF_least{pred:Nat→Bool}(hm:∀a b,a≤b→pred a=true→pred b=true):∀(f i j:Nat),i≤j→j<f+i→(∀k,k<i→pred k=false) →
  i≤searchF pred f i j∧searchF pred f i j≤j∧(∀k,k<searchF pred f i j→pred k=false)∧(searchF pred f i j<j→pred (searchF pred f i j)=true):=by
 intro f;induction f with
 | zero=>intro i j h1 h2;omega
 | succ f ih =>
  intro i j h1 h2 h3;rw[searchF];by_cases hij:i<j
  ·rw[if_pos hij];obtain⟨h,hh⟩:=ex ((i+j)/2);rw[hh];have hb:i≤h∧h<j:=by omega
   cases hp:pred h with
   | true =>
    rw[if_pos rfl];obtain⟨a,b,c,d⟩:=ih i h hb.1 (by omega) h3
    refine⟨a,by omega,c,fun hlt=>?_⟩
    rcases Nat.lt_or_ge (searchF pred f i h) h with hl | hg
    ·exact d hl
    ·have:searchF pred f i h=h:=by omega
     rw[this];exact hp
   | false =>
    rw[if_neg (by simp)]
    obtain⟨a,b,c,d⟩:=ih (h+1) j (by omega) (by omega) (fun k hk=>by
     cases hpk:pred k with
     | false=>rfl
     | true=>have:=hm k h (by omega) hpk;rw[hp]at this;cases this)
    exact⟨by omega,b,c,d⟩
  ·rw[if_neg hij];exact⟨lr _,h1,h3,fun h=>by omega⟩
theorem searchF_le(pred:Nat→Bool):∀(f i j:Nat),i≤j→i≤searchF pred f i j∧searchF pred f i j≤j:=by
 intro f;induction f with
 | zero=>intro i j h;exact⟨lr _,h⟩
 | succ f ih =>
  intro i j h;rw[searchF];by_cases hij:i<j
  ·rw[if_pos hij];split
   ·have:=ih i ((i+j)/2) (by omega);omega
   ·have:=ih ((i+j)/2+1) j (by omega);omega
  ·rw[if_neg hij];exact⟨lr _,h⟩
theorem search75_any(p1 p2 p3 p4 p5:Value)(pred:Nat→Bool)(Inv:World→Prop)(n:Nat)(w:World)(hn:n≤1000000000000000000)(hI:Inv w)(hF:∀W k,Inv W→k<n→Cs 89 #[iv (k:Nat),p1,p2,p3,p4,p5] W fun e w'=>e=.returned (.bool (pred k))∧Inv w') :
  Cs 88 #[iv n,.func (.func 89) #[] #[p1,p2,p3,p4,p5]] w fun e w'=>e=.returned (nv (searchF pred (n+1) 0 n))∧Inv w':=by
 have HF:=Lq hF;have HI:=Lq hI;obtain⟨R,hR⟩:=ex (searchF pred (n+1) 0 n);have HR:=Lq hR;rw[hR];clear hF hI hR;go_enter Tryz.func88,Tryz.ntmps88
 go_wp2_with fail;go_loopw [5,6] (fun vi vj wr=>∃i j f:Nat,vi=iv i∧vj=iv j∧i≤j∧j≤n∧j<f+i∧Hid (Inv wr)∧Hid (searchF pred f i j=R)) (fun vi vj _=>(intOf vj).toNat-(intOf vi).toNat)
 case atStart=>exact⟨0,n,n+1,rfl,rfl,Nat.zero_le _,lr _,by omega,HI,HR⟩
 case round =>
  clear HI HR;obtain⟨i,j,f,rfl,rfl,hij,hjn,hjf,HI,HR⟩:=hrel;by_cases hlt:i<j
  ·obtain⟨f,rfl⟩:∃f',f=f'+1:=⟨f-1,by omega⟩
   have hst:searchF pred (f+1) i j=if pred ((i+j)/2)then searchF pred f i ((i+j)/2)else searchF pred f ((i+j)/2+1) j:=by rw[searchF,if_pos hlt]
   obtain⟨h,hh⟩:=ex ((i+j)/2);rw[hh]at hst;have hb:i≤h∧h<j:=by omega
   have hcall:=HF.out wr h HI.out (by omega)
   obtain⟨q,hq⟩:=ex (pred h);rw[hq]at hst hcall;have HST:=Lq hst;have HC:=Lq hcall;have hu0:IntKind.u64.wrap ((i:Int)+(j:Int))=(i:Int)+(j:Int):=by rw[IntKind.wrap_u64];omega
   have hu1:((i:Int)+(j:Int))/2=(h:Int):=by omega
   clear hst hcall hq hh;go_wp2_with fail;refine HC.out.mono ?_;rintro e w1 ⟨rfl,hI1⟩;have HI1:=Lq hI1;clear hI1 HC;cases q
   ·have hr:searchF pred f (h+1) j=R:=by rw[←HR.out,HST.out];rfl
    have HR2:=Lq hr;clear hr HST;go_wp2_with fail;go_roundw
    case rel=>exact⟨h+1,j,f,by go_num,rfl,by omega,by omega,by omega,HI1,HR2⟩
    case measure=>simp[intOf];omega
   ·have hr:searchF pred f i h=R:=by rw[←HR.out,HST.out];rfl
    have HR2:=Lq hr;clear hr HST;go_wp2_with fail;go_roundw
    case rel=>exact⟨i,h,f,rfl,rfl,by omega,by omega,by omega,HI1,HR2⟩
    case measure=>simp[intOf];omega
  ·have hz:¬(i:Int)<(j:Int):=by omega
   have hri:R=i:=by
    rw[←HR.out];cases f with
    | zero=>rfl
    | succ f=>rw[searchF,if_neg hlt]
   go_wp2_with fail;go_ret
   exact⟨by first | rfl | (rw[hri];rfl),HI.out⟩
theorem search117_any(p1:Value)(pred:Nat→Bool)(Inv:World→Prop)(n:Nat)(w:World)(hn:n≤1000000000000000000)(hI:Inv w)(hF:∀W k,Inv W→k<n→Cs 135 #[p1,iv (k:Nat)] W fun e w'=>e=.returned (.bool (pred k))∧Inv w') :
  Cs 88 #[iv n,.func (.func 135) #[p1] #[]] w fun e w'=>e=.returned (nv (searchF pred (n+1) 0 n))∧Inv w':=by
 have HF:=Lq hF;have HI:=Lq hI;obtain⟨R,hR⟩:=ex (searchF pred (n+1) 0 n);have HR:=Lq hR;rw[hR];clear hF hI hR;go_enter Tryz.func88,Tryz.ntmps88
 go_wp2_with fail;go_loopw [5,6] (fun vi vj wr=>∃i j f:Nat,vi=iv i∧vj=iv j∧i≤j∧j≤n∧j<f+i∧Hid (Inv wr)∧Hid (searchF pred f i j=R)) (fun vi vj _=>(intOf vj).toNat-(intOf vi).toNat)
 case atStart=>exact⟨0,n,n+1,rfl,rfl,Nat.zero_le _,lr _,by omega,HI,HR⟩
 case round =>
  clear HI HR;obtain⟨i,j,f,rfl,rfl,hij,hjn,hjf,HI,HR⟩:=hrel;by_cases hlt:i<j
  ·obtain⟨f,rfl⟩:∃f',f=f'+1:=⟨f-1,by omega⟩
   have hst:searchF pred (f+1) i j=if pred ((i+j)/2)then searchF pred f i ((i+j)/2)else searchF pred f ((i+j)/2+1) j:=by rw[searchF,if_pos hlt]
   obtain⟨h,hh⟩:=ex ((i+j)/2);rw[hh]at hst;have hb:i≤h∧h<j:=by omega
   have hcall:=HF.out wr h HI.out (by omega)
   obtain⟨q,hq⟩:=ex (pred h);rw[hq]at hst hcall;have HST:=Lq hst;have HC:=Lq hcall;have hu0:IntKind.u64.wrap ((i:Int)+(j:Int))=(i:Int)+(j:Int):=by rw[IntKind.wrap_u64];omega
   have hu1:((i:Int)+(j:Int))/2=(h:Int):=by omega
   clear hst hcall hq hh;go_wp2_with fail;refine HC.out.mono ?_;rintro e w1 ⟨rfl,hI1⟩;have HI1:=Lq hI1;clear hI1 HC;cases q
   ·have hr:searchF pred f (h+1) j=R:=by rw[←HR.out,HST.out];rfl
    have HR2:=Lq hr;clear hr HST;go_wp2_with fail;go_roundw
    case rel=>exact⟨h+1,j,f,by go_num,rfl,by omega,by omega,by omega,HI1,HR2⟩
    case measure=>simp[intOf];omega
   ·have hr:searchF pred f i h=R:=by rw[←HR.out,HST.out];rfl
    have HR2:=Lq hr;clear hr HST;go_wp2_with fail;go_roundw
    case rel=>exact⟨i,h,f,rfl,rfl,by omega,by omega,by omega,HI1,HR2⟩
    case measure=>simp[intOf];omega
  ·have hz:¬(i:Int)<(j:Int):=by omega
   have hri:R=i:=by
    rw[←HR.out];cases f with
    | zero=>rfl
    | succ f=>rw[searchF,if_neg hlt]
   go_wp2_with fail;go_ret
   exact⟨by first | rfl | (rw[hri];rfl),HI.out⟩
end Go.Proofs.YtigcophcpboanaaGreatDoor
namespace Go.Proofs.YtigcophcpboanaaGreatDoor
open Go.RowKit Go.Shelf
attribute [local go_sem] Oper.semAt_some
def lightW(h:Hul)(N:List Nd)(b:Nat):Nat:=searchF (fun k=>canF h N b k) (h.ps.length*100000+2) 0 (h.ps.length*100000+1)
theorem lightW_le(h:Hul)(N:List Nd)(b:Nat):lightW h N b≤h.ps.length*100000+1:=(searchF_le _ _ _ _ (Nat.zero_le _)).2
section
variable {w:World} {B g:Nat} {h:Hul} {A:Option Addr} {cap:Nat} {J:Option Addr} {capJ:Nat} {N:List Nd} {bs:List Nat} {br km:Nat}
theorem lightest_any(H:DeckSt w B g h A cap J capJ N bs br km)(hk:HulOk h)(hT:TreeOk h.ps N)(hK:KnownAt w km (mostV h N))(b:Nat)(hb8:b≤8) :
  Cs 134 #[.func (.func 135) #[.agg #[ptr g,nv b]] #[],iv (h.ps.length*100000:Nat)] w (fun e w'=>e=.returned (.tuple #[nv (lightW h N b),.bool (decide (lightW h N b≤h.ps.length*100000))])∧OnlyAt w w' km∧KnownAt w' km (mostV h N)):=by
 have hn8:=hk.n8;have hse:=search117_any (.agg #[ptr g,nv b]) (fun k=>canF h N b k) (fun X=>OnlyAt w X km∧KnownAt X km (mostV h N)) (h.ps.length*100000+1) w (by omega) ⟨OnlyAt.refl w km,hK⟩
  (fun W k hW hlt=>(can_any (H.only hW.1 (.inl rfl)) hk hT hW.2 b k hb8).mono (fun e w' hp=>⟨hp.1,hW.1.trans hp.2.1,hp.2.2⟩))
 have hle:=lightW_le h N b;have hL:searchF (fun k=>canF h N b k) (h.ps.length*100000+1+1) 0 (h.ps.length*100000+1)=lightW h N b:=rfl
 rw[hL]at hse;obtain⟨R,hR⟩:=ex (lightW h N b);rw[hR]at hse hle ⊢;obtain⟨M,hM⟩:=ex (h.ps.length*100000);have hM8:M≤800000:=by omega
 rw[hM]at hse hle ⊢;have HSE:=Lq hse;clear hse hL hR hM H hT hK hk hn8;go_enter Tryz.func134,Tryz.ntmps134
 go_wp2_with fail;refine HSE.out.mono ?_;rintro e w1 ⟨rfl,ho,hk⟩;have HO:=Lq (And.intro ho hk);clear ho hk HSE;go_wp2_with fail
 go_ret2
 refine⟨?_,HO.out⟩;simp
end
def CountPost(h:Hul)(A:Option Addr)(cap:Nat)(J:Option Addr)(capJ:Nat)(l:List Wgh)(v:Int)(w:World)(e:Ending)(w':World):Prop :=
 BW w w'∧((openE h l≠0∧e=.returned (.tuple #[.pointer none,iv 0,iv (openE h l)]))∨(openE h l=0∧¬(1≤v∧v≤8)∧e=.returned (.tuple #[.pointer none,iv 0,iv 7])) ∨
  (openE h l=0∧openPre h l=0∧Feas h l∧1≤v∧v≤8∧∃N,IsTree h l N∧((h.ps.length*100000<lightW h N v.toNat∧e=.returned (.tuple #[.pointer none,iv 0,iv 9])) ∨
   (lightW h N v.toNat≤h.ps.length*100000∧∃g bs br km BD,e=.returned (.tuple #[ptr g,nv (lightW h N v.toNat),iv 0])∧DeckHere w w' h A cap J capJ N g bs br km BD))))
theorem count_any(h:Hul)(A J:Option Addr)(B cap capJ:Nat)(AL:Option Addr)(l:List Wgh)(capL:Nat)(v:Int)(w:World)(hH:HulRd w B h A cap J capJ)(hL:RdN 3 encWgh w B AL l)(hlc:l.length≤capL)(hB:B≤w.heap.size) :
  Cs 96 #[hv h A cap J capJ,.slice AL l.length capL,iv v] w (CountPost h A cap J capJ l v w):=by
 obtain⟨W1,hW1,hb0,hz1,p0,p1,p2,p3,p4⟩:=hulBox w h A cap J capJ;have hop:=open_any h A J B cap capJ AL l capL W1 (hH.below hb0 hB) (hL.below hb0 hB) hlc (lT hB hb0.size);have HOP:=Lq hop;have HB0:=Lq hb0;have hz1:w.heap.size≤W1.heap.size:=hb0.size;clear hop hb0 hH hL;go_enter Tryz.func96,Tryz.ntmps96
 go_wp2_with fail;refine HOP.out.mono ?_;intro e w1 hpost;obtain⟨hb1,hpost⟩:=openPost_cases hpost;have HB1:=Lq (bT HB0.out hb1);have hz2:=hb1.size;clear hb1 HOP hW1 HB0 p0 p1 p2 p3 p4;rcases hpost with⟨hne,rfl⟩ | ⟨h0,hp,hf,N,g,bs,br,km,BD,hN,rfl,HD⟩
 ·obtain⟨E,hE⟩:=ex (openE h l);have HE:=Lq hE;rw[hE]at hne ⊢;have hcb:(E==0)=false:=by simpa using hne
  clear hE;go_wp2_with fail
  go_ret3
  exact⟨HB1.out,.inl ⟨by rw[HE.out];exact hne,by rw[HE.out];rfl⟩⟩
 ·have hk:=hulOk (openPre_zero hp).1;have hn8:=hk.n8;have hT:=treeOk_isTree hp hN;have HFC:Hid (∀e w',BW w w'→((¬(1≤v∧v≤8)∧e=.returned (.tuple #[.pointer none,iv 0,iv 7]))∨(1≤v∧v≤8∧((h.ps.length*100000<lightW h N v.toNat∧e=.returned (.tuple #[.pointer none,iv 0,iv 9])) ∨
   (lightW h N v.toNat≤h.ps.length*100000∧e=.returned (.tuple #[ptr g,nv (lightW h N v.toNat),iv 0])∧DeckHere w w' h A cap J capJ N g bs br km BD))))→CountPost h A cap J capJ l v w e w'):=Lq fun e w' a b=>⟨a,.inr (b.elim (fun b=>.inl ⟨h0,b⟩) (fun b=>.inr ⟨h0,hp,hf,b.1,b.2.1,N,hN,b.2.2.elim .inl (fun c=>.inr ⟨c.1,g,bs,br,km,BD,c.2⟩)⟩))⟩
  have HD0:=Lq HD;have hg0:=HD.g0;have hk0:=HD.k0;have c0:=HD.st.c0;clear HD hf h0 hp hN;obtain⟨q,hq⟩:=ex (inB 1 8 v);go_wp2_with (refine HD0.out ?_)
  refine(out_oneB hq _ _ (by go_simp)).mono ?_
  rintro e w2 ⟨rfl,hb2⟩;have hb2:=bT (bA (bR w1) _) hb2;have HB2:=Lq (bT HB1.out hb2);have HD2:=Lq (HD0.out.below hb2);clear hb2 c0;cases q
  ·have HV:Hid (¬(1≤v∧v≤8)):=Lq (by simpa[inB]using hq)
   clear hq;go_wp2_with fail
   go_ret3
   exact HFC.out _ _ HB2.out (.inl ⟨HV.out,rfl⟩)
  ·have HV:Hid (1≤v∧v≤8):=Lq (by simpa[inB]using hq)
   clear hq;obtain⟨b,rfl⟩:∃b:Nat,v=b:=⟨v.toNat,by have:=HV.out;omega⟩
   have hli:=lightest_any HD2.out.st hk hT HD2.out.kn b (by have:=HV.out;omega)
   have c0:=HD2.out.st.c0;have hle:=lightW_le h N b;obtain⟨M,hM⟩:=ex (h.ps.length*100000);have hMi:(h.ps.length:Int)*100000=(M:Int):=by omega
   have hMw:IntKind.i64.wrap ((h.ps.length:Int)*100000)=(M:Int):=by rw[hMi];exact wrap62 _ (by omega) (by omega)
   obtain⟨R,hR⟩:=ex (lightW h N b);have HFC2:=HFC.out;rw[Int.toNat_natCast,hR,hM]at HFC2;rw[hM]at hle;rw[hR,hM]at hli;rw[hR]at hle;have HFC:=Lq HFC2;have HLI:=Lq hli;have hR2:(R:Int)≤800001:=by omega
   clear HFC2 hli hM hR hT hk HD0;go_wp2_with (refine HD2.out ?_)
   refine HLI.out.mono ?_;rintro e w3 ⟨rfl,ho3,hk3⟩;have HD3:Hid (DeckHere w w3 h A cap J capJ N g bs br km BD):=Lq (by have hd:=HD2.out.only ho3 hk3;exact⟨lT hz1 hd.g0,lT hz1 hd.k0,hd.st,hd.kn,hd.fz⟩)
   have HB3:Hid (BW w w3):=Lq (ho3.below HB2.out (by omega))
   clear ho3 hk3 HLI c0;by_cases hRM:R≤M
   ·have hd:decide (R≤M)=true:=by simpa using hRM
    rw[hd];go_wp2_with fail
    go_ret3
    exact HFC.out _ _ HB3.out (.inr ⟨HV.out.1,HV.out.2,.inr ⟨hRM,rfl,HD3.out⟩⟩)
   ·have hd:decide (R≤M)=false:=by simpa using hRM
    rw[hd];go_wp2_with fail
    go_ret3
    exact HFC.out _ _ HB3.out (.inr ⟨HV.out.1,HV.out.2,.inl ⟨by omega,rfl⟩⟩)
def CountOne(F:Nat→Int×Int)(h:Hul)(l:List Wgh)(v:Int)(w:World)(e:Ending)(w':World):Prop :=
 BW w w'∧((openE h l≠0∧e=.returned (.tuple #[iv 0,iv (openE h l)]))∨(openE h l=0∧¬(1≤v∧v≤8)∧e=.returned (.tuple #[iv 0,iv 7])) ∨
  (openE h l=0∧openPre h l=0∧Feas h l∧1≤v∧v≤8∧∃N,IsTree h l N∧((h.ps.length*100000<lightW h N v.toNat∧e=.returned (.tuple #[iv 0,iv 9])) ∨
   (lightW h N v.toNat≤h.ps.length*100000∧e=.returned (.tuple #[iv (F (lightW h N v.toNat)).1,iv (F (lightW h N v.toNat)).2])))))
def winchOf(h:Hul)(L:Nat):Int×Int:=(max 1 (upD (L*h.shi) 1000),0)
def sandOf(h:Hul)(L:Nat):Int×Int:=if 1000*h.winch<L then(0,9)else if L=0 then(2000,0)else(min 2000 ((1000*h.winch).tdiv L),0)
theorem winch_any(h:Hul)(A J:Option Addr)(B cap capJ:Nat)(AL:Option Addr)(l:List Wgh)(capL:Nat)(v:Int)(w:World)(hH:HulRd w B h A cap J capJ)(hL:RdN 3 encWgh w B AL l)(hlc:l.length≤capL)(hB:B≤w.heap.size) :
  Cs 40 #[hv h A cap J capJ,.slice AL l.length capL,iv v] w (CountOne (winchOf h) h l v w):=by
 obtain⟨W1,hW1,hb0,hz1,p0,p1,p2,p3,p4⟩:=hulBox w h A cap J capJ;have hop:=count_any h A J B cap capJ AL l capL v W1 (hH.below hb0 hB) (hL.below hb0 hB) hlc (lT hB hb0.size);have HOP:=Lq hop;have HB0:=Lq hb0;have hz1:w.heap.size≤W1.heap.size:=hb0.size;clear hop hb0 hH hL;go_enter Tryz.func40,Tryz.ntmps40
 go_wp2_with fail;refine HOP.out.mono ?_;intro e w1 hpost;obtain⟨hb1,hpost⟩:=hpost;have HB1:=Lq (bT HB0.out hb1);have hz2:=hb1.size;clear hb1 HOP hW1 HB0 p0 p1 p2 p3 p4;rcases hpost with⟨hne,rfl⟩ | ⟨h0,hv8,rfl⟩ | ⟨h0,hp,hf,h1,h8,N,hN,hpost⟩
 ·obtain⟨E,hE⟩:=ex (openE h l);have HE:=Lq hE;rw[hE]at hne ⊢;have hcb:(E==0)=false:=by simpa using hne
  clear hE;go_wp2_with fail
  go_ret2
  exact⟨HB1.out,.inl ⟨by rw[HE.out];exact hne,by rw[HE.out];rfl⟩⟩
 ·have H0:=Lq (And.intro h0 hv8);clear h0 hv8;go_wp2_with fail
  go_ret2
  exact⟨HB1.out,.inr (.inl ⟨H0.out.1,H0.out.2,rfl⟩)⟩
 ·have hk:=hulOk (openPre_zero hp).1;have hn8:=hk.n8;have hle:=lightW_le h N v.toNat;have HFC:Hid (∀e w',BW w w'→((h.ps.length*100000<lightW h N v.toNat∧e=.returned (.tuple #[iv 0,iv 9])) ∨
   (lightW h N v.toNat≤h.ps.length*100000∧e=.returned (.tuple #[iv (winchOf h (lightW h N v.toNat)).1,iv (winchOf h (lightW h N v.toNat)).2])))→CountOne (winchOf h) h l v w e w'):=Lq fun e w' a b=>⟨a,.inr (.inr ⟨h0,hp,hf,h1,h8,N,hN,b⟩)⟩
  obtain⟨R,hR⟩:=ex (lightW h N v.toNat);rw[hR]at hpost hle HFC;clear hf h0 hp hN hR h1 h8;rcases hpost with⟨hlt,rfl⟩ | ⟨hle2,g,bs,br,km,BD,rfl,HD⟩
  ·go_wp2_with fail
   go_ret2
   exact HFC.out _ _ HB1.out (.inl ⟨hlt,rfl⟩)
  ·have c3:=HD.st.c3;have hy1:0≤(R:Int)*h.shi:=Int.mul_nonneg (by omega) (by have:=hk.s1;have:=hk.s2;omega)
   have hy2:(R:Int)*h.shi≤800001*2000:=Int.mul_le_mul (by omega) hk.s3 (by have:=hk.s1;have:=hk.s2;omega) (by omega)
   have hup:=fun W=>upDiv_any (w:=W) ((R:Int)*h.shi) 1000 hy1 (by omega) (by decide) (by decide)
   have hw2:IntKind.i64.wrap ((R:Int)*h.shi)=(R:Int)*h.shi:=wrap62 _ hy1 (by omega)
   have HUP:=Lq hup;have HWV:Hid (winchOf h R=(max 1 (((R:Int)*h.shi+1000-1).tdiv 1000),0)):=Lq rfl;clear HD hup;go_wp2_with (refine HUP.out ?_)
   refine(HUP.out w1).mono ?_;rintro e w2 ⟨rfl,hb2⟩;have HB2:=Lq (bT HB1.out hb2);clear hb2 HUP c3;go_wp2_with fail
   go_ret2
   exact HFC.out _ _ HB2.out (.inr ⟨hle2,by rw[HWV.out];rfl⟩)
theorem sand_any(h:Hul)(A J:Option Addr)(B cap capJ:Nat)(AL:Option Addr)(l:List Wgh)(capL:Nat)(v:Int)(w:World)(hH:HulRd w B h A cap J capJ)(hL:RdN 3 encWgh w B AL l)(hlc:l.length≤capL)(hB:B≤w.heap.size) :
  Cs 41 #[hv h A cap J capJ,.slice AL l.length capL,iv v] w (CountOne (sandOf h) h l v w):=by
 obtain⟨W1,hW1,hb0,hz1,p0,p1,p2,p3,p4⟩:=hulBox w h A cap J capJ;have hop:=count_any h A J B cap capJ AL l capL v W1 (hH.below hb0 hB) (hL.below hb0 hB) hlc (lT hB hb0.size);have HOP:=Lq hop;have HB0:=Lq hb0;have hz1:w.heap.size≤W1.heap.size:=hb0.size;clear hop hb0 hH hL;go_enter Tryz.func41,Tryz.ntmps41
 go_wp2_with fail;refine HOP.out.mono ?_;intro e w1 hpost;obtain⟨hb1,hpost⟩:=hpost;have HB1:=Lq (bT HB0.out hb1);have hz2:=hb1.size;clear hb1 HOP hW1 HB0 p0 p1 p2 p3 p4;rcases hpost with⟨hne,rfl⟩ | ⟨h0,hv8,rfl⟩ | ⟨h0,hp,hf,h1,h8,N,hN,hpost⟩
 ·obtain⟨E,hE⟩:=ex (openE h l);have HE:=Lq hE;rw[hE]at hne ⊢;have hcb:(E==0)=false:=by simpa using hne
  clear hE;go_wp2_with fail
  go_ret2
  exact⟨HB1.out,.inl ⟨by rw[HE.out];exact hne,by rw[HE.out];rfl⟩⟩
 ·have H0:=Lq (And.intro h0 hv8);clear h0 hv8;go_wp2_with fail
  go_ret2
  exact⟨HB1.out,.inr (.inl ⟨H0.out.1,H0.out.2,rfl⟩)⟩
 ·have hk:=hulOk (openPre_zero hp).1;have hn8:=hk.n8;have hle:=lightW_le h N v.toNat;have HFC:Hid (∀e w',BW w w'→((h.ps.length*100000<lightW h N v.toNat∧e=.returned (.tuple #[iv 0,iv 9])) ∨
   (lightW h N v.toNat≤h.ps.length*100000∧e=.returned (.tuple #[iv (sandOf h (lightW h N v.toNat)).1,iv (sandOf h (lightW h N v.toNat)).2])))→CountOne (sandOf h) h l v w e w'):=Lq fun e w' a b=>⟨a,.inr (.inr ⟨h0,hp,hf,h1,h8,N,hN,b⟩)⟩
  obtain⟨R,hR⟩:=ex (lightW h N v.toNat);rw[hR]at hpost hle HFC;clear hf h0 hp hN hR h1 h8;rcases hpost with⟨hlt,rfl⟩ | ⟨hle2,g,bs,br,km,BD,rfl,HD⟩
  ·go_wp2_with fail
   go_ret2
   exact HFC.out _ _ HB1.out (.inl ⟨hlt,rfl⟩)
  ·have c4:=HD.st.c4;have:=hk.w1;have:=hk.w2;have hw2:IntKind.i64.wrap (1000*h.winch)=1000*h.winch:=wrap62 _ (by omega) (by omega)
   have hq0:0≤(1000*h.winch).tdiv (R:Int):=Int.tdiv_nonneg (by omega) (by omega)
   have hq1:(1000*h.winch).tdiv (R:Int)≤1000*h.winch:=by rw[Int.tdiv_eq_ediv_of_nonneg (by omega)];exact Int.ediv_le_self _ (by omega)
   have hw3:IntKind.i64.wrap ((1000*h.winch).tdiv (R:Int))=(1000*h.winch).tdiv (R:Int):=wrap62 _ hq0 (by omega)
   by_cases hgt:1000*h.winch<(R:Int)
   ·have HWV:Hid (sandOf h R=(0,9)):=Lq (by unfold sandOf;rw[if_pos hgt])
    clear HD;go_wp2_with (refine c4 ?_)
    go_ret2
    exact HFC.out _ _ HB1.out (.inr ⟨hle2,by rw[HWV.out];rfl⟩)
   ·by_cases hR0:R=0
    ·subst hR0;have HWV:Hid (sandOf h 0=(2000,0)):=Lq (by unfold sandOf;rw[if_neg hgt,if_pos rfl])
     clear HD;go_wp2_with (refine c4 ?_)
     go_ret2
     exact HFC.out _ _ HB1.out (.inr ⟨hle2,by rw[HWV.out];rfl⟩)
    ·have HWV:Hid (sandOf h R=(min 2000 ((1000*h.winch).tdiv R),0)):=Lq (by unfold sandOf;rw[if_neg hgt,if_neg hR0])
     have hRz:(R:Int)≠0:=by omega
     have hRb:((R:Int)==0)=false:=by simpa using hR0
     clear HD;go_wp2_with (refine c4 ?_)
     go_ret2
     exact HFC.out _ _ HB1.out (.inr ⟨hle2,by rw[HWV.out];rfl⟩)
section
variable{most:Int}{BD br cap f5 f8 f9 g i q s:Nat}{X w:World}
attribute [local go_sem] Oper.semAt_some
structure PartsAt(w:World)(q:Nat)(ps:List Prt):Prop where
 rd:RdN 3 encPrt w (q+1) (some ⟨q,0,none⟩) ps
 fz:∀o,w.frozen? ⟨q,o,none⟩=false
 lt:q<w.heap.size
theorem PartsAt.below{w':World}{ps:List Prt}(h:PartsAt w q ps)(hb:BW w w'):PartsAt w' q ps :=
 ⟨h.rd.below hb h.lt,fun o=>(hb.frozen (p:=⟨q,o,none⟩) h.lt).trans (h.fz o),lz h.lt hb.size⟩
theorem PartsAt.cells{ps:List Prt}(h:PartsAt w q ps){p:Prt}(hp:ps[i]?=some p) :
  w.cell? ⟨q,i*3,none⟩=some (.string p.name)∧w.cell? ⟨q,i*3+1,none⟩=some (iv p.lo)∧w.cell? ⟨q,i*3+2,none⟩=some (iv p.hi):=by
 obtain⟨b,off,e,_,c0,c1,c2⟩:=prtAt h.rd hp;injection e with e
 injection e with e1 e2
 subst e1 e2;simp only[Nat.zero_add]at c0 c1 c2;exact⟨c0,c1,c2⟩
theorem PartsAt.of{ps:List Prt}(hc:∀i p,ps[i]?=some p→w.cell? ⟨q,i*3,none⟩=some (.string p.name)∧w.cell? ⟨q,i*3+1,none⟩=some (iv p.lo)∧w.cell? ⟨q,i*3+2,none⟩=some (iv p.hi))(hf:∀o,w.frozen? ⟨q,o,none⟩=false)(hl:q<w.heap.size):PartsAt w q ps:=by
 refine⟨fun i p hp=>⟨q,0,rfl,by omega,fun j u hu=>?_⟩,hf,hl⟩
 obtain⟨c0,c1,c2⟩:=hc i p hp;simp only[Nat.zero_add]
 match j,hu with
 | 0,hu=>simp only[encPrt,List.getElem?_cons_zero,Option.some.injEq]at hu;rw[←hu];exact c0
 | 1,hu=>simp only[encPrt,List.getElem?_cons_succ,List.getElem?_cons_zero,Option.some.injEq]at hu;rw[←hu];exact c1
 | 2,hu=>simp only[encPrt,List.getElem?_cons_succ,List.getElem?_cons_zero,Option.some.injEq]at hu;rw[←hu];exact c2
 | j+3,hu=>simp[encPrt]at hu
theorem cell_far{o o':Nat}{u:Value}(h:o≠o'):(w.setCell ⟨q,o',none⟩ u).cell? ⟨q,o,none⟩=w.cell? ⟨q,o,none⟩:=by go_simp
theorem PartsAt.setLo{ps:List Prt}(h:PartsAt w q ps){p:Prt}(hp:ps[i]?=some p)(v:Int):PartsAt (w.setCell ⟨q,i*3+1,none⟩ (iv v)) q (ps.set i ⟨p.name,v,p.hi⟩):=by
 have hlt:=(lG hp);refine .of (fun j r hr=>?_) (fun o=>by have:=h.fz o;go_simp) (by have:=h.lt;simpa using this)
 by_cases hij:i=j
 ·subst hij;rw[List.getElem?_set_self hlt]at hr;injection hr with hr
  subst hr;obtain⟨c0,c1,c2⟩:=h.cells hp;exact⟨(cell_far (by omega)).trans c0,by go_simp,(cell_far (by omega)).trans c2⟩
 ·rw[List.getElem?_set_ne hij]at hr;obtain⟨c0,c1,c2⟩:=h.cells hr;exact⟨(cell_far (by omega)).trans c0,(cell_far (by omega)).trans c1,(cell_far (by omega)).trans c2⟩
theorem PartsAt.setHi{ps:List Prt}(h:PartsAt w q ps){p:Prt}(hp:ps[i]?=some p)(v:Int):PartsAt (w.setCell ⟨q,i*3+2,none⟩ (iv v)) q (ps.set i ⟨p.name,p.lo,v⟩):=by
 have hlt:=(lG hp);refine .of (fun j r hr=>?_) (fun o=>by have:=h.fz o;go_simp) (by have:=h.lt;simpa using this)
 by_cases hij:i=j
 ·subst hij;rw[List.getElem?_set_self hlt]at hr;injection hr with hr
  subst hr;obtain⟨c0,c1,c2⟩:=h.cells hp;exact⟨(cell_far (by omega)).trans c0,(cell_far (by omega)).trans c1,by go_simp⟩
 ·rw[List.getElem?_set_ne hij]at hr;obtain⟨c0,c1,c2⟩:=h.cells hr;exact⟨(cell_far (by omega)).trans c0,(cell_far (by omega)).trans c1,(cell_far (by omega)).trans c2⟩
theorem flat_at:∀(ps:List Prt) (i:Nat) (p:Prt),ps[i]?=some p→∀j,j<3→(ps.flatMap encPrt)[i*3+j]?=(encPrt p)[j]?
 | [],i,p,hp,j,hj=>by simp at hp
 | a::l,0,p,hp,j,hj=>by simp only[List.getElem?_cons_zero,Option.some.injEq]at hp;subst hp;rw[List.flatMap_cons,List.getElem?_append_left (by simp[encPrt];omega),Nat.zero_mul,Nat.zero_add]
 | a::l,i+1,p,hp,j,hj=>by
  simp only[List.getElem?_cons_succ]at hp;rw[List.flatMap_cons,List.getElem?_append_right (by simp[encPrt];omega),←flat_at l i p hp j hj]
  congr 1
  simp[encPrt];omega
theorem PartsAt.own{base:Nat}{v:Value}{ps:List Prt}(h:w.ownsRow base 45 3 v ps.length (ps.flatMap encPrt))(hn:0<ps.length):∃q cap,v=.slice (some ⟨q,0,none⟩) ps.length cap∧base≤q∧ps.length≤cap∧PartsAt w q ps:=by
 obtain⟨q,cap,e,h1,h2,h3⟩:=own_form h hn;subst e;refine⟨q,cap,rfl,h1,h3,.of (fun i p hp=>?_) (fun o=>h.frozenAt o) h2⟩
 have hi:=(lG hp);have f0:=flat_at ps i p hp 0 (by omega)
 have f1:=flat_at ps i p hp 1 (by omega)
 have f2:=flat_at ps i p hp 2 (by omega)
 rw[Nat.add_zero]at f0;exact⟨(h.cellAt _ (by omega)).trans f0,(h.cellAt _ (by omega)).trans f1,(h.cellAt _ (by omega)).trans f2⟩
structure LimE(X:World)(BD g q cap:Nat)(n:Nat)(N:List Nd)(bs:List Nat)(br s:Nat)(most:Int)(f8 f5 f9:Nat):Prop where
 root:bs[N.length-1]?=some br
 tab:TabAt X BD N bs
 c0:X.cell? ⟨g,0,none⟩=some (.slice (some ⟨q,0,none⟩) n cap)
 c5:X.cell? ⟨g,5,none⟩=some (ptr br)
 gB:g<BD
 qB:BD≤q
 e8:X.cell? ⟨f8,0,none⟩=some (ptr g)
 e5:X.cell? ⟨f5,0,none⟩=some (nv s)
 e9:X.cell? ⟨f9,0,none⟩=some (iv most)
 n8:f8≠q
 n5:f5≠q
 n9:f9≠q
theorem LimE.only{Y:World}{n:Nat}{N:List Nd}{bs:List Nat}(h:LimE X BD g q cap n N bs br s most f8 f5 f9)(ho:OnlyAt X Y q):LimE Y BD g q cap n N bs br s most f8 f5 f9 :=
 ⟨h.root,h.tab.only ho h.qB,ho.cell h.c0 (by have:=h.gB;have:=h.qB;omega),ho.cell h.c5 (by have:=h.gB;have:=h.qB;omega),h.gB,h.qB,ho.cell h.e8 h.n8,ho.cell h.e5 h.n5,ho.cell h.e9 h.n9,h.n8,h.n5,h.n9⟩
theorem TabAt.more{B B':Nat}{N:List Nd}{bs:List Nat}(h:TabAt w B N bs)(hB:B≤B'):TabAt w B' N bs:=by
 intro i nd hi;obtain⟨b,h1,h2,c0,c1,c2,c3,A,cap,c4,hk⟩:=h i nd hi;refine⟨b,h1,by omega,c0,c1,c2,c3,A,cap,c4,fun k j hkj=>?_⟩
 obtain⟨bb,off,bj,e,hb,hj,hc⟩:=hk k j hkj;exact⟨bb,off,bj,e,by omega,hj,hc⟩
def moreF(N:List Nd)(s:Nat)(most:Int)(ps:List Prt):Bool:=(wgh ps N s).2&&decide ((wgh ps N s).1.shi=most)
theorem more_any{N:List Nd}{bs:List Nat}{ps:List Prt}(E:LimE X BD g q cap ps.length N bs br s most f8 f5 f9)(hq:PartsAt X q ps){p:Prt}(hp:ps[i]?=some p)(k:Nat)(hk:p.lo+k≤100000)(hl:0≤p.lo)(hT:TreeOk (ps.set i ⟨p.name,p.lo,p.lo+k⟩) N)(hs:s<256)(f11 f12:Nat)(h11:X.cell? ⟨f11,1,none⟩=some (iv p.lo))(h12:X.cell? ⟨f12,0,none⟩=some (pT q (i*3+1))) :
  Cs 89 #[nv k,ptr f11,ptr f12,ptr f8,ptr f5,ptr f9] X fun e w'=>e=.returned (.bool (moreF N s most (ps.set i ⟨p.name,p.lo,p.lo+k⟩)))∧OnlyAt X w' q∧PartsAt w' q (ps.set i ⟨p.name,p.lo,p.lo+k⟩):=by
 obtain⟨d0,d1,d2⟩:=hq.cells hp;have df:=hq.fz (i*3+2);obtain⟨X1,hX1⟩:=ex (X.setCell ⟨q,i*3+2,none⟩ (iv (p.lo+k)));have hq1:PartsAt X1 q (ps.set i ⟨p.name,p.lo,p.lo+k⟩):=by rw[←hX1];exact hq.setHi hp _
 have ho1:OnlyAt X X1 q:=by rw[←hX1];exact⟨rfl,rfl,rfl,by simp,fun k _ hne=>Below.heap_setCell _ _ _ _ hne⟩
 have E1:=E.only ho1;have hw:=weigh_any (q+1) g (some ⟨q,0,none⟩) cap _ s N bs br X1 hT hs E1.root (E1.tab.more (by have:=E.qB;omega)) (by rw[List.length_set];exact E1.c0) E1.c5 hq1.rd (by have:=E.gB;have:=E.qB;omega) hq1.lt
 obtain⟨ps',hps⟩:∃ps',ps.set i ⟨p.name,p.lo,p.lo+k⟩=ps':=⟨_,rfl⟩;rw[hps]at hw hq1 ⊢;obtain⟨m,hm⟩:=ex ((wgh ps' N s).1);obtain⟨v,hv⟩:=ex ((wgh ps' N s).2);have hmf:moreF N s most ps'=(v&&decide (m.shi=most)):=by unfold moreF;rw[hm,hv]
 rw[hm,hv]at hw;rw[hmf];obtain⟨ma,mb,mc,md⟩:=m;simp only;have x8:=E.e8;have x5:=E.e5;have x9:=E.e9;have y8:=E1.e8;have y5:=E1.e5;have y9:=E1.e9;have n8:=E.n8;have n5:=E.n5;have n9:=E.n9;have HW:=Lq hw;have HO1:=Lq ho1;have HQ1:=Lq hq1;have hww:IntKind.i64.wrap (p.lo+(k:Int))=p.lo+(k:Int):=wrap62 _ (by omega) (by omega)
 clear hw ho1 hq1 hmf hm hv hps hT hq E E1;go_enter Tryz.func89,Tryz.ntmps89
 go_wp2_with (refine HW.out ?_)
 refine HW.out.mono ?_;rintro e w2 ⟨rfl,hb2⟩;have HB2:=Lq hb2;have z9:=kC hb2 y9;have l9:=lt_of_cell z9;have z9a:(w2.alloc (.cells #[Value.int IntKind.i64 ma,Value.int IntKind.i64 mb,Value.int IntKind.i64 mc,Value.int IntKind.i64 md] 164)).cell? ⟨f9,0,none⟩=some (iv most):=keepA z9 _;have HR:Hid (∀W,BW X1 W→OnlyAt X W q∧PartsAt W q ps'):=Lq fun W hb=>⟨HO1.out.trans (OnlyAt.of_below hb q),HQ1.out.below hb⟩
 clear hb2 HW HQ1 HO1 hX1;cases v
 ·go_wp2_with fail;go_ret
  exact⟨rfl,HR.out _ (bA HB2.out _)⟩
 ·by_cases hmm:md=most
  ·subst hmm;go_wp2_with fail;go_ret
   exact⟨by simp,HR.out _ (bA HB2.out _)⟩
  ·have hmb:(md==most)=false:=by simpa using hmm
   go_wp2_with fail;go_ret
   exact⟨by simp[hmm],HR.out _ (bA HB2.out _)⟩
end
section
variable{w:World}
attribute [local go_sem] Oper.semAt_some
def limV(N:List Nd)(s:Nat)(most:Int)(ps:List Prt)(i:Nat):Int:=match ps[i]? with
 | some p=>p.lo+searchF (fun k=>moreF N s most (ps.set i ⟨p.name,p.lo,p.lo+k⟩)) ((p.hi-p.lo).toNat+1) 0 (p.hi-p.lo).toNat
 | none=>0
def limStep(ps:List Prt)(i:Nat)(v:Int):List Prt:=match ps[i]? with
 | some p=>ps.set i ⟨p.name,v,v⟩
 | none=>ps
def limTo(N:List Nd)(s:Nat)(most:Int)(ps:List Prt):Nat→List Prt
 | 0=>ps
 | i+1=>limStep (limTo N s most ps i) i (limV N s most (limTo N s most ps i) i)
def limL(N:List Nd)(s:Nat)(most:Int)(ps:List Prt)(n:Nat):List Int:=(List.range n).map fun i=>limV N s most (limTo N s most ps i) i
theorem limL_succ(N:List Nd)(s:Nat)(most:Int)(ps:List Prt)(n:Nat):limL N s most ps (n+1)=limL N s most ps n++[limV N s most (limTo N s most ps n) n]:=by unfold limL;rw[List.range_succ,List.map_append];rfl
theorem limTo_len(N:List Nd)(s:Nat)(most:Int)(ps:List Prt):∀i,(limTo N s most ps i).length=ps.length:=by
 intro i;induction i with
 | zero=>rfl
 | succ i ih =>
  unfold limTo limStep;split
  ·rw[List.length_set];exact ih
  ·exact ih
theorem limTo_at(N:List Nd)(s:Nat)(most:Int)(ps:List Prt):∀i j,i≤j→(limTo N s most ps i)[j]?=ps[j]?:=by
 intro i;induction i with
 | zero=>intro j _;rfl
 | succ i ih =>
  intro j hj;unfold limTo limStep;split
  ·rw[List.getElem?_set_ne (by omega)];exact ih j (by omega)
  ·exact ih j (by omega)
theorem psOk_set{ps:List Prt}(h:PsOk ps)(i:Nat)(p:Prt)(hp:0≤p.lo∧p.lo≤p.hi∧p.hi≤100000):PsOk (ps.set i p):=by
 intro q hq;rcases List.mem_or_eq_of_mem_set hq with h1 | h1
 ·exact h q h1
 ·rw[h1];exact hp
theorem limV_bd(N:List Nd)(s:Nat)(most:Int){ps:List Prt}{i:Nat}{p:Prt}(hp:ps[i]?=some p)(h:p.lo≤p.hi):p.lo≤limV N s most ps i∧limV N s most ps i≤p.hi:=by
 unfold limV;rw[hp];simp only;have:=(searchF_le (fun k=>moreF N s most (ps.set i ⟨p.name,p.lo,p.lo+k⟩)) ((p.hi-p.lo).toNat+1) 0 (p.hi-p.lo).toNat (Nat.zero_le _)).2
 omega
theorem limTo_ok(N:List Nd)(s:Nat)(most:Int){ps:List Prt}(h:PsOk ps):∀i,PsOk (limTo N s most ps i):=by
 intro i;induction i with
 | zero=>exact h
 | succ i ih =>
  unfold limTo limStep;split
  ·rename_i p hp;have hm:=ih p (List.mem_of_getElem? hp);have:=limV_bd N s most hp hm.2.1;exact psOk_set ih i _ ⟨by simp only;omega,Int.le_refl _,by simp only;omega⟩
  ·exact ih
theorem TreeOk.ps{ps ps':List Prt}{N:List Nd}(h:TreeOk ps N)(hp:PsOk ps')(hl:ps'.length=ps.length):TreeOk ps' N:=⟨hp,by rw[hl];exact h.pl,h.nd,h.n0,h.n7,h.kid⟩
def HeaviestPost(h:Hul)(l:List Wgh)(set:Int)(w:World)(e:Ending)(w':World):Prop :=
 BW w w'∧((enterE h l set≠0∧e=.returned (.tuple #[.slice none 0 0,iv (enterE h l set)]))∨(enterE h l set=0∧openPre h l=0∧Feas h l∧blockE h.ps.length h.js set=0∧∃N A cap,IsTree h l N∧e=.returned (.tuple #[.slice A h.ps.length cap,iv 0]) ∧
  w'.ownsRow w.heap.size 3 1 (.slice A h.ps.length cap) h.ps.length ((limL N set.toNat (mostV h N set.toNat) h.ps h.ps.length).map iv)))
theorem PartsAt.same{w':World}{q:Nat}{ps:List Prt}(h:PartsAt w q ps)(hs:w'.heap[q]?=w.heap[q]?)(hz:q<w'.heap.size):PartsAt w' q ps :=
 .of (fun i p hp=>by obtain⟨c0,c1,c2⟩:=h.cells hp;exact⟨(World.cell?_of_block (a:=⟨q,i*3,none⟩) hs).trans c0,(World.cell?_of_block (a:=⟨q,i*3+1,none⟩) hs).trans c1,(World.cell?_of_block (a:=⟨q,i*3+2,none⟩) hs).trans c2⟩) (fun o=>(World.frozen?_of_block (a:=⟨q,o,none⟩) hs).trans (h.fz o)) hz
theorem cutAt{H X:World→Nat→Nat→Prop}{R:Prop}(a:∀w5 q cq,H w5 q cq→X w5 q cq)(b:(∀w5 q cq,H w5 q cq→X w5 q cq)→R):R:=b a
theorem cell_set_ne{a p:Addr}{v:Value}(hc:w.cell? p=some v)(hne:a≠p)(u:Value):(w.setCell a u).cell? p=some v:=by rw[←hc];exact World.cell?_setCell_other w a p u hne
theorem TabAt.setSlice{B g n cap:Nat}{A:Option Addr}{N:List Nd}{bs:List Nat}(h:TabAt w B N bs)(hg:w.cell? ⟨g,0,none⟩=some (.slice A n cap))(u:Value):TabAt (w.setCell ⟨g,0,none⟩ u) B N bs:=by
 intro i nd hi;obtain⟨b,h1,h2,c0,c1,c2,c3,A',cap',c4,hk⟩:=h i nd hi;have hbg:g≠b:=fun e=>by subst e;rw[hg]at c0;cases c0
 refine⟨b,h1,h2,cell_set_ne c0 (fun e=>by injection e with e;exact hbg e) u,cell_set_ne c1 (by simp) u,cell_set_ne c2 (by simp) u,cell_set_ne c3 (by simp) u,A',cap',cell_set_ne c4 (by simp) u,fun k j hkj=>?_⟩
 obtain⟨bb,off,bj,e,hb,hj,hc⟩:=hk k j hkj;exact⟨bb,off,bj,e,hb,hj,cell_set_ne hc (fun e=>by rw[←e,hg]at hc;cases hc) u⟩
theorem heaviest_any(h:Hul)(A J:Option Addr)(B cap capJ:Nat)(AL:Option Addr)(l:List Wgh)(capL:Nat)(set:Int)(w:World)(hH:HulRd w B h A cap J capJ)(hL:RdN 3 encWgh w B AL l)(hlc:l.length≤capL)(hB:B≤w.heap.size) :
  Cs 37 #[hv h A cap J capJ,.slice AL l.length capL,iv set] w (HeaviestPost h l set w):=by
 obtain⟨i0,hi0,hz0,hzz1,hzz2⟩:=info_parts Tryz.info3b;obtain⟨W1,hW1,hb0,hz1,p0,p1,p2,p3,p4⟩:=hulBox w h A cap J capJ;obtain⟨W2,hW2⟩:=ex (W1.alloc (.cells #[iv set] 3));have hb1:BW w W2:=by rw[←hW2];exact bA hb0 _
 have hz2:W2.heap.size=w.heap.size+2:=by rw[←hW2];simp[hz1]
 have hb12:BW W1 W2:=by rw[←hW2];exact bA (bR _) _
 have p0:=kC hb12 p0;have p1:=kC hb12 p1;have p2:=kC hb12 p2;have p3:=kC hb12 p3;have p4:=kC hb12 p4;have q0:W2.cell? ⟨W1.heap.size,0,none⟩=some (iv set):=by rw[←hW2];clear hW2 hz1 hz2;go_simp
 have hen:=enter_any h A J B cap capJ AL l capL set W2 (hH.below hb1 hB) (hL.below hb1 hB) hlc (lT hB hb1.size);have HEN:=Lq hen;have HB1:=Lq hb1;have hz3:W1.heap.size<W2.heap.size:=by omega
 have hz4:w.heap.size≤W1.heap.size:=by omega
 clear hen hb1 hb0 hb12 hH hL hz2 hz1;go_enter Tryz.func37,Tryz.ntmps37
 go_wp2_with fail;refine HEN.out.mono ?_;rintro e w1 ⟨hb2,hpost⟩;have q0:=kC hb2 q0;have HB2:=Lq (bT HB1.out hb2);have hz5:=hb2.size;clear hb2 HEN hW1 hW2 HB1 p0 p1 p2 p3 p4;rcases hpost with⟨hne,d,rfl⟩ | ⟨h0,hp,hf,hbl,N,g,bs,br,km,BD,hN,rfl,HD⟩
 ·obtain⟨E,hE⟩:=ex (enterE h l set);have HE:=Lq hE;rw[hE]at hne ⊢;have hcb:(E==0)=false:=by simpa using hne
  clear hE;go_wp2_with fail
  go_ret2
  exact⟨bA HB2.out _,.inl ⟨by rw[HE.out];exact hne,by rw[HE.out];rfl⟩⟩
 ·have hk:=hulOk (openPre_zero hp).1;obtain⟨s,hs,_,hs2,rfl,_⟩:=blockE_zero hk.n8 hbl;have hT:=treeOk_isTree hp hN;have hn8:=hk.n8;have hn1:=hk.n1;obtain⟨w2,hw2⟩:=ex (w1.alloc (.cells #[ptr g] 113));have hbw2:BW w1 w2:=by rw[←hw2];exact bA (bR _) _
  have b8:Blk w2 w1.heap.size 113 #[ptr g]:=by rw[←hw2];exact Blk.new w1 113 _
  have hz6:w2.heap.size=w1.heap.size+1:=by rw[←hw2];simp
  have HD2:Hid (DeckHere W2 w2 h A cap J capJ N g bs br km BD):=Lq (HD.below hbw2);have hmo:=most_any HD2.out.st hT HD2.out.kn s hs;have hg0:=HD.g0;have hk0:=HD.k0;obtain⟨f8,hf8⟩:=ex w1.heap.size;obtain⟨f5,hf5⟩:=ex W1.heap.size;have y5:w2.cell? ⟨f5,0,none⟩=some (iv s):=by rw[←hf5];exact kC hbw2 q0
  rw[hf8]at b8 hz6;have HB3:Hid (BW w w2):=Lq (bT HB2.out hbw2);have hkl:=HD.kn.lt;have hgl:g<w1.heap.size:=lz HD.st.gB HD.st.hB;have hord:f5<f8∧W2.heap.size≤f8∧w.heap.size≤f5∧f5<W2.heap.size∧w.heap.size+1≤W2.heap.size:=by omega
  have HFC:Hid (∀e w',BW w w'→(∃A cap,e=.returned (.tuple #[.slice A h.ps.length cap,iv 0])∧w'.ownsRow w.heap.size 3 1 (.slice A h.ps.length cap) h.ps.length ((limL N s (mostV h N s) h.ps h.ps.length).map iv))→HeaviestPost h l s w e w'):=Lq fun e w' a ⟨A,cap,b⟩=>⟨a,.inr ⟨h0,hp,hf,hbl,N,A,cap,hN,b⟩⟩
  obtain⟨most,hmost⟩:=ex (mostV h N s);rw[hmost]at hmo HFC;have HMO:=Lq hmo;have HT:=Lq hT;have HPO:=Lq hT.po;have B8:=Lq b8;have Y5:=Lq y5;rw[hf5]at q0;have q0w:=q0;clear hmo hp hf hbl h0 hN hT HD hmost hk HB2 b8 y5 hbw2;have y8:w2.cell? ⟨f8,0,none⟩=some (ptr g):=B8.out.cell 0;have y5:=Y5.out;go_wp2_with fail;refine HMO.out.mono ?_;rintro e w3 ⟨rfl,ho3,hk3⟩;have hz7:=ho3.size;have HD3:Hid (DeckHere W2 w3 h A cap J capJ N g bs br km BD):=Lq (HD2.out.only ho3 hk3);have hnk:f8≠km∧f5≠km:=by omega
  obtain⟨w4,hw4⟩:=ex (w3.alloc (.cells #[iv most] 3));obtain⟨f9,hf9⟩:=ex w3.heap.size;have hb34:BW w3 w4:=by rw[←hw4];exact bA (bR _) _
  have ho4:OnlyAt w2 w4 km:=ho3.trans (OnlyAt.of_below hb34 km);have x9:w4.cell? ⟨f9,0,none⟩=some (iv most):=by rw[←hw4,←hf9];exact(Blk.new w3 3 #[iv most]).cell 0
  have HD4:Hid (DeckHere W2 w4 h A cap J capJ N g bs br km BD):=Lq (HD3.out.below hb34);have x8:w4.cell? ⟨f8,0,none⟩=some (ptr g):=ho4.cell y8 hnk.1;have x5:w4.cell? ⟨f5,0,none⟩=some (iv s):=ho4.cell y5 hnk.2;have xg:w4.cell? ⟨g,0,none⟩=some (.slice A h.ps.length cap):=HD4.out.st.c0;have fg:=HD4.out.fz 0;have hz8:w4.heap.size=f9+1:=by rw[←hw4,←hf9];simp
  have hBD4:=HD4.out.st.hB;have hcl:=cloneP_any A h.ps BD cap w4.drew hn8 (HD4.out.st.rp.below (belowDq (bR w4)) hBD4);have HCL:=Lq hcl;have HB4:Hid (BW w w4):=Lq (ho4.below HB3.out (by omega))
  have hgn:g≠f8∧g<f9:=by omega
  clear hcl hb34 ho4 ho3 hk3 HD3 HD2 HB3 y8 y5 B8 Y5 q0 q0w hw2 HMO;go_wp2_with fail;refine' cutAt (H:=fun w5 q cq=>BW w4 w5∧w4.heap.size≤q∧h.ps.length≤cq∧PartsAt w5 q h.ps) ?main ?reg
  case reg =>
   intro KEY;have HKEY:=Lq KEY;clear KEY
   go_region_with (go_at_call 87;(with_reducible refine HCL.out.mono ?_);rintro e w5 ⟨v5,rfl,hown5,hb5⟩;obtain⟨q,cq,rfl,hq1,hq2,hq3⟩:=PartsAt.own hown5 hn1;have u8:=kC (undrew0B hb5) x8;have ug:=kC (undrew0B hb5) xg;have vg:w5.frozen? ⟨g,0,none⟩=false:=(keepF (undrew0B hb5) xg).trans fg)
   all_goals exact HKEY.out w5 q cq ⟨undrew0B hb5,hq1,hq2,hq3⟩
  case main =>
   intro w5 q cq ⟨hb5,hq1,hq2,hq3⟩
   (try dsimp only)
   obtain⟨W6,hW6⟩:=ex (w5.setCell ⟨g,0,none⟩ (.slice (some ⟨q,0,none⟩) h.ps.length cq));have ho56:OnlyAt w5 W6 g:=by rw[←hW6];exact⟨rfl,rfl,rfl,by simp,fun k _ hne=>Below.heap_setCell _ _ _ _ hne⟩
   have hz9:=hb5.size;have hz10:=ho56.size;have HD5:=HD4.out.st.below hb5;have hql:=hq3.lt;have hPA:PartsAt W6 q h.ps:=.of (fun i p hp=>by obtain⟨c0,c1,c2⟩:=hq3.cells hp;exact⟨ho56.cell c0 (by omega),ho56.cell c1 (by omega),ho56.cell c2 (by omega)⟩) (fun o=>(ho56.frozen o hq3.lt (by omega)).trans (hq3.fz o)) (by omega)
   have hg6:W6.cell? ⟨g,0,none⟩=some (.slice (some ⟨q,0,none⟩) h.ps.length cq):=by rw[←hW6];exact World.cell?_setCell_same _ _ _ HD5.c0
   have hE:LimE W6 BD g q cq h.ps.length N bs br s most f8 f5 f9:=by
    refine⟨HD5.root, ?_,hg6, ?_,HD5.gB,by omega,ho56.cell (kC hb5 x8) (by omega),ho56.cell (kC hb5 x5) (by omega),ho56.cell (kC hb5 x9) (by omega),by omega,by omega,by omega⟩
    ·rw[←hW6];exact HD5.tab.setSlice HD5.c0 _
    ·rw[←hW6];exact cell_set_ne HD5.c5 (by simp) _
   have HB6:Hid (BW w W6):=Lq (by have:=bT HB4.out hb5;rw[←hW6];exact belowS this (show w.heap.size≤g by omega) _)
   have HE:=Lq hE;have HPA:=Lq hPA;have e8:=hE.e8;have e5:=hE.e5;rw[hW6];clear hq3 HD5 ho56 hb5 hW6 hPA hE HB4 HD4 x8 x5 x9 xg fg HCL hw4;go_wp2_with fail;have hq6:q<W6.heap.size:=by omega
   have hord2:f8<f9∧f9<q∧w.heap.size≤q:=by omega
   clear hg6 e8 e5 hql hz9 hz10 hq1 hz8 hf9 hz7 hBD4 hgn;go_loopw [6,43] (fun vv vi wr=>∃(k:Nat) (vo:Value),k≤h.ps.length∧vi=iv k∧vo=vv∧Hid (wr.ownsRow W6.heap.size 3 1 vo k ((limL N s most h.ps k).map iv))∧Hid (OnlyAt W6 wr q)∧Hid (PartsAt wr q (limTo N s most h.ps k))) (fun _ vi _=>h.ps.length-(intOf vi).toNat)
   case atStart=>exact⟨0,_,Nat.zero_le _,rfl,rfl,Lq (World.ownsRow_nil _ _ _ _),Lq (OnlyAt.refl W6 q),HPA⟩
   case round =>
    obtain⟨k,vo,hkk,rfl,rfl,HO,HA,HP⟩:=hrel;have hzr:=HA.out.size;by_cases hlt:k<h.ps.length
    ·obtain⟨p,hp⟩:=gX (l:=h.ps) (i:=k) hlt;have hpk:(limTo N s most h.ps k)[k]?=some p:=(limTo_at N s most h.ps k k (lr k)).trans hp;have hpo:=HPO.out p (List.mem_of_getElem? hp);have hsn:=limL_succ N s most h.ps k;have htn:limTo N s most h.ps (k+1)=(limTo N s most h.ps k).set k ⟨p.name,limV N s most (limTo N s most h.ps k) k,limV N s most (limTo N s most h.ps k) k⟩:=by
      rw[limTo,limStep,hpk]
     have hvb:=limV_bd N s most hpk hpo.2.1;have hlen:=limTo_len N s most h.ps k;have hTk:=HT.out.ps (limTo_ok N s most HPO.out k) hlen;have hvv:limV N s most (limTo N s most h.ps k) k=p.lo+searchF (fun j=>moreF N s most ((limTo N s most h.ps k).set k ⟨p.name,p.lo,p.lo+j⟩)) ((p.hi-p.lo).toNat+1) 0 (p.hi-p.lo).toNat:=by
      conv=>lhs;unfold limV
      rw[hpk]
     obtain⟨pk,hpkk⟩:=ex (limTo N s most h.ps k);rw[hpkk]at hpk hsn htn hvb hlen hTk hvv HP;obtain⟨v,hv⟩:=ex (limV N s most pk k);rw[hv]at hsn htn hvb hvv;obtain⟨c0,c1,c2⟩:=HP.out.cells hpk;have E:=HE.out.only HA.out;have x8:=E.e8;have xg:=E.c0;have HSN:=Lq hsn;have HTN:=Lq htn;have HVV:=Lq hvv;clear hsn htn hvv hv hpkk;have x8a:(wr.alloc (.cells #[.string p.name,iv p.lo,iv p.hi] 45)).cell? ⟨f8,0,none⟩=some (ptr g):=keepA x8 _;have xga:(wr.alloc (.cells #[.string p.name,iv p.lo,iv p.hi] 45)).cell? ⟨g,0,none⟩=some (.slice (some ⟨q,0,none⟩) h.ps.length cq):=keepA xg _;have l8:=lt_of_cell x8;have lg:=lt_of_cell xg;have lq:=HP.out.lt;obtain⟨f11,hf11⟩:=ex wr.heap.size;obtain⟨wa,hwa⟩:=ex ((wr.alloc (.cells #[.string p.name,iv p.lo,iv p.hi] 45)).alloc (.cells #[pT q (k*3+1)] 161));have hba:BW wr wa:=by rw[←hwa];exact bA (bA (bR _) _) _
     have b11:Blk wa f11 45 #[.string p.name,iv p.lo,iv p.hi]:=by rw[←hwa,←hf11];exact(Blk.new wr 45 _).alloc _
     have b12:Blk wa (f11+1) 161 #[pT q (k*3+1)]:=by
      rw[←hwa,←hf11];have:=Blk.new (wr.alloc (.cells #[.string p.name,iv p.lo,iv p.hi] 45)) 161 #[pT q (k*3+1)]
      rwa [World.size_alloc]at this
     have hza:wa.heap.size=f11+2:=by rw[←hwa,←hf11];simp
     have od:OnlyAt wr wa.drew q:=(OnlyAt.of_below hba q).drew;have Ea:=E.only od;have Pa:=HP.out.below (belowDq hba);have n11:f11≠q:=by omega
     have n12:f11+1≠q:=by omega
     obtain⟨d,hd⟩:∃d:Nat,(p.hi-p.lo).toNat=d:=⟨_,rfl⟩;have hsub:IntKind.i64.wrap (p.hi-p.lo)=(d:Int):=by
      have:p.hi-p.lo=(d:Int):=by omega
      rw[this];exact wrap62 _ (by omega) (by omega)
     have hse:=search75_any (ptr f11) (ptr (f11+1)) (ptr f8) (ptr f5) (ptr f9) (fun j=>moreF N s most (pk.set k ⟨p.name,p.lo,p.lo+j⟩)) (fun X=>OnlyAt wa.drew X q∧∃v,PartsAt X q (pk.set k ⟨p.name,p.lo,v⟩)) d wa.drew (by omega)
      ⟨OnlyAt.refl _ _,p.hi,by
       have:pk.set k ⟨p.name,p.lo,p.hi⟩=pk:=List.ext_getElem? (fun j=>by
        by_cases hj:k=j
        ·subst hj;rw[List.getElem?_set_self (by omega),hpk]
        ·rw[List.getElem?_set_ne hj])
       rw[this];exact Pa⟩
      (fun W j hW hj=>by
       obtain⟨hWo,v',hW⟩:=hW;have hEW:=Ea.only hWo;have hat:(pk.set k ⟨p.name,p.lo,v'⟩)[k]?=some ⟨p.name,p.lo,v'⟩:=List.getElem?_set_self (by omega)
       have hlw:(pk.set k (⟨p.name,p.lo,v'⟩:Prt)).length=h.ps.length:=by rw[List.length_set,hlen]
       have hTj:TreeOk ((pk.set k ⟨p.name,p.lo,v'⟩).set k ⟨p.name,p.lo,p.lo+j⟩) N:=by rw[List.set_set];exact hTk.ps (psOk_set hTk.po k _ ⟨hpo.1,by simp only;omega,by simp only;omega⟩) (by rw[List.length_set])
       have:=more_any (cap:=cq) (ps:=pk.set k ⟨p.name,p.lo,v'⟩) (by rw[hlw];exact hEW) hW hat j (by simp only;omega) hpo.1 hTj hs f11 (f11+1) (hWo.cell (b11.cell 1) n11) (hWo.cell (b12.cell 0) n12)
       rw[List.set_set]at this;exact this.mono (fun e w' hp=>⟨hp.1,hWo.trans hp.2.1,_,hp.2.2⟩))
     rw[hd]at HVV;obtain⟨R,hR⟩:=ex (searchF (fun j=>moreF N s most (pk.set k ⟨p.name,p.lo,p.lo+j⟩)) (d+1) 0 d)
     rw[hR]at hse HVV;have hvR:=HVV.out;have hadd:IntKind.i64.wrap (p.lo+(R:Int))=v:=by rw[←hvR];exact wrap62 _ (by omega) (by omega)
     have HSE:=Lq hse;have HC:Hid (∀W,OnlyAt wa.drew W q→W.cell? ⟨f11,1,none⟩=some (iv p.lo)∧W.cell? ⟨f11,2,none⟩=some (iv p.hi)):=Lq fun W ho=>⟨ho.cell (b11.cell 1) n11,ho.cell (b11.cell 2) n11⟩
     have HEA:=Lq Ea;have HBA:=Lq hba;have HPS:=Lq hp;have B12:=Lq b12;have HOR:=Lq (OnlyAt.refl wa.drew q);have hkl8:k<pk.length:=by omega
     clear hse hR hvR Ea E Pa od b11 b12 hba HVV hp hpk hTk;go_wp2_with fail;go_region_held3 (fun W=>W.cell? ⟨f11,1,none⟩=some (iv p.lo)∧W.cell? ⟨f11,2,none⟩=some (iv p.hi)) (first | exact HC.out wa.drew HOR.out | exact HC.out w7 ho7) ((go_at_call 88;(with_reducible refine HSE.out.mono ?_);rintro e w7 ⟨rfl,ho7,v7,hp7⟩))
     have hat7:(pk.set k (⟨p.name,p.lo,v7⟩:Prt))[k]?=some ⟨p.name,p.lo,v7⟩:=List.getElem?_set_self hkl8;obtain⟨d0,d1,d2⟩:=hp7.cells hat7;have df1:=hp7.fz (k*3+1);have df2:=hp7.fz (k*3+2);have hp8:=(hp7.setLo hat7 v);rw[List.set_set]at hp8;have hp9:=(hp8.setHi (List.getElem?_set_self hkl8) v);rw[List.set_set]at hp9;obtain⟨w9,hw9⟩:=ex ((w7.setCell ⟨q,k*3+1,none⟩ (iv v)).setCell ⟨q,k*3+2,none⟩ (iv v));rw[hw9]at hp9;have ho79:OnlyAt w7 w9 q:=by rw[←hw9];exact⟨rfl,rfl,rfl,by simp,fun j _ hne=>(Below.heap_setCell _ _ _ _ hne).trans (Below.heap_setCell _ _ _ _ hne)⟩
     have y12:w7.cell? ⟨f11+1,0,none⟩=some (pT q (k*3+1)):=ho7.cell (B12.out.cell 0) n12;have HA9:Hid (OnlyAt W6 w9 q):=Lq (HA.out.trans (((OnlyAt.of_below HBA.out q).drew).trans (ho7.trans ho79)));have HO9:Hid (w9.ownsRow W6.heap.size 3 1 vo k ((limL N s most h.ps k).map iv)):=Lq (own_onlyB (own_belowB HO.out HBA.out) ((OnlyAt.refl wa q).drew.trans (ho7.trans ho79)) hq6);have HP9:=Lq hp9;have hz9:W6.heap.size≤w9.heap.size:=HA9.out.size;clear ho7 ho79 hp7 hp8 hp9 hat7 HA HO HP HC HSE HEA HOR HBA x8 xg x8a xga c0 c1 c2;have HAL:=Lq (HO9.out.alloc (.cells #[iv v] 3));go_wp2_with (at_builtin;refine wpList_append_own _ rfl _ _ 65 rfl W6.heap.size 3 i0 (iv 0) 1 8 Tryz.underlying65 hi0 hz0 hzz1 hzz2 rfl (by decide) _ _ _ rfl HAL.out ⟨w9.heap.size,0,none⟩ 1 1 [iv v] rfl rfl ?d1 ?d2 ?d3 ?d4 ?d5 ?_)
     case d2=>simp[Value.oneCell']
     case d3=>unfold maxLen;omega
     case d4=>omega
     case d5=>first | omega | (simp;omega)
     intro v10 w10 hown10 hg10 _;have hq9:q<w9.heap.size:=HP9.out.lt;have hA10:OnlyAt W6 w10 q:=(HA9.out.trans (OnlyAt.of_below (bA (bR w9) _) q)).grown HAL.out hg10 (lr _);have hP10:PartsAt w10 q (pk.set k ⟨p.name,v,v⟩):=(HP9.out.below (bA (bR w9) _)).same (hg10.block q (by simp only[World.size_alloc];omega) (fun e=>by have:=(HAL.out.lt q e.symm).1;omega)) (by have:=hg10.size;simp only[World.size_alloc]at this;omega)
     have HO10:=Lq hown10;have HA10:=Lq hA10;have HP10:=Lq hP10;clear hown10 hg10 hA10 hP10 HAL hw9 d0 d1 d2 df1 df2 y12;go_wp2_with fail;exact⟨⟨k+1,_,by omega,by go_num,rfl,Lq (by rw[HSN.out,List.map_append];exact HO10.out),HA10,Lq (by rw[HTN.out];exact HP10.out)⟩,by simp[intOf];omega⟩
    ·obtain rfl:k=h.ps.length:=by omega
     obtain⟨gg,cc,rfl,_,_,_⟩:=own_form HO.out (by omega)
     go_wp2_with fail
     go_ret2
     exact HFC.out _ _ (HA.out.below HB6.out (by omega)) ⟨_,cc,rfl,own_baseB HO.out HB6.out.size⟩
end
section
variable{k:Nat}
attribute [local go_sem] Oper.semAt_some
theorem flat_atG{α:Type}{encs:α→List Value}(he:∀x,(encs x).length=k):∀(xs:List α) (i:Nat) (x:α),xs[i]?=some x→∀j,j<k→(xs.flatMap encs)[i*k+j]?=(encs x)[j]?
 | [],i,p,hp,j,hj=>by simp at hp
 | a::l,0,p,hp,j,hj=>by simp only[List.getElem?_cons_zero,Option.some.injEq]at hp;subst hp;rw[List.flatMap_cons,List.getElem?_append_left (by rw[he];omega),Nat.zero_mul,Nat.zero_add]
 | a::l,i+1,p,hp,j,hj=>by
  simp only[List.getElem?_cons_succ]at hp;have e:(i+1)*k+j=k+(i*k+j):=by rw[Nat.succ_mul];omega
  rw[List.flatMap_cons,List.getElem?_append_right (by rw[he];omega),←flat_atG he l i p hp j hj,he,e,Nat.add_sub_cancel_left]
theorem Blk.rdNb{α:Type}{encs:α→List Value}(he:∀x,(encs x).length=k){w:World}{b B:Nat}{t:TypeId}{xs:List α}(h:Blk w b t (xs.flatMap encs).toArray)(hB:b<B):RdN k encs w B (some ⟨b,0,none⟩) xs:=by
 intro i x hx;refine⟨b,0,rfl,hB,fun j u hu=>?_⟩
 have hj:j<k:=by rw[←he x];exact(lG hu)
 rw[Nat.zero_add,h.cell];have:=flat_atG he xs i x hx j hj;rw[←hu,←this];simp
def hul7:Hul:=⟨[⟨⟨#[97]⟩,100,120⟩,⟨⟨#[98]⟩,200,220⟩,⟨⟨#[99]⟩,50,60⟩,⟨⟨#[100]⟩,300,330⟩],[(0,1),(1,2),(2,3)],500,600,220⟩
def wgh7:List Wgh:=[⟨12,350,360⟩]
theorem weighed_any(w:World):Cs 36 #[] w fun e w'=>Below w.heap.size w w'∧∃A,e=.returned (.slice A 1 1)∧RdN 3 encWgh w' w'.heap.size A wgh7:=by
 have HS:=Lq fun(W:World)=>span_any 350 360 W
 go_enter Tryz.func36,Tryz.ntmps36
 go_wp2_with fail;refine(HS.out w).mono ?_;rintro e w1 ⟨rfl,hb⟩;have HB:=Lq hb;clear hb HS;go_wp2_with fail;go_ret
 refine⟨bA HB.out _,some ⟨w1.heap.size,0,none⟩,rfl, ?_⟩;exact Blk.rdNb encWgh_len (xs:=wgh7) (Blk.new w1 159 _) (by simp)
theorem hull_any(w:World):Cs 35 #[] w fun e w'=>Below w.heap.size w w'∧∃A J,e=.returned (hv hul7 A 4 J 3)∧HulRd w' w'.heap.size hul7 A 4 J 3:=by
 have HS:=Lq span_any;go_enter Tryz.func35,Tryz.ntmps35
 obtain⟨W0,hW0⟩:=ex (w.alloc (.cells #[.slice none 0 0,.slice none 0 0,iv 0,iv 0,iv 0] 40));have b0:Blk W0 w.heap.size 40 #[.slice none 0 0,.slice none 0 0,iv 0,iv 0,iv 0]:=by rw[←hW0];exact Blk.new w 40 _
 have B0:=Lq b0;have HBW:Hid (Below w.heap.size w W0):=Lq (by rw[←hW0];exact bA (bR w) _)
 have hz0:W0.heap.size=w.heap.size+1:=by rw[←hW0];simp
 clear b0;go_wp2_with fail;refine(HS.out _ _ _).mono ?_;rintro e w1 ⟨rfl,hb1⟩;have HB1:=Lq hb1;have k1:=hb1.size;clear hb1 hW0;go_wp2_with fail;refine(HS.out _ _ _).mono ?_;rintro e w2 ⟨rfl,hb2⟩;have HB2:=Lq (bT HB1.out hb2);have k2:=hb2.size;clear hb2;go_wp2_with fail;refine(HS.out _ _ _).mono ?_;rintro e w3 ⟨rfl,hb3⟩;have HB3:=Lq (bT HB2.out hb3);have k3:=hb3.size;clear hb3;go_wp2_with fail;refine(HS.out _ _ _).mono ?_;rintro e w4 ⟨rfl,hb4⟩;have HB4:=Lq (bT HB3.out hb4);have k4:=hb4.size;clear hb4;obtain⟨W5,hW5⟩:=ex ((w4.alloc (.cells #[.string ⟨#[97]⟩,iv 100,iv 120,.string ⟨#[98]⟩,iv 200,iv 220,.string ⟨#[99]⟩,iv 50,iv 60,.string ⟨#[100]⟩,iv 300,iv 330] 45)).alloc (.cells #[iv 0,iv 1,iv 1,iv 2,iv 2,iv 3] 47));have bp:Blk W5 w4.heap.size 45 (hul7.ps.flatMap encPrt).toArray:=by rw[←hW5];exact(Blk.new w4 45 _).alloc _
 have bj:Blk W5 (w4.heap.size+1) 47 (hul7.js.flatMap encSp).toArray:=by
  rw[←hW5];have:=Blk.new (w4.alloc (.cells #[.string ⟨#[97]⟩,iv 100,iv 120,.string ⟨#[98]⟩,iv 200,iv 220,.string ⟨#[99]⟩,iv 50,iv 60,.string ⟨#[100]⟩,iv 300,iv 330] 45)) 47 (hul7.js.flatMap encSp).toArray
  rwa [World.size_alloc]at this
 have hb45:Below w4.heap.size w4 W5:=by rw[←hW5];exact bA (bA (bR w4) _) _
 have hz5:W5.heap.size=w4.heap.size+2:=by rw[←hW5];simp
 have HB5:=Lq (bT HB4.out hb45);have BP:=Lq bp;have BJ:=Lq bj;clear hb45 bp bj;go_wp2_with fail;refine(HS.out _ _ _).mono ?_;rintro e w6 ⟨rfl,hb6⟩;have b0:Blk w6 w.heap.size 40 #[.slice none 0 0,.slice none 0 0,iv 0,iv 0,iv 0]:=(B0.out.same (HB5.out.block _ B0.out.lt)).same (hb6.block _ (by omega))
 have bp:=BP.out.same (hb6.block _ BP.out.lt);have bj:=BJ.out.same (hb6.block _ BJ.out.lt);have hb:=bT (bT HBW.out HB5.out) hb6;have hz6:=hb6.size;have d0:=b0.cell 0;have d1:=b0.cell 1;have d2:=b0.cell 2;have d3:=b0.cell 3;have d4:=b0.cell 4;have f0:=b0.frozen 0;have f1:=b0.frozen 1;have f2:=b0.frozen 2;have f3:=b0.frozen 3;have f4:=b0.frozen 4;have BP:=Lq bp;have BJ:=Lq bj;have HB:=Lq hb;have B6:=Lq b0;clear hb6 b0 bp bj hb hW5 HS HB1 HB2 HB3 HB4 HB5;go_wp2_with fail;obtain⟨pb,hpb⟩:=ex w4.heap.size;obtain⟨tb,htb⟩:=ex w.heap.size;rw[hpb,htb];have hl1:w.heap.size<pb:=by omega
 rw[hpb]at BP BJ;have HB':=HB.out;have B6':=B6.out;rw[htb]at HB' B6' hl1;obtain⟨wx,hwx⟩:=ex ((((((w6.setCell ⟨tb,0,none⟩ (.slice (some ⟨pb,0,none⟩) 4 4)).setCell ⟨tb,1,none⟩ (.slice (some ⟨pb+1,0,none⟩) 3 3)).setCell ⟨tb,2,none⟩ (iv 500)).setCell ⟨tb,3,none⟩ (iv 600)).setCell ⟨tb,4,none⟩ (iv 220)));have bx:Blk wx tb 40 #[.slice (some ⟨pb,0,none⟩) 4 4,.slice (some ⟨pb+1,0,none⟩) 3 3,iv 500,iv 600,iv 220]:=by rw[←hwx];exact((((B6'.set_ 0 _).set_ 1 _).set_ 2 _).set_ 3 _).set_ 4 _
 have bp:Blk wx pb 45 (hul7.ps.flatMap encPrt).toArray:=by rw[←hwx];exact((((BP.out.far (by simp only;omega) _).far (by simp only;omega) _).far (by simp only;omega) _).far (by simp only;omega) _).far (by simp only;omega) _
 have bj:Blk wx (pb+1) 47 (hul7.js.flatMap encSp).toArray:=by rw[←hwx];exact((((BJ.out.far (by simp only;omega) _).far (by simp only;omega) _).far (by simp only;omega) _).far (by simp only;omega) _).far (by simp only;omega) _
 have hbx:Below tb w wx:=by
  rw[←hwx];have hle:∀o,tb≤(⟨tb,o,none⟩:Addr).block:=fun _=>lr _
  exact((((HB'.setCell (hle 0) _).setCell (hle 1) _).setCell (hle 2) _).setCell (hle 3) _).setCell (hle 4) _
 have y0:wx.cell? ⟨tb,0,none⟩=some (.slice (some ⟨pb,0,none⟩) 4 4):=bx.cell 0;have y1:wx.cell? ⟨tb,1,none⟩=some (.slice (some ⟨pb+1,0,none⟩) 3 3):=bx.cell 1;have y2:wx.cell? ⟨tb,2,none⟩=some (iv 500):=bx.cell 2;have y3:wx.cell? ⟨tb,3,none⟩=some (iv 600):=bx.cell 3;have y4:wx.cell? ⟨tb,4,none⟩=some (iv 220):=bx.cell 4;rw[hwx];clear hwx;refine bodyPost_ret (v:=hv hul7 (some ⟨pb,0,none⟩) 4 (some ⟨pb+1,0,none⟩) 3) (by simp[results,Tryz.results35,go_sem,y0,y1,y2,y3,y4,hul7]) rfl ?_
 refine⟨hbx,_,_,rfl,Blk.rdNb encPrt_len bp bp.lt,Blk.rdNb encSp_len bj bj.lt,by decide,by decide,by decide,by decide, ?_⟩
 intro p hp;simp only[hul7,List.mem_cons,List.not_mem_nil,or_false]at hp;rcases hp with rfl | rfl | rfl | rfl<;>decide
end
section
variable{i:Nat}
attribute [local go_sem] Oper.semAt_some
section
variable {α:Type} [DecidableEq α]
def eqTo(l l':List α)(i:Nat):Bool:=decide (l.length=l'.length)&&decide (l.take i=l'.take i)
theorem eqTo_zero(l l':List α):eqTo l l' 0=decide (l.length=l'.length):=by simp[eqTo]
theorem eqTo_false{l l':List α}(h:eqTo l l' i=false):decide (l=l')=false:=by rw[decide_eq_false_iff_not];rintro rfl;simp[eqTo]at h
theorem eqTo_full{l l':List α}(h:eqTo l l' l.length=true):decide (l=l')=true:=by simp only[eqTo,Bool.and_eq_true,decide_eq_true_eq]at h;obtain⟨h1,h2⟩:=h;rw[List.take_length,h1,List.take_length]at h2;rw[decide_eq_true_eq];exact h2
theorem eqTo_len{l l':List α}(h:eqTo l l' i=true):l.length=l'.length:=by simp only[eqTo,Bool.and_eq_true,decide_eq_true_eq]at h;exact h.1
theorem eqTo_step{l l':List α}{x y:α}(h:eqTo l l' i=true)(hx:l[i]?=some x)(hy:l'[i]?=some y):eqTo l l' (i+1)=decide (x=y):=by
 simp only[eqTo,Bool.and_eq_true,decide_eq_true_eq]at h;obtain⟨h1,h2⟩:=h;have e1:l.take (i+1)=l.take i++[x]:=by rw[List.take_add_one,hx];rfl
 have e2:l'.take (i+1)=l'.take i++[y]:=by rw[List.take_add_one,hy];rfl
 unfold eqTo;rw[e1,e2,h2,h1];simp
end
@[go_sem] theorem eq25 (a b c d:Int) (w:World):(Op.equalIn 10000 36 (.agg #[iv a,iv b]) (.agg #[iv c,iv d])).run Tryz.prog w=.ok (a==c&&b==d) w:=by
 have u3:=Tryz.underlying3;have a3:=Tryz.isAgg3;have z3:=Tryz.sizeOf3;have hS:Tryz.prog.underlying 36=some (.struct (Tryz.prog.fieldsOf 36)):=by kernel_rfl
 have hp:Tryz.prog.stoodInHeld 36=false:=by kernel_rfl
 rw[show(10000:Nat)=9999+1 from rfl,run_equalIn_agg w 9999 36 _ _ hS hp]
 simp only[Program.fieldsOf,Tryz.underlying36];go_simp;by_cases h1:a=c<;>by_cases h2:b=d<;>simp[h1,h2]
theorem ints_any(A A':Option Addr)(l l':List Int)(B cap cap':Nat)(w:World)(hR:Rd1 iv w B A l)(hR':Rd1 iv w B A' l')(hl:l.length≤1000)(_hl':l'.length≤1000)(hB:B≤w.heap.size) :
  Cs 32 #[.slice A l.length cap,.slice A' l'.length cap'] w (Rt w (.bool (decide (l=l')))):=by
 have HR:=Lq (And.intro hR hR');obtain⟨R,hRR⟩:=ex (decide (l=l'));have HRR:=Lq hRR;have HZ:=Lq (eqTo_zero l l');obtain⟨z,hz⟩:=ex (eqTo l l' 0);rw[hz]at HZ;have HZZ:=Lq hz;have hzi:((l.length:Int)==(l'.length:Int))=z:=by rw[HZ.out];rw[Bool.eq_iff_iff];simp;omega
 rw[hRR];clear hRR hR hR' hz;go_enter Tryz.func32,Tryz.ntmps32
 go_wp2_with fail;clear hzi;go_loopw [5,6] (fun vs vi wr=>∃(q:Bool) (i:Nat),i≤l.length∧vi=iv i∧vs=.bool q∧Hid (eqTo l l' i=q)∧Hid (BW w wr)) (fun _ vi _=>l.length-(intOf vi).toNat)
 case atStart=>exact⟨z,0,Nat.zero_le _,rfl,rfl,HZZ,Lq (bR w)⟩
 case round =>
  obtain⟨q,i,hi,rfl,rfl,HQ,HW⟩:=hrel;by_cases hlt:i<l.length
  ·cases q
   ·go_wp2_with fail;go_ret
    exact⟨by rw[←HRR.out,eqTo_false HQ.out];rfl,HW.out⟩
   ·have hle:=eqTo_len HQ.out;obtain⟨x,hx⟩:=gX (l:=l) (i:=i) hlt;obtain⟨y,hy⟩:=gX (l:=l') (i:=i) (by omega)
    have hst:=eqTo_step HQ.out hx hy;have hlt':i<l'.length:=by omega
    have hwr:=HW.out.size;obtain⟨b1,o1,rfl,hb1,c1⟩:=HR.out.1 i x hx;obtain⟨b2,o2,rfl,hb2,c2⟩:=HR.out.2 i y hy;have c1:=(HW.out.cell (p:=⟨b1,o1+i,none⟩) (by simp only;omega)).trans c1
    have c2:=(HW.out.cell (p:=⟨b2,o2+i,none⟩) (by simp only;omega)).trans c2
    have d1:wr.drew.cell? ⟨b1,o1+i,none⟩=some (iv x):=c1;have d2:wr.drew.cell? ⟨b2,o2+i,none⟩=some (iv y):=c2;have hxy:(x==y)=decide (x=y):=by rw[Bool.eq_iff_iff];simp
    obtain⟨q,hq⟩:=ex (decide (x=y));rw[hq]at hst hxy;have HST:=Lq hst;clear hst hq hx hy c1 c2 hle;go_wp2_with fail;go_region_held3 (fun W=>W.cell? ⟨b1,o1+i,none⟩=some (iv x)∧W.cell? ⟨b2,o2+i,none⟩=some (iv y)) (exact⟨d1,d2⟩) (fail)
    go_wp2_with fail;exact⟨⟨q,i+1,by omega,by go_num,rfl,HST,Lq (belowDq HW.out)⟩,by simp[intOf];omega⟩
  ·obtain rfl:i=l.length:=by omega
   have hr:q=R:=by
    rw[←HRR.out];cases q
    ·exact(eqTo_false HQ.out).symm
    ·exact(eqTo_full HQ.out).symm
   go_wp2_with fail;go_ret
   exact⟨by rw[hr];rfl,HW.out⟩
theorem spans_any(A A':Option Addr)(l l':List (Int×Int))(B cap cap':Nat)(w:World)(hR:RdN 2 encSp w B A l)(hR':RdN 2 encSp w B A' l')(hl:l.length≤1000)(_hl':l'.length≤1000)(hB:B≤w.heap.size) :
  Cs 42 #[.slice A l.length cap,.slice A' l'.length cap'] w (Rt w (.bool (decide (l=l')))):=by
 have HR:=Lq (And.intro hR hR');obtain⟨R,hRR⟩:=ex (decide (l=l'));have HRR:=Lq hRR;have HZ:=Lq (eqTo_zero l l');obtain⟨z,hz⟩:=ex (eqTo l l' 0);rw[hz]at HZ;have HZZ:=Lq hz;have hzi:((l.length:Int)==(l'.length:Int))=z:=by rw[HZ.out];rw[Bool.eq_iff_iff];simp;omega
 rw[hRR];clear hRR hR hR' hz;have gm:Tryz.prog.eqGuardType Tryz.prog.depth 25=false:=by kernel_rfl
 have hbo:∀(a b c d:Int) (w:World),(binOp .eql 36 (.agg #[iv a,iv b]) (.agg #[iv c,iv d])).run Tryz.prog w=.ok (.bool (a==c&&b==d)) w:=fun a b c d w=>by rw[run_eql_struct,eq25];rfl
 go_enter Tryz.func42,Tryz.ntmps42
 go_wp2_with fail;clear hzi;go_loopw [5,6] (fun vs vi wr=>∃(q:Bool) (i:Nat),i≤l.length∧vi=iv i∧vs=.bool q∧Hid (eqTo l l' i=q)∧Hid (BW w wr)) (fun _ vi _=>l.length-(intOf vi).toNat)
 case atStart=>exact⟨z,0,Nat.zero_le _,rfl,rfl,HZZ,Lq (bR w)⟩
 case round =>
  obtain⟨q,i,hi,rfl,rfl,HQ,HW⟩:=hrel;by_cases hlt:i<l.length
  ·cases q
   ·go_wp2_with fail;go_ret
    exact⟨by rw[←HRR.out,eqTo_false HQ.out];rfl,HW.out⟩
   ·have hle:=eqTo_len HQ.out;obtain⟨x,hx⟩:=gX (l:=l) (i:=i) hlt;obtain⟨y,hy⟩:=gX (l:=l') (i:=i) (by omega)
    have hst:=eqTo_step HQ.out hx hy;have hlt':i<l'.length:=by omega
    have hwr:=HW.out.size;obtain⟨b1,o1,rfl,hb1,c1⟩:=HR.out.1 i x hx;obtain⟨b2,o2,rfl,hb2,c2⟩:=HR.out.2 i y hy;obtain⟨x1,x2⟩:=x;obtain⟨y1,y2⟩:=y;have d1:wr.drew.cell? ⟨b1,o1+i*2,none⟩=some (iv x1):=(HW.out.cell (p:=⟨b1,_,none⟩) (by simp only;omega)).trans (c1 0 _ rfl)
    have d2:wr.drew.cell? ⟨b1,o1+i*2+1,none⟩=some (iv x2):=(HW.out.cell (p:=⟨b1,_,none⟩) (by simp only;omega)).trans (c1 1 _ rfl)
    have d3:wr.drew.cell? ⟨b2,o2+i*2,none⟩=some (iv y1):=(HW.out.cell (p:=⟨b2,_,none⟩) (by simp only;omega)).trans (c2 0 _ rfl)
    have d4:wr.drew.cell? ⟨b2,o2+i*2+1,none⟩=some (iv y2):=(HW.out.cell (p:=⟨b2,_,none⟩) (by simp only;omega)).trans (c2 1 _ rfl)
    have hxy:(x1==y1&&x2==y2)=decide ((x1,x2)=(y1,y2)):=by rw[Bool.eq_iff_iff];simp
    obtain⟨q,hq⟩:=ex (decide ((x1,x2)=(y1,y2)));rw[hq]at hst hxy;have HST:=Lq hst;clear hst hq hx hy c1 c2 hle;go_wp2_with fail;go_region_held3 (fun W=>W.cell? ⟨b1,o1+i*2,none⟩=some (iv x1)∧W.cell? ⟨b1,o1+i*2+1,none⟩=some (iv x2)∧W.cell? ⟨b2,o2+i*2,none⟩=some (iv y1)∧W.cell? ⟨b2,o2+i*2+1,none⟩=some (iv y2)) (exact⟨d1,d2,d3,d4⟩) (fail)
    go_wp2_with fail;exact⟨⟨q,i+1,by omega,by go_num,rfl,HST,Lq (belowDq HW.out)⟩,by simp[intOf];omega⟩
  ·obtain rfl:i=l.length:=by omega
   have hr:q=R:=by
    rw[←HRR.out];cases q
    ·exact(eqTo_false HQ.out).symm
    ·exact(eqTo_full HQ.out).symm
   go_wp2_with fail;go_ret
   exact⟨by rw[hr];rfl,HW.out⟩
end
end Go.Proofs.YtigcophcpboanaaGreatDoor
