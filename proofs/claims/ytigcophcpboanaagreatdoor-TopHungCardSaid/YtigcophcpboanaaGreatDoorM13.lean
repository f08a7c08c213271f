/- hull: open, Check. hull: Ship (printed by mkHB4.py). hull: two regions of Weigh (printed .. -/
import Derived.Test.YtigcophcpboanaaGreatDoorM12
set_option maxRecDepth 1000000
set_option maxHeartbeats 0
namespace Go.Proofs.YtigcophcpboanaaGreatDoor
open Go.RowKit
def OpenPost(ms:List HuM)(cs:List HcM)(day:Int)(w:World)(e:Ending)(w':World):Prop:=∃(r:Int) (A:Option Addr) (n c:Nat),e=.returned (.tuple #[.agg #[.slice A n c],iv r])∧BW w w'∧(r=0↔PlanOk (psOf ms) (csOf cs)∧inB 0 40000 day=true)∧(r=0→∃out:List HuM,n=out.length∧psOf out=shipOn day (psOf ms) (csOf cs)∧SlM w' w'.heap.size A c out)
def OpenPost2(ms:List HuM)(cs:List HcM)(day:Int)(w:World)(e:Ending)(w':World):Prop:=∃(r:Int) (A:Option Addr) (n c:Nat),e=.returned (.tuple #[.agg #[.slice A n c],iv r])∧BW w w'∧(r=0↔PlanOk (psOf ms) (csOf cs)∧inB 0 40000 day=true)∧(r=0→∃out:List HuM,n=out.length∧psOf out=shipOn day (psOf ms) (csOf cs)∧SlM w' w'.heap.size A c out)∧(r≠0→inB 0 40000 day=true→Cd ms cs r)
theorem open47_all(A C:Option Addr)(ms:List HuM)(cs:List HcM)(B cap capc:Nat)(day:Int)(w:World)(hB:B≤w.heap.size)(H:SlM w B A cap ms)(HC:SlC w B C capc cs)(HW:∀c∈cs,Lit.wf (.int .i64 c.what)=true) :
  Cs 44 #[.agg #[.slice A ms.length cap,.slice C cs.length capc],iv day] w (OpenPost2 ms cs day w):=by
 obtain⟨W1,hW1⟩:=ex (w.alloc (.cells #[.slice A ms.length cap,.slice C cs.length capc] 27));obtain⟨W2,hW2⟩:=ex (W1.alloc (.cells #[.slice none 0 0] 102));obtain⟨gp,hgp⟩:=ex w.heap.size;obtain⟨gn,hgn⟩:=ex W1.heap.size;have z1:W1.heap.size=w.heap.size+1:=by rw[←hW1];simp
 have b1:BW w W1:=by rw[←hW1];exact bA (bR w) _
 have b2:BW W1 W2:=by rw[←hW2];exact bA (bR _) _
 have q1:Blk W1 gp 27 #[.slice A ms.length cap,.slice C cs.length capc]:=by rw[←hW1,←hgp];exact Blk.new w 27 _
 have q2:Blk W2 gn 102 #[.slice none 0 0]:=by rw[←hW2,←hgn];exact Blk.new W1 102 _
 have q2p:=q1.keep b2;have b3:=bT b1 b2;have HGN:Hid (w.heap.size≤gn):=Lq (by omega)
 have HBD:Hid (Cs 97 #[.agg #[.slice A ms.length cap,.slice C cs.length capc],iv day] W2 (BuildPost2 A cap ms cs day W2)):=Lq (build94_all A C ms cs B cap capc day W2 (lT hB b3.size) (H.below b3 hB) (HC.below b3 hB) HW);have HI:Hid (∀g W,W.cell? ⟨g,0,none⟩=some (iv day)→Cs 59 #[iv 0,iv 40000,.slice (some ⟨g,0,none⟩) 1 1] W (Rt W (.bool (!inB 0 40000 day)))):=Lq fun g W hc=>out_oneH 0 40000 day g W hc (lt_of_cell hc)
 obtain⟨bI,hbI⟩:=ex (inB 0 40000 day);have KI:=Lq hbI;rw[hbI]at HI;have HB3:=Lq b3;have HQN:=Lq q2;have x0:=q2p.c 0;have x1:=q2p.c 1;clear H HC HW b1 b2 b3 q1 q2 q2p z1 hbI;go_enter Tryz.func44,Tryz.ntmps44
 go_wp2_with fail;refine HBD.out.mono ?_;rintro e w3 ⟨p,i,r,Ax,n,c,rfl,hb,hiff,hyes,_,hcd⟩;have HB4:=Lq hb;have HIFF:=Lq hiff;have HYES:=Lq hyes;have HCD:=Lq hcd;have n0:=(HQN.out.keep hb).c 0;have nf:=(HQN.out.keep hb).frozen 0;have nl:=(HQN.out.keep hb).lt;obtain⟨W4,hW4⟩:=ex (w3.setCell ⟨gn,0,none⟩ (.slice Ax n c));have o4:OnlyAt w3 W4 gn:=by rw[←hW4];exact OnlyAt.of_set (bR w3) gn 0 _
 have q4:Blk W4 gn 102 #[.slice Ax n c]:=by
  rw[←hW4];have h:=(HQN.out.keep hb).set_ 0 (.slice Ax n c)
  simpa using h
 have HQ4:=Lq q4;have HO4:=Lq o4;have HW4:Hid (BW w W4):=Lq (o4.below (bT HB3.out hb) HGN.out);have HK:Hid (Keeps w3 gn Ax n []∨True):=Lq (.inr trivial);have fin:∀(W:World) (r9:Int),BW W4 W→(r9=0↔PlanOk (psOf ms) (csOf cs)∧inB 0 40000 day=true)→(r9=0→r=0)→(r9≠0→inB 0 40000 day=true→Cd ms cs r9)→OpenPost2 ms cs day w (.returned (.tuple #[.agg #[.slice Ax n c],iv r9])) (W.setCell ⟨gn,0,none⟩ (.slice Ax n c)):=by
  intro W r9 hbW h9 h90 h9c;have oW:OnlyAt W (W.setCell ⟨gn,0,none⟩ (.slice Ax n c)) gn:=OnlyAt.of_set (bR W) gn 0 _;refine⟨r9,Ax,n,c,rfl,oW.below (bT HW4.out hbW) HGN.out,h9,fun h=>?_,h9c⟩
  obtain⟨out,h1,h2,h3⟩:=HYES.out (h90 h);refine⟨out,h1,h2, ?_⟩;have hk:Keeps w3 (w3.heap.size) Ax c out:=fun X hX=>(h3.below ⟨hX.os,hX.tape,hX.output,hX.size,fun k hk=>hX.block k hk (by omega)⟩ (lr _)).more hX.size
  have hh:=Hold.of_keeps hk (HQN.out.keep HB4.out) (by have:=(HQN.out.keep HB4.out).lt;omega)
  exact hh _ ((Two.of_only2 HO4.out).trans ((Two.of_below hbW).trans (Two.of_only2 oW)))
 have FIN:=Lq fin;clear hb hiff hyes hcd o4 q4 fin x0 x1;by_cases hr:r=0
 ·subst hr;have m0:=HQ4.out.c 0;go_wp2_with fail;refine(HI.out _ _ (by go_simp)).mono ?_
  rintro e w5 ⟨rfl,hb⟩;have HB5:=Lq (bT (bA (bR W4) _) hb);clear hb;have m5:=(HQ4.out.keep HB5.out).c 0;have mf:=(HQ4.out.keep HB5.out).frozen 0;have ml:=(HQ4.out.keep HB5.out).lt;have d0:(w5.setCell ⟨gn,0,none⟩ (.slice Ax n c)).cell? ⟨gn,0,none⟩=some (.slice Ax n c):=((HQ4.out.keep HB5.out).set_ 0 _).cell 0;cases bI with
  | false =>
   go_wp2_with fail;exact bodyPost_ret (v:=.tuple #[.agg #[.slice Ax n c],iv 7]) (by simp[results,Tryz.results44,go_sem,d0]) rfl (FIN.out w5 7 HB5.out ⟨fun h=>(by cases h),fun h=>(by rw[KI.out]at h;cases h.2)⟩ (fun h=>(by cases h)) (fun _ h=>by rw[KI.out]at h;cases h))
  | true =>
   go_wp2_with fail;exact bodyPost_ret (v:=.tuple #[.agg #[.slice Ax n c],iv 0]) (by simp[results,Tryz.results44,go_sem,d0]) rfl (FIN.out w5 0 HB5.out ⟨fun _=>⟨HIFF.out.1 (by trivial),KI.out⟩,fun _=>rfl⟩ (fun _=>by trivial) (fun h=>absurd rfl h))
 ·have hr1:(r==0)=false:=by simpa using hr
  have m0:=HQ4.out.c 0;have mf:=HQ4.out.frozen 0;have ml:=HQ4.out.lt;have d0:(W4.setCell ⟨gn,0,none⟩ (.slice Ax n c)).cell? ⟨gn,0,none⟩=some (.slice Ax n c):=(HQ4.out.set_ 0 _).cell 0;go_wp2_with fail;exact bodyPost_ret (v:=.tuple #[.agg #[.slice Ax n c],iv r]) (by simp[results,Tryz.results44,go_sem,d0]) rfl (FIN.out W4 r (bR _) ⟨fun h=>absurd h hr,fun h=>absurd (HIFF.out.2 h.1) hr⟩ id (fun h _=>HCD.out h))
theorem open47_any(A C:Option Addr)(ms:List HuM)(cs:List HcM)(B cap capc:Nat)(day:Int)(w:World)(hB:B≤w.heap.size)(H:SlM w B A cap ms)(HC:SlC w B C capc cs)(HW:∀c∈cs,Lit.wf (.int .i64 c.what)=true) :
  Cs 44 #[.agg #[.slice A ms.length cap,.slice C cs.length capc],iv day] w (OpenPost ms cs day w) :=
 (open47_all A C ms cs B cap capc day w hB H HC HW).mono fun _ _ ⟨r,A',n,c,h1,h2,h3,h4,_⟩=>⟨r,A',n,c,h1,h2,h3,h4⟩
theorem check68_any(A C:Option Addr)(ms:List HuM)(cs:List HcM)(B cap capc:Nat)(w:World)(hB:B≤w.heap.size)(H:SlM w B A cap ms)(HC:SlC w B C capc cs)(HW:∀c∈cs,Lit.wf (.int .i64 c.what)=true) :
  Cs 66 #[.agg #[.slice A ms.length cap,.slice C cs.length capc]] w (Chk3 (PlanOk (psOf ms) (csOf cs)) w):=by
 obtain⟨W1,hW1⟩:=ex (w.alloc (.cells #[.slice A ms.length cap,.slice C cs.length capc] 27));obtain⟨gp,hgp⟩:=ex w.heap.size;have b1:BW w W1:=by rw[←hW1];exact bA (bR w) _
 have q1:Blk W1 gp 27 #[.slice A ms.length cap,.slice C cs.length capc]:=by rw[←hW1,←hgp];exact Blk.new w 27 _
 have HBD:Hid (Cs 97 #[.agg #[.slice A ms.length cap,.slice C cs.length capc],iv 0] W1 (BuildPost ms cs 0 W1)):=Lq (build94_any A C ms cs B cap capc 0 W1 (lT hB b1.size) (H.below b1 hB) (HC.below b1 hB) HW);have HB1:=Lq b1;have x0:=q1.c 0;have x1:=q1.c 1;clear H HC HW b1 q1;go_enter Tryz.func66,Tryz.ntmps66
 go_wp2_with fail;refine HBD.out.mono ?_;rintro e w3 ⟨p,i,r,Ax,n,c,rfl,hb,hiff,hyes⟩;have HB4:=Lq (bT HB1.out hb);have HIFF:=Lq hiff;clear hb hiff hyes x0 x1;go_wp2_with fail
 go_ret3
 exact⟨p,i,r,rfl,HIFF.out,HB4.out⟩
def zeroM:HuM:=⟨⟨⟨#[]⟩,0,0,0,[],0,0⟩,none,0⟩
theorem made_zero(n:Nat):(madeCells #[.string ⟨#[]⟩,iv 0,iv 0,iv 0,.slice none 0 0,iv 0,iv 0] (n*7)).toList=(List.replicate n zeroM).flatMap encM:=by
 refine List.ext_getElem? fun j=>?_
 have hl:((List.replicate n zeroM).flatMap encM).length=n*7:=by rw[flat_len encM_len];simp
 rcases Nat.lt_or_ge j (n*7)with hj | hj
 ·have hd:j/7<n:=Nat.div_lt_of_lt_mul (by omega)
  have hr:j%7<7:=Nat.mod_lt _ (by omega)
  obtain⟨v,hv⟩:∃v,(encM zeroM)[j%7]?=some v:=⟨_,gE (by rw[encM_len];exact hr)⟩
  have h:=flat_get encM_len (List.replicate n zeroM) (j/7) zeroM (by simp[hd]) (j%7) v hv
  rw[show j/7*7+j%7=j by omega]at h
  rw[h,←hv];have hm:j%7=0∨j%7=1∨j%7=2∨j%7=3∨j%7=4∨j%7=5∨j%7=6:=by omega
  simp only[madeCells,Array.getElem?_toList];rcases hm with hm | hm | hm | hm | hm | hm | hm<;>simp[hj,hm,encM,zeroM]
 ·have hs:(madeCells #[.string ⟨#[]⟩,iv 0,iv 0,iv 0,.slice none 0 0,iv 0,iv 0] (n*7)).toList.length=n*7:=by simp[madeCells]
  rw[List.getElem?_eq_none (by rw[hs];exact hj),List.getElem?_eq_none (by rw[hl];exact hj)]
theorem oneMade(wr:World)(t:TypeId)(a b:Value):∃Wa W2,wr.alloc (.cells #[a] t)=Wa∧Wa.setCell ⟨wr.heap.size,0,none⟩ b=W2∧BW wr W2∧Blk Wa wr.heap.size t #[a]∧BW wr Wa∧Blk W2 wr.heap.size t #[b]:=by
 refine⟨_,_,rfl,rfl, ?_,Blk.new wr t _,bA (bR _) _, ?_⟩
 ·exact((OnlyAt.of_below (bR _) wr.heap.size).set 0 _).below (bA (bR _) _) (lr _)
 ·have h:=(Blk.new wr t #[a]).set_ 0 b
  simpa using h
theorem ship8_any(A C:Option Addr)(ms:List HuM)(cs:List HcM)(B cap capc:Nat)(day:Int)(w:World)(hB:B≤w.heap.size)(H:SlM w B A cap ms)(HC:SlC w B C capc cs)(HW:∀c∈cs,Lit.wf (.int .i64 c.what)=true) :
  Cs 7 #[.agg #[.slice A ms.length cap,.slice C cs.length capc],iv day] w (OpenPost ms cs day w):=by
 obtain⟨W1,hW1⟩:=ex (w.alloc (.cells #[.slice A ms.length cap,.slice C cs.length capc] 27));obtain⟨W2,hW2⟩:=ex (W1.alloc (.cells #[.slice none 0 0] 24));obtain⟨gp,hgp⟩:=ex w.heap.size;obtain⟨gn,hgn⟩:=ex W1.heap.size;have zB:W1.heap.size=w.heap.size+1:=by rw[←hW1];simp
 have b1:BW w W1:=by rw[←hW1];exact bA (bR w) _
 have b2:BW W1 W2:=by rw[←hW2];exact bA (bR _) _
 have q1:Blk W1 gp 27 #[.slice A ms.length cap,.slice C cs.length capc]:=by rw[←hW1,←hgp];exact Blk.new w 27 _
 have q2:Blk W2 gn 24 #[.slice none 0 0]:=by rw[←hW2,←hgn];exact Blk.new W1 24 _
 have q2p:=q1.keep b2;have b3:=bT b1 b2;have HGN:Hid (w.heap.size≤gn):=Lq (by omega)
 have HOP:Hid (Cs 44 #[.agg #[.slice A ms.length cap,.slice C cs.length capc],iv day] W2 (OpenPost ms cs day W2)):=Lq (open47_any A C ms cs B cap capc day W2 (lT hB b3.size) (H.below b3 hB) (HC.below b3 hB) HW);have HB3:=Lq b3;have HQN:=Lq q2;have x0:=q2p.c 0;have x1:=q2p.c 1;clear H HC HW b1 b2 b3 q1 q2 q2p zB;go_enter Tryz.func7,Tryz.ntmps7
 go_wp2_with fail;refine HOP.out.mono ?_;rintro e w3 ⟨r,Ax,n,c,rfl,hb,hiff,hyes⟩;obtain⟨Wa,W4,hWa,hW4,hb4,hqa,hba,hq4⟩:=oneMade w3 102 (.slice none 0 0) (.slice Ax n c);obtain⟨g6,hg6⟩:=ex w3.heap.size;rw[hg6]at hW4 hqa hq4;have HB4:=Lq (bT hb hb4);have HB34:=Lq hb4;have HIFF:=Lq hiff;have HYES:=Lq hyes;have HQ4:=Lq hq4;have HQN4:=Lq ((HQN.out.keep hb).keep hb4);have af:=hqa.frozen 0;have ac:=hqa.c 0;have al:=hqa.lt;have a0:=hq4.c 0;have n0:=HQN4.out.c 0;have nf:=HQN4.out.frozen 0;have nl:=HQN4.out.lt;have HB0:=Lq (bT HB3.out HB4.out);clear hb hiff hyes hb4 hqa hba hq4 x0 x1;by_cases hr:r=0
 ·subst hr;obtain⟨out,rfl,hps,hsl⟩:=HYES.out rfl;have HPL:=Lq (HIFF.out.1 rfl);have h12:out.length≤12:=by
   have h:=(shipOn_ok HPL.out.1 day).len;rw[←hps]at h
   simpa using h
  have HPS:=Lq hps;have HSL:=Lq ((hsl.below HB34.out (lr _)).more HB34.out.size);obtain⟨i47,hi47,hz470,hz471,hz472⟩:=info_parts Tryz.info43;obtain⟨W5,hmk,hrow,hgr⟩:=run_make_full (P:=Tryz.prog) (w:=W4) W4.heap.size 22 43 i47 _ 7 Tryz.underlying22 hi47 hz470 hz471 .i64 .i64 out.length (by rw[hz472];omega) (by unfold maxLen;omega) (lr _)
  obtain⟨g,hg⟩:=ex W4.heap.size;rw[hg]at hmk;have hb5:BW W4 W5:=(bR W4).grown hgr (lr _) (fun k hk=>by cases hk)
  have HROW:Hid (W5.ownsRow W4.heap.size 43 7 (.slice (some ⟨g,0,none⟩) out.length out.length) out.length ((List.replicate out.length zeroM).flatMap encM)):=by rw[←made_zero];rw[hg]at hrow;rw[hg];exact Lq hrow
  have HB5:=Lq hb5;have HGG:Hid (W4.heap.size≤g):=by rw[hg];exact Lq (lr _)
  have a5:=(HQ4.out.keep hb5).c 0;clear hps hsl hrow hgr hb5 hi47 hz470 hz471 hz472;go_wp2_with fail;clear hmk af ac al a0 a5 n0 nf nl hWa hW4 hg6 hW1 hW2 hgp hgn hg;go_loopw [30] (fun i wr=>∃(k:Nat) (L:List HuM),k≤out.length∧i=iv k∧Hid (L.length=out.length)∧Hid (∀j,j<k→(psOf L)[j]?=(psOf out)[j]?)∧Hid (wr.ownsRow W4.heap.size 43 7 (.slice (some ⟨g,0,none⟩) out.length out.length) out.length (L.flatMap encM))∧Hid (∀j m,j<k→L[j]?=some m→NmOk wr g gn m)∧Hid (BW W4 wr)) (fun i _=>out.length-(intOf i).toNat)
  case atStart=>exact⟨0,List.replicate out.length zeroM,Nat.zero_le _,rfl,Lq (by simp),Lq (fun j hj=>by omega),HROW,Lq (fun j m hj=>by omega),HB5⟩
  case round =>
   obtain⟨k,L,hk,rfl,HLL,HPT,HRW,HNM,HBR⟩:=hrel;have hk0:(0:Int)≤(k:Int):=by omega
   by_cases hlt:k<out.length
   ·obtain⟨y,hy⟩:=gX (l:=out) (i:=k) hlt;obtain⟨b,off,hA,hbB,hMy,c0,c1,c2,c3,c4,c5',c6⟩:=(HSL.out.rd.below HBR.out (lr _)).at hy;have HYI:=Lq hy;have HFR:Hid (∀W,BW wr W→Cs 45 #[mV y] W (FreshPost y W)):=Lq fun W hb=>fresh48_any y W.heap.size W (lr _) ((hMy.below hb HBR.out.size).more (lT HBR.out.size hb.size))
    obtain⟨⟨yn,yk,yf,yl,yon,yw,yz⟩,yA,yc⟩:=y;subst hA;simp only at c0 c1 c2 c3 c4 c5' c6 HFR;obtain⟨Wb,W6,hWb,hW6,hb6,hqb,hbb,hq6⟩:=partMade wr yn yk yf yl yw yz yA yc yon.length;obtain⟨g2,hg2⟩:=ex wr.heap.size;rw[hg2]at hW6 hqb hq6;have HB6:=Lq hb6;obtain⟨f0,f1,f2,f3,f4,f5,f6⟩:=hqb.f7;obtain⟨e0,e1,e2,e3,e4,e5,e6⟩:=hqb.c7;have el:=hqb.lt;obtain⟨d0,d1,d2,d3,d4,d5,d6⟩:=hq6.c7;have hkw:(k:Int)<(out.length:Int):=by omega
    clear hMy hy hb6 hqb hbb hq6;go_wp2_with fail;refine(HFR.out _ HB6.out).mono ?_;rintro e w7 ⟨A5,c5,rfl,hown,horow,hb7⟩;have HB7:=Lq (bT HB6.out hb7);have HOW:=Lq hown;have HOR:=Lq horow;have hr7:=own_below HRW.out HB7.out;rw[←HLL.out]at hr7;obtain⟨old,hold⟩:=gX (l:=L) (i:=k) (by rw[HLL.out];exact hlt)
    have hcell:∀j u,(encM old)[j]?=some u→w7.cell? ⟨g,k*7+j,none⟩=some u:=fun j u hu=>by
     have h1:=flat_get encM_len L k old hold j u hu;have h2:=hr7.cellAt (k*7+j) (by have:=(lG h1);rw[flat_len encM_len]at this;exact this)
     rw[h2,h1]
    have y0:w7.cell? ⟨g,k*7,none⟩=some (.string old.p.name):=hcell 0 _ rfl;obtain⟨y1,y2,y3,y4,y5,y6⟩:_∧_∧_∧_∧_∧_:=⟨hcell 1 _ rfl,hcell 2 _ rfl,hcell 3 _ rfl,hcell 4 _ rfl,hcell 5 _ rfl,hcell 6 _ rfl⟩;obtain⟨h0,h1,h2,h3,h4,h5,h6⟩:_∧_∧_∧_∧_∧_∧_:=⟨hr7.frozenAt (k*7),hr7.frozenAt (k*7+1),hr7.frozenAt (k*7+2),hr7.frozenAt (k*7+3),hr7.frozenAt (k*7+4),hr7.frozenAt (k*7+5),hr7.frozenAt (k*7+6)⟩;have hgl7:g<w7.heap.size:=lt_of_cell y0;have hrow:=setRow7 hr7 k ⟨(HuP.mk yn yk yf yl yon yw yz),A5,c5⟩ (by rw[HLL.out];exact hlt)
    obtain⟨W8,hW8⟩:=ex (((((((w7.setCell ⟨g,k*7,none⟩ (.string yn)).setCell ⟨g,k*7+1,none⟩ (iv yk)).setCell ⟨g,k*7+2,none⟩ (iv yf)).setCell ⟨g,k*7+3,none⟩ (iv yl)).setCell ⟨g,k*7+4,none⟩ (.slice A5 yon.length c5)).setCell ⟨g,k*7+5,none⟩ (iv yw)).setCell ⟨g,k*7+6,none⟩ (iv yz));have ho8:OnlyAt w7 W8 g:=by rw[←hW8];exact((((((((OnlyAt.of_below (bR w7) g).set (k*7) _).set (k*7+1) _).set (k*7+2) _).set (k*7+3) _).set (k*7+4) _).set (k*7+5) _).set (k*7+6) _)
    simp only[hW8]at hrow;rw[HLL.out]at hrow;have HROW8:=Lq hrow;have HO8:=Lq ho8;have HB8:=Lq (ho8.below (bT HBR.out HB7.out) HGG.out);have HNM8:Hid (∀j m,j<k+1→(L.set k ⟨(HuP.mk yn yk yf yl yon yw yz),A5,c5⟩)[j]?=some m→NmOk W8 g gn m):=Lq fun j m hj hm=>by
     rw[List.getElem?_set]at hm;split at hm
     ·rename_i hjk;split at hm
      ·injection hm with hm
       subst hm;refine(NmOk.of_own HOW.out (fun i hi=>?_)).kept (Kept2.of_only ho8)
       have h1:=(HOR.out.lt i hi).1;have h2:=HB6.out.size;have h3:=HRW.out.lt g rfl;have h4:=HBR.out.size;have h5:=HQN4.out.lt;omega
      ·cases hm
     ·exact((HNM.out j m (by omega) hm).kept (Kept2.of_below HB7.out)).kept (Kept2.of_only ho8)
    have HPT8:Hid (∀j,j<k+1→(psOf (L.set k ⟨(HuP.mk yn yk yf yl yon yw yz),A5,c5⟩))[j]?=(psOf out)[j]?):=Lq fun j hj=>by
     rw[psOf_set,List.getElem?_set];split
     ·rename_i hjk;subst hjk;rw[if_pos (by simp[HLL.out,hlt]),ps_at HYI.out]
     ·exact HPT.out j (by omega)
    clear hown horow hb7 hr7 hold hcell hrow ho8 c0 c1 c2 c3 c4 c5' c6 d0 d1 d2 d3 d4 d5 d6 e0 e1 e2 e3 e4 e5 e6 f0 f1 f2 f3 f4 f5 f6 el hWb hW6 hg2;go_wp2_with fail;go_roundw
    case measure=>simp[intOf];omega
    case rel =>
     exact⟨k+1,L.set k ⟨(HuP.mk yn yk yf yl yon yw yz),A5,c5⟩,by omega,by go_num,Lq (by rw[List.length_set];exact HLL.out),HPT8,HROW8,HNM8,HB8⟩
   ·obtain rfl:k=out.length:=by omega
    have hpo:psOf L=psOf out:=by
     refine List.ext_getElem? fun j=>?_
     rcases Nat.lt_or_ge j out.length with hj | hj
     ·exact HPT.out j hj
     ·rw[List.getElem?_eq_none (by simp[HLL.out];exact hj),List.getElem?_eq_none (by simpa using hj)]
    have qn:=HQN4.out.keep HBR.out;have n0:=qn.c 0;have nf:=qn.frozen 0;have nl:=qn.lt;obtain⟨W9,hW9⟩:=ex (wr.setCell ⟨gn,0,none⟩ (.slice (some ⟨g,0,none⟩) out.length out.length));have d0:W9.cell? ⟨gn,0,none⟩=some (.slice (some ⟨g,0,none⟩) out.length out.length):=by rw[←hW9];exact(qn.set_ 0 _).cell 0
    have o9:OnlyAt wr W9 gn:=by rw[←hW9];exact OnlyAt.of_set (bR wr) gn 0 _
    have HEND:Hid (BW w W9):=Lq (o9.below (bT HB0.out HBR.out) HGN.out);have hgn4:gn<W4.heap.size:=HQN4.out.lt;have hs9:=SlM.of_own (ms:=L) (own_only HRW.out o9 hgn4) HLL.out.symm (fun m hm=>by obtain⟨j,hj⟩:=List.mem_iff_getElem?.1 hm;have hjl:=(lG hj);rw[HLL.out]at hjl;exact HNM.out j m hjl hj W9 (Kept2.of_only2 o9))
    obtain⟨A9,c9,e9,hsl9⟩:=hs9;have HSL9:=Lq hsl9;have HE9:=Lq e9;have HPO:=Lq hpo;clear qn o9 hsl9 e9 hpo hgn4;go_wp2_with fail;refine bodyPost_ret (v:=.tuple #[.agg #[.slice (some ⟨g,0,none⟩) out.length out.length],iv 0]) (by simp[results,Tryz.results7,go_sem,d0]) rfl ⟨0,some ⟨g,0,none⟩,out.length,out.length,rfl,HEND.out,⟨fun _=>HIFF.out.1 trivial,fun _=>rfl⟩,fun _=>⟨L,HLL.out.symm,HPO.out.trans HPS.out, ?_⟩⟩
    have h1:=HE9.out;injection h1 with h2 h3 h4
    rw[h2,h4];exact HSL9.out
 ·have hr1:(r != 0)=true:=by simpa using hr
  have d0:(W4.setCell ⟨gn,0,none⟩ (.slice none 0 0)).cell? ⟨gn,0,none⟩=some (.slice none 0 0):=(HQN4.out.set_ 0 _).cell 0;have HEND:Hid (BW w (W4.setCell ⟨gn,0,none⟩ (.slice none 0 0))):=Lq ((OnlyAt.of_set (bR W4) gn 0 _).below HB0.out HGN.out);go_wp2_with fail;exact bodyPost_ret (v:=.tuple #[.agg #[.slice none 0 0],iv r]) (by simp[results,Tryz.results7,go_sem,d0]) rfl ⟨r,none,0,0,rfl,HEND.out,HIFF.out,fun h=>absurd h hr⟩
section
variable{cs8:Array Value}{Q:Exit→Act→World→Prop}{al m q s sm:Int}{g12 g8:Nat}{zA zB zK zL zP zQ zR zS zT zC zU zV zW zX zY zZ za zb zc zd zD ze zf zg zh zi zj zk zl zm zn zE zo zp zq zr zs zt zu zv zw zx zF zy zz zAA zAB zAC zAD zAE zAF zAG zAH zG zAI zAJ zAK zAL zAM zAN zAO zAP zAQ zAR zH zAS zAT zAU zAV zAW zAX zAY zAZ zAa zAb zAc zAd zAe zAf zAg zAh zAi zAj zAk zJ:Value}{V:World}
noncomputable def ops10_10:Array Oper:=opsOf (regionOf Tryz.f13 10)
theorem reg10_10{lo wl:Int}{t8:TypeId}(ha:¬al=0)(hm:IntKind.i64.wrap (wl*sm)=m)(hq:IntKind.i64.wrap (m.tdiv al)=q)(hs:IntKind.i64.wrap (lo+q)=s)(h8:Blk V g8 t8 cs8)(hS:∀W,BW V W→cA W g8 0 (iv lo)∧cA W g12 5 (iv wl))(hQ:∀u62 u63 u64 u65 u66 u67 u68 u69 u70 u71 u72 W',BW V W'→Q .normal ⟨#[zA,zB,zC,zD,zE,zF,zG,zH,.pointer (some ⟨g8,0,none⟩),zJ,zK,zL,.pointer (some ⟨g12,0,none⟩),iv al,iv sm,zP,zQ,zR,zS,zT,zU,zV,zW,zX,zY,zZ,za,zb,zc,zd,ze,zf,zg,zh,zi,zj,zk,zl,zm,zn,zo,zp,zq,zr,zs,zt,zu,zv,zw,zx,zy,zz,zAA,zAB,zAC,zAD,zAE,zAF,zAG,zAH,zAI,zAJ,u62,u63,u64,u65,u66,u67,u68,u69,u70,u71,u72,zAV,zAW,zAX,zAY,zAZ,zAa,zAb,zAc,zAd,zAe,zAf,zAg,zAh,zAi,zAj,zAk],[]⟩ (W'.setCell ⟨g8,0,none⟩ (iv s))) :
  (regionOf Tryz.f13 10).wp Tryz.prog Q ⟨#[zA,zB,zC,zD,zE,zF,zG,zH,.pointer (some ⟨g8,0,none⟩),zJ,zK,zL,.pointer (some ⟨g12,0,none⟩),iv al,iv sm,zP,zQ,zR,zS,zT,zU,zV,zW,zX,zY,zZ,za,zb,zc,zd,ze,zf,zg,zh,zi,zj,zk,zl,zm,zn,zo,zp,zq,zr,zs,zt,zu,zv,zw,zx,zy,zz,zAA,zAB,zAC,zAD,zAE,zAF,zAG,zAH,zAI,zAJ,zAK,zAL,zAM,zAN,zAO,zAP,zAQ,zAR,zAS,zAT,zAU,zAV,zAW,zAX,zAY,zAZ,zAa,zAb,zAc,zAd,zAe,zAf,zAg,zAh,zAi,zAj,zAk],[]⟩ V:=by
 have HS:=Lq hS;have HB0:=Lq (belowDq (bR V));have HQ:=Lq hQ;have HG:=Lq h8;clear hS hQ h8;have e:regionOf Tryz.f13 10=Code.region 10 ops10_10 true:=by kernel_rfl
 rw[e];refine wp_region_noPanic ?_;refine wp_region_late (S:=(fun W=>cA W g8 0 (iv lo)∧cA W g12 5 (iv wl))) (late:=(fun k=>k==11)) (by rfl) ?_
 have hHeld:=HS.out _ HB0.out;have hsz:ops10_10.size=12:=by kernel_rfl
 have hrep:Array.replicate 12 false=#[false,false,false,false,false,false,false,false,false,false,false,false]:=by kernel_rfl
 rw[hsz,hrep];clear e hsz hrep;generalize V.drew=V0 at HB0 hHeld ⊢;refine tkL 0 (.pointer (some ⟨g8,0,none⟩)) ?_;refine tkL 1 (iv lo) ?_;refine tkL 2 (.pointer (some ⟨g12,5,none⟩)) ?_;refine tkL 3 (.pointer (some ⟨g12,5,none⟩)) ?_;refine tkL 4 (iv wl) ?_;refine tkL 5 (iv sm) ?_;refine tkL 6 (iv m) ?_;refine tkL 7 (iv al) ?_;refine tkL 8 (iv q) ?_;refine tkL 9 (iv s) ?_;refine tkL 10 (.pointer (some ⟨g8,0,none⟩)) ?_;refine rdT 11 fun K' hK=>?_
 have bg:=HG.out.keep HB0.out;have fg:=bg.frozen 0;have lg:=bg.lt;have cg:=hHeld.1;go_simp;refine hK.out _ _ ?_;clear bg fg lg cg;clear hK;refine wpAny_of_held (S:=fun _=>True) _ _ _ _ ?_
 refine wpAnyH_done (by kernel_rfl) ?_ _
 exact NoPanic.normal (HQ.out _ _ _ _ _ _ _ _ _ _ _ _ HB0.out)
noncomputable def ops10_11:Array Oper:=opsOf (regionOf Tryz.f13 11)
theorem reg10_11{hi wh m1 m2:Int}{t8:TypeId}(ha:¬al=0)(hm:IntKind.i64.wrap (wh*sm)=m)(hm1:IntKind.i64.wrap (m+al)=m1)(hm2:IntKind.i64.wrap (m1-1)=m2)(hq:IntKind.i64.wrap (m2.tdiv al)=q)(hs:IntKind.i64.wrap (hi+q)=s)(h8:Blk V g8 t8 cs8)(hS:∀W,BW V W→cA W g8 1 (iv hi)∧cA W g12 6 (iv wh))(hQ:∀u73 u74 u75 u76 u77 u78 u79 u80 u81 u82 u83 u84 u85 u86 W',BW V W'→Q .normal ⟨#[zA,zB,zC,zD,zE,zF,zG,zH,.pointer (some ⟨g8,0,none⟩),zJ,zK,zL,.pointer (some ⟨g12,0,none⟩),iv al,iv sm,zP,zQ,zR,zS,zT,zU,zV,zW,zX,zY,zZ,za,zb,zc,zd,ze,zf,zg,zh,zi,zj,zk,zl,zm,zn,zo,zp,zq,zr,zs,zt,zu,zv,zw,zx,zy,zz,zAA,zAB,zAC,zAD,zAE,zAF,zAG,zAH,zAI,zAJ,zAK,zAL,zAM,zAN,zAO,zAP,zAQ,zAR,zAS,zAT,zAU,u73,u74,u75,u76,u77,u78,u79,u80,u81,u82,u83,u84,u85,u86,zAj,zAk],[]⟩ (W'.setCell ⟨g8,1,none⟩ (iv s))) :
  (regionOf Tryz.f13 11).wp Tryz.prog Q ⟨#[zA,zB,zC,zD,zE,zF,zG,zH,.pointer (some ⟨g8,0,none⟩),zJ,zK,zL,.pointer (some ⟨g12,0,none⟩),iv al,iv sm,zP,zQ,zR,zS,zT,zU,zV,zW,zX,zY,zZ,za,zb,zc,zd,ze,zf,zg,zh,zi,zj,zk,zl,zm,zn,zo,zp,zq,zr,zs,zt,zu,zv,zw,zx,zy,zz,zAA,zAB,zAC,zAD,zAE,zAF,zAG,zAH,zAI,zAJ,zAK,zAL,zAM,zAN,zAO,zAP,zAQ,zAR,zAS,zAT,zAU,zAV,zAW,zAX,zAY,zAZ,zAa,zAb,zAc,zAd,zAe,zAf,zAg,zAh,zAi,zAj,zAk],[]⟩ V:=by
 have HS:=Lq hS;have HB0:=Lq (belowDq (bR V));have HQ:=Lq hQ;have HG:=Lq h8;clear hS hQ h8;have e:regionOf Tryz.f13 11=Code.region 11 ops10_11 true:=by kernel_rfl
 rw[e];refine wp_region_noPanic ?_;refine wp_region_late (S:=(fun W=>cA W g8 1 (iv hi)∧cA W g12 6 (iv wh))) (late:=(fun k=>k==14)) (by rfl) ?_
 have hHeld:=HS.out _ HB0.out;have hsz:ops10_11.size=15:=by kernel_rfl
 have hrep:Array.replicate 15 false=#[false,false,false,false,false,false,false,false,false,false,false,false,false,false,false]:=by kernel_rfl
 rw[hsz,hrep];clear e hsz hrep;generalize V.drew=V0 at HB0 hHeld ⊢;refine tkL 0 (.pointer (some ⟨g8,1,none⟩)) ?_;refine tkL 1 (iv hi) ?_;refine tkL 2 (.pointer (some ⟨g12,5,none⟩)) ?_;refine tkL 3 (.pointer (some ⟨g12,6,none⟩)) ?_;refine tkL 4 (iv wh) ?_;refine tkL 5 (iv sm) ?_;refine tkL 6 (iv m) ?_;refine tkL 7 (iv al) ?_;refine tkL 8 (iv m1) ?_;refine tkL 9 (iv m2) ?_;refine tkL 10 (iv al) ?_;refine tkL 11 (iv q) ?_;refine tkL 12 (iv s) ?_;refine tkL 13 (.pointer (some ⟨g8,1,none⟩)) ?_;refine rdT 14 fun K' hK=>?_
 have bg:=HG.out.keep HB0.out;have fg:=bg.frozen 1;have lg:=bg.lt;have cg:=hHeld.1;go_simp;refine hK.out _ _ ?_;clear bg fg lg cg;clear hK;refine wpAny_of_held (S:=fun _=>True) _ _ _ _ ?_
 refine wpAnyH_done (by kernel_rfl) ?_ _
 exact NoPanic.normal (HQ.out _ _ _ _ _ _ _ _ _ _ _ _ _ _ _ HB0.out)
end
end Go.Proofs.YtigcophcpboanaaGreatDoor
