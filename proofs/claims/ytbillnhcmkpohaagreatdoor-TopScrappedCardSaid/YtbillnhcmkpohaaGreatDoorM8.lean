/- hull: Ship (printed by mkHB4.py). hull: two regions of Weigh (printed by mkHB5.py). -/
import Derived.Test.YtbillnhcmkpohaaGreatDoorM7
set_option maxRecDepth 1000000
set_option maxHeartbeats 0
namespace Go.Proofs.YtbillnhcmkpohaaGreatDoor
open Go.RowKit
def lu:aj:=⟨⟨⟨#[]⟩,0,0,0,[],0,0⟩,none,0⟩
theorem Db(n:Nat):(madeCells #[.string ⟨#[]⟩,iv 0,iv 0,iv 0,.slice none 0 0,iv 0,iv 0] (n*7)).toList=(List.replicate n lu).flatMap aJ:=by
 refine List.ext_getElem? fun j=>?_
 have d:((List.replicate n lu).flatMap aJ).length=n*7:=by rw[fV cH];simp
 rcases Nat.lt_or_ge j (n*7)with hj | hj
 ·have c:j/7<n:=Nat.div_lt_of_lt_mul (by omega)
  have f:j%7<7:=Nat.mod_lt _ (by omega)
  obtain⟨v,b⟩:∃v,(aJ lu)[j%7]?=some v:=⟨_,gE (by rw[cH];exact f)⟩
  have h:=jo cH (List.replicate n lu) (j/7) lu (by simp[c]) (j%7) v b
  rw[show j/7*7+j%7=j by omega]at h
  rw[h,←b];have a:j%7=0∨j%7=1∨j%7=2∨j%7=3∨j%7=4∨j%7=5∨j%7=6:=by omega
  simp only[madeCells,Array.getElem?_toList];rcases a with a | a | a | a | a | a | a<;>simp[hj,a,aJ,lu]
 ·have g:(madeCells #[.string ⟨#[]⟩,iv 0,iv 0,iv 0,.slice none 0 0,iv 0,iv 0] (n*7)).toList.length=n*7:=by simp[madeCells]
  rw[List.getElem?_eq_none (by rw[g];exact hj),List.getElem?_eq_none (by rw[d];exact hj)]
theorem gg(wr:World)(t:TypeId)(a b:Value):∃Wa W2,wr.alloc (.cells #[a] t)=Wa∧Wa.setCell ⟨wr.heap.size,0,none⟩ b=W2∧BW wr W2∧aa Wa wr.heap.size t #[a]∧BW wr Wa∧aa W2 wr.heap.size t #[b]:=by
 refine⟨_,_,rfl,rfl, ?_,aa.new wr t _,bA (bR _) _, ?_⟩
 ·exact((ai.of_below (bR _) wr.heap.size).set 0 _).below (bA (bR _) _) (lr _)
 ·have h:=(aa.new wr t #[a]).set_ 0 b
  simpa using h
theorem Dc(A C:Option Addr)(ms:List aj)(cs:List ao)(B cap o:Nat)(day:Int)(w:World)(hB:B≤w.heap.size)(H:az w B A cap ms)(HC:de w B C o cs)(HW:∀c∈cs,Lit.wf (.int .i64 c.what)=true) :
  Cs 40 #[.agg #[.slice A ms.length cap,.slice C cs.length o],iv day] w (mj ms cs day w):=by
 obtain⟨W1,K,b1⟩:=nA w (.cells #[.slice A ms.length cap,.slice C cs.length o] 27);obtain⟨W2,hW2,b2⟩:=nA W1 (.cells #[.slice none 0 0] 24);obtain⟨gp,hgp⟩:=ex w.heap.size;obtain⟨gn,hgn⟩:=ex W1.heap.size;have zB:W1.heap.size=w.heap.size+1:=by rw[←K];simp
 have q1:aa W1 gp 27 #[.slice A ms.length cap,.slice C cs.length o]:=by rw[←K,←hgp];exact aa.new w 27 _
 have q2:aa W2 gn 24 #[.slice none 0 0]:=by rw[←hW2,←hgn];exact aa.new W1 24 _
 have N:=q1.keep b2;have b3:=bT b1 b2;have HGN:Hid (w.heap.size≤gn):=Lq (by omega)
 have av:Hid (Cs 12 #[.agg #[.slice A ms.length cap,.slice C cs.length o],iv day] W2 (mj ms cs day W2)):=Lq (pB A C ms cs B cap o day W2 (lT hB b3.size) (H.below b3 hB) (HC.below b3 hB) HW);have HB3:=Lq b3;have HQN:=Lq q2;have x0:=N.c 0;have x1:=N.c 1;clear H HC HW b1 b2 b3 q1 q2 N zB;go_enter Tryz.func40,Tryz.ntmps40
 go_wp2_with fail;refine av.out.mono ?_;rintro e w3 ⟨r,Ax,n,c,rfl,R,D,G⟩;obtain⟨Wa,W4,hWa,hW4,hb4,hqa,hba,hq4⟩:=gg w3 62 (.slice none 0 0) (.slice Ax n c);obtain⟨g6,hg6⟩:=ex w3.heap.size;rw[hg6]at hW4 hqa hq4;have HB4:=Lq (bT R hb4);have HB34:=Lq hb4;have HIFF:=Lq D;have HYES:=Lq G;have HQ4:=Lq hq4;have HQN4:=Lq ((HQN.out.keep R).keep hb4);have af:=hqa.frozen 0;have ac:=hqa.c 0;have al:=hqa.lt;have a0:=hq4.c 0;have n0:=HQN4.out.c 0;have nf:=HQN4.out.frozen 0;have nl:=HQN4.out.lt;have HB0:=Lq (bT HB3.out HB4.out);clear R D G hb4 hqa hba hq4 x0 x1;by_cases hr:r=0
 ·subst hr;obtain⟨a,rfl,M,ar⟩:=HYES.out rfl;have HPL:=Lq (HIFF.out.1 rfl);have h12:a.length≤12:=by
   have h:=(kT HPL.out.1 day).len;rw[←M]at h
   simpa using h
  have aw:=Lq M;have HSL:=Lq ((ar.below HB34.out (lr _)).more HB34.out.size);obtain⟨i47,hi47,hz470,hz471,hz472⟩:=info_parts Tryz.info50;obtain⟨W5,hmk,hrow,hgr⟩:=run_make_full (P:=Tryz.prog) (w:=W4) W4.heap.size 22 50 i47 _ 7 Tryz.underlying22 hi47 hz470 hz471 .i64 .i64 a.length (by rw[hz472];omega) (by unfold maxLen;omega) (lr _)
  obtain⟨g,hg⟩:=ex W4.heap.size;rw[hg]at hmk;have hb5:BW W4 W5:=(bR W4).grown hgr (lr _) (fun k hk=>by cases hk)
  have ak:Hid (W5.ownsRow W4.heap.size 50 7 (.slice (some ⟨g,0,none⟩) a.length a.length) a.length ((List.replicate a.length lu).flatMap aJ)):=by rw[←Db];rw[hg]at hrow;rw[hg];exact Lq hrow
  have au:=Lq hb5;have HGG:Hid (W4.heap.size≤g):=by rw[hg];exact Lq (lr _)
  have a5:=(HQ4.out.keep hb5).c 0;clear M ar hrow hgr hb5 hi47 hz470 hz471 hz472;go_wp2_with fail;clear hmk af ac al a0 a5 n0 nf nl hWa hW4 hg6 K hW2 hgp hgn hg;go_loopw [30] (fun i wr=>∃(k:Nat) (L:List aj),k≤a.length∧i=iv k∧Hid (L.length=a.length)∧Hid (∀j,j<k→(ab L)[j]?=(ab a)[j]?)∧Hid (wr.ownsRow W4.heap.size 50 7 (.slice (some ⟨g,0,none⟩) a.length a.length) a.length (L.flatMap aJ))∧Hid (∀j m,j<k→L[j]?=some m→fM wr g gn m)∧Hid (BW W4 wr)) (fun i _=>a.length-(intOf i).toNat)
  case atStart=>exact⟨0,List.replicate a.length lu,Nat.zero_le _,rfl,Lq (by simp),Lq (fun j x=>by omega),ak,Lq (fun j m x=>by omega),au⟩
  case round =>
   obtain⟨k,L,hk,rfl,f,ae,J,ad,q⟩:=hrel;have hk0:=nn k;by_cases hlt:k<a.length
   ·obtain⟨y,hy⟩:=gX (l:=a) (i:=k) hlt;obtain⟨b,off,hA,hbB,hMy,c0,c1,c2,c3,c4,c5',c6⟩:=(HSL.out.rd.below q.out (lr _)).at hy;have HYI:=Lq hy;have HFR:Hid (∀W,BW wr W→Cs 87 #[mV y] W (ut y W)):=Lq fun W R=>CT y W.heap.size W (lr _) ((hMy.below R q.out.size).more (lT q.out.size R.size))
    obtain⟨⟨X,U,T,V,s,Y,Z⟩,yA,yc⟩:=y;subst hA;simp only at c0 c1 c2 c3 c4 c5' c6 HFR;obtain⟨Wb,W6,hWb,hW6,hb6,hqb,hbb,hq6⟩:=mi wr X U T V Y Z yA yc s.length;obtain⟨g2,hg2⟩:=ex wr.heap.size;rw[hg2]at hW6 hqb hq6;have HB6:=Lq hb6;obtain⟨f0,f1,f2,f3,f4,f5,f6⟩:=hqb.f7;obtain⟨e0,e1,e2,e3,e4,e5,e6⟩:=hqb.c7;have el:=hqb.lt;obtain⟨d0,d1,d2,d3,d4,d5,d6⟩:=hq6.c7;have hkw:(k:Int)<(a.length:Int):=by omega
    clear hMy hy hb6 hqb hbb hq6;go_wp2_with fail;refine(HFR.out _ HB6.out).mono ?_;rintro e S ⟨A5,c5,rfl,E,z,an⟩;have HB7:=Lq (bT HB6.out an);have HOW:=Lq E;have HOR:=Lq z;have hr7:=aN J.out HB7.out;rw[←f.out]at hr7;obtain⟨old,hold⟩:=gX (l:=L) (i:=k) (by rw[f.out];exact hlt)
    have d:∀j u,(aJ old)[j]?=some u→S.cell? ⟨g,k*7+j,none⟩=some u:=fun j u hu=>by
     have O:=jo cH L k old hold j u hu;have h2:=hr7.cellAt (k*7+j) (by have:=(lG O);rw[fV cH]at this;exact this)
     rw[h2,O]
    have y0:S.cell? ⟨g,k*7,none⟩=some (.string old.p.name):=d 0 _ rfl;obtain⟨y1,y2,y3,y4,y5,y6⟩:_∧_∧_∧_∧_∧_:=⟨d 1 _ rfl,d 2 _ rfl,d 3 _ rfl,d 4 _ rfl,d 5 _ rfl,d 6 _ rfl⟩;obtain⟨h0,O,h2,h3,h4,h5,h6⟩:_∧_∧_∧_∧_∧_∧_:=⟨hr7.frozenAt (k*7),hr7.frozenAt (k*7+1),hr7.frozenAt (k*7+2),hr7.frozenAt (k*7+3),hr7.frozenAt (k*7+4),hr7.frozenAt (k*7+5),hr7.frozenAt (k*7+6)⟩;have hgl7:g<S.heap.size:=br y0;have hrow:=uu hr7 k ⟨(ah.mk X U T V s Y Z),A5,c5⟩ (by rw[f.out];exact hlt)
    obtain⟨W8,am⟩:=ex (((((((S.setCell ⟨g,k*7,none⟩ (.string X)).setCell ⟨g,k*7+1,none⟩ (iv U)).setCell ⟨g,k*7+2,none⟩ (iv T)).setCell ⟨g,k*7+3,none⟩ (iv V)).setCell ⟨g,k*7+4,none⟩ (.slice A5 s.length c5)).setCell ⟨g,k*7+5,none⟩ (iv Y)).setCell ⟨g,k*7+6,none⟩ (iv Z));have ho8:ai S W8 g:=by rw[←am];exact((((((((ai.of_below (bR S) g).set (k*7) _).set (k*7+1) _).set (k*7+2) _).set (k*7+3) _).set (k*7+4) _).set (k*7+5) _).set (k*7+6) _)
    simp only[am]at hrow;rw[f.out]at hrow;have I:=Lq hrow;have HO8:=Lq ho8;have HB8:=Lq (ho8.below (bT q.out HB7.out) HGG.out);have HNM8:Hid (∀j m,j<k+1→(L.set k ⟨(ah.mk X U T V s Y Z),A5,c5⟩)[j]?=some m→fM W8 g gn m):=Lq fun j m x hm=>by
     rw[List.getElem?_set]at hm;split at hm
     ·rename_i ap;split at hm
      ·injection hm with hm
       subst hm;refine(fM.of_own HOW.out (fun i hi=>?_)).kept (dP.of_only ho8)
       have O:=(HOR.out.lt i hi).1;have h2:=HB6.out.size;have h3:=J.out.lt g rfl;have h4:=q.out.size;have h5:=HQN4.out.lt;omega
      ·cases hm
     ·exact((ad.out j m (by omega) hm).kept (dP.of_below HB7.out)).kept (dP.of_only ho8)
    have ag:Hid (∀j,j<k+1→(ab (L.set k ⟨(ah.mk X U T V s Y Z),A5,c5⟩))[j]?=(ab a)[j]?):=Lq fun j x=>by
     rw[rC,List.getElem?_set];split
     ·rename_i ap;subst ap;rw[if_pos (by simp[f.out,hlt]),bN HYI.out]
     ·exact ae.out j (by omega)
    clear E z an hr7 hold d hrow ho8 c0 c1 c2 c3 c4 c5' c6 d0 d1 d2 d3 d4 d5 d6 e0 e1 e2 e3 e4 e5 e6 f0 f1 f2 f3 f4 f5 f6 el hWb hW6 hg2;go_wp2_with fail;go_roundw
    case measure=>simp[intOf];omega
    case rel =>
     exact⟨k+1,L.set k ⟨(ah.mk X U T V s Y Z),A5,c5⟩,by omega,by go_num,Lq (by rw[List.length_set];exact f.out),ag,I,HNM8,HB8⟩
   ·obtain rfl:k=a.length:=by omega
    have aq:ab L=ab a:=by
     refine List.ext_getElem? fun j=>?_
     rcases Nat.lt_or_ge j a.length with x | x
     ·exact ae.out j x
     ·rw[List.getElem?_eq_none (by simp[f.out];exact x),List.getElem?_eq_none (by simpa using x)]
    have qn:=HQN4.out.keep q.out;have n0:=qn.c 0;have nf:=qn.frozen 0;have nl:=qn.lt;obtain⟨W9,hW9⟩:=ex (wr.setCell ⟨gn,0,none⟩ (.slice (some ⟨g,0,none⟩) a.length a.length));have d0:W9.cell? ⟨gn,0,none⟩=some (.slice (some ⟨g,0,none⟩) a.length a.length):=by rw[←hW9];exact(qn.set_ 0 _).cell 0
    have o9:ai wr W9 gn:=by rw[←hW9];exact ai.of_set (bR wr) gn 0 _
    have t:Hid (BW w W9):=Lq (o9.below (bT HB0.out q.out) HGN.out);have hgn4:gn<W4.heap.size:=HQN4.out.lt;have hs9:=az.of_own (ms:=L) (jq J.out o9 hgn4) f.out.symm (fun m hm=>by obtain⟨j,x⟩:=List.mem_iff_getElem?.1 hm;have hjl:=(lG x);rw[f.out]at hjl;exact ad.out j m hjl x W9 (dP.of_only2 o9))
    obtain⟨A9,c9,e9,F⟩:=hs9;have HSL9:=Lq F;have HE9:=Lq e9;have HPO:=Lq aq;clear qn o9 F e9 aq hgn4;go_wp2_with fail;refine bodyPost_ret (v:=.tuple #[.agg #[.slice (some ⟨g,0,none⟩) a.length a.length],iv 0]) (by simp[results,Tryz.results40,go_sem,d0]) rfl ⟨0,some ⟨g,0,none⟩,a.length,a.length,rfl,t.out,⟨fun _=>HIFF.out.1 trivial,fun _=>rfl⟩,fun _=>⟨L,f.out.symm,HPO.out.trans aw.out, ?_⟩⟩
    have O:=HE9.out;injection O with h2 h3 h4
    rw[h2,h4];exact HSL9.out
 ·have ax:(r != 0)=true:=by simpa using hr
  have d0:(W4.setCell ⟨gn,0,none⟩ (.slice none 0 0)).cell? ⟨gn,0,none⟩=some (.slice none 0 0):=(HQN4.out.set_ 0 _).cell 0;have t:Hid (BW w (W4.setCell ⟨gn,0,none⟩ (.slice none 0 0))):=Lq ((ai.of_set (bR W4) gn 0 _).below HB0.out HGN.out);go_wp2_with fail;exact bodyPost_ret (v:=.tuple #[.agg #[.slice none 0 0],iv r]) (by simp[results,Tryz.results40,go_sem,d0]) rfl ⟨r,none,0,0,rfl,t.out,HIFF.out,fun h=>absurd h hr⟩
section
variable{cs8:Array Value}{Q:Exit→Act→World→Prop}{al m q s sm:Int}{g12 g8:Nat}{zA zB zK zL zP zQ zR zS zT zC zU zV zW zX zY zZ za zb zc zd zD ze zf zg zh zi zj zk zl zm zn zE zo zp zq zr zs zt zu zv zw zx zF zy zz zAA zAB zAC zAD zAE zAF zAG zAH zG zAI zAJ zAK zAL zAM zAN zAO zAP zAQ zAR zH zAS zAT zAU zAV zAW zAX zAY zAZ zAa zAb zAc zAd zAe zAf zAg zAh zAi zAj zAk zJ:Value}{V:World}
noncomputable def uC:Array Oper:=aU (aF Tryz.f4 10)
theorem Dd{c wl:Int}{j:TypeId}(n:¬al=0)(o:IntKind.i64.wrap (wl*sm)=m)(p:IntKind.i64.wrap (m.tdiv al)=q)(r:IntKind.i64.wrap (c+q)=s)(f:aa V g8 j cs8)(h:∀W,BW V W→cA W g8 0 (iv c)∧cA W g12 5 (iv wl))(g:∀u62 u63 u64 u65 u66 u67 u68 u69 u70 u71 u72 W',BW V W'→Q .normal ⟨#[zA,zB,zC,zD,zE,zF,zG,zH,.pointer (some ⟨g8,0,none⟩),zJ,zK,zL,.pointer (some ⟨g12,0,none⟩),iv al,iv sm,zP,zQ,zR,zS,zT,zU,zV,zW,zX,zY,zZ,za,zb,zc,zd,ze,zf,zg,zh,zi,zj,zk,zl,zm,zn,zo,zp,zq,zr,zs,zt,zu,zv,zw,zx,zy,zz,zAA,zAB,zAC,zAD,zAE,zAF,zAG,zAH,zAI,zAJ,u62,u63,u64,u65,u66,u67,u68,u69,u70,u71,u72,zAV,zAW,zAX,zAY,zAZ,zAa,zAb,zAc,zAd,zAe,zAf,zAg,zAh,zAi,zAj,zAk],[]⟩ (W'.setCell ⟨g8,0,none⟩ (iv s))) :
  (aF Tryz.f4 10).wp Tryz.prog Q ⟨#[zA,zB,zC,zD,zE,zF,zG,zH,.pointer (some ⟨g8,0,none⟩),zJ,zK,zL,.pointer (some ⟨g12,0,none⟩),iv al,iv sm,zP,zQ,zR,zS,zT,zU,zV,zW,zX,zY,zZ,za,zb,zc,zd,ze,zf,zg,zh,zi,zj,zk,zl,zm,zn,zo,zp,zq,zr,zs,zt,zu,zv,zw,zx,zy,zz,zAA,zAB,zAC,zAD,zAE,zAF,zAG,zAH,zAI,zAJ,zAK,zAL,zAM,zAN,zAO,zAP,zAQ,zAR,zAS,zAT,zAU,zAV,zAW,zAX,zAY,zAZ,zAa,zAb,zAc,zAd,zAe,zAf,zAg,zAh,zAi,zAj,zAk],[]⟩ V:=by
 have i:=Lq h;have HB0:=Lq (fc (bR V));have HQ:=Lq g;have HG:=Lq f;clear h g f;have e:aF Tryz.f4 10=Code.region 10 uC true:=by kernel_rfl
 rw[e];refine wp_region_noPanic ?_;refine lZ (S:=(fun W=>cA W g8 0 (iv c)∧cA W g12 5 (iv wl))) (late:=(fun k=>k==11)) (by rfl) ?_
 have a:=i.out _ HB0.out;have hsz:uC.size=12:=by kernel_rfl
 have b:Array.replicate 12 false=#[false,false,false,false,false,false,false,false,false,false,false,false]:=by kernel_rfl
 rw[hsz,b];clear e hsz b;generalize V.drew=V0 at HB0 a ⊢;refine ae 0 (.pointer (some ⟨g8,0,none⟩)) ?_;refine ae 1 (iv c) ?_;refine ae 2 (.pointer (some ⟨g12,5,none⟩)) ?_;refine ae 3 (.pointer (some ⟨g12,5,none⟩)) ?_;refine ae 4 (iv wl) ?_;refine ae 5 (iv sm) ?_;refine ae 6 (iv m) ?_;refine ae 7 (iv al) ?_;refine ae 8 (iv q) ?_;refine ae 9 (iv s) ?_;refine ae 10 (.pointer (some ⟨g8,0,none⟩)) ?_;refine bO 11 fun l hK=>?_
 have d:=HG.out.keep HB0.out;have fg:=d.frozen 0;have lg:=d.lt;have cg:=a.1;go_simp;refine hK.out _ _ ?_;clear d fg lg cg;clear hK;exact dL (HQ.out _ _ _ _ _ _ _ _ _ _ _ _ HB0.out)
noncomputable def uD:Array Oper:=aU (aF Tryz.f4 11)
theorem De{c wh f g:Int}{p:TypeId}(t:¬al=0)(u:IntKind.i64.wrap (wh*sm)=m)(n:IntKind.i64.wrap (m+al)=f)(o:IntKind.i64.wrap (f-1)=g)(v:IntKind.i64.wrap (g.tdiv al)=q)(x:IntKind.i64.wrap (c+q)=s)(h:aa V g8 p cs8)(j:∀W,BW V W→cA W g8 1 (iv c)∧cA W g12 6 (iv wh))(i:∀u73 u74 u75 u76 u77 u78 u79 u80 u81 u82 u83 u84 u85 u86 W',BW V W'→Q .normal ⟨#[zA,zB,zC,zD,zE,zF,zG,zH,.pointer (some ⟨g8,0,none⟩),zJ,zK,zL,.pointer (some ⟨g12,0,none⟩),iv al,iv sm,zP,zQ,zR,zS,zT,zU,zV,zW,zX,zY,zZ,za,zb,zc,zd,ze,zf,zg,zh,zi,zj,zk,zl,zm,zn,zo,zp,zq,zr,zs,zt,zu,zv,zw,zx,zy,zz,zAA,zAB,zAC,zAD,zAE,zAF,zAG,zAH,zAI,zAJ,zAK,zAL,zAM,zAN,zAO,zAP,zAQ,zAR,zAS,zAT,zAU,u73,u74,u75,u76,u77,u78,u79,u80,u81,u82,u83,u84,u85,u86,zAj,zAk],[]⟩ (W'.setCell ⟨g8,1,none⟩ (iv s))) :
  (aF Tryz.f4 11).wp Tryz.prog Q ⟨#[zA,zB,zC,zD,zE,zF,zG,zH,.pointer (some ⟨g8,0,none⟩),zJ,zK,zL,.pointer (some ⟨g12,0,none⟩),iv al,iv sm,zP,zQ,zR,zS,zT,zU,zV,zW,zX,zY,zZ,za,zb,zc,zd,ze,zf,zg,zh,zi,zj,zk,zl,zm,zn,zo,zp,zq,zr,zs,zt,zu,zv,zw,zx,zy,zz,zAA,zAB,zAC,zAD,zAE,zAF,zAG,zAH,zAI,zAJ,zAK,zAL,zAM,zAN,zAO,zAP,zAQ,zAR,zAS,zAT,zAU,zAV,zAW,zAX,zAY,zAZ,zAa,zAb,zAc,zAd,zAe,zAf,zAg,zAh,zAi,zAj,zAk],[]⟩ V:=by
 have l:=Lq j;have HB0:=Lq (fc (bR V));have HQ:=Lq i;have HG:=Lq h;clear j i h;have e:aF Tryz.f4 11=Code.region 11 uD true:=by kernel_rfl
 rw[e];refine wp_region_noPanic ?_;refine lZ (S:=(fun W=>cA W g8 1 (iv c)∧cA W g12 6 (iv wh))) (late:=(fun k=>k==14)) (by rfl) ?_
 have a:=l.out _ HB0.out;have hsz:uD.size=15:=by kernel_rfl
 have b:Array.replicate 15 false=#[false,false,false,false,false,false,false,false,false,false,false,false,false,false,false]:=by kernel_rfl
 rw[hsz,b];clear e hsz b;generalize V.drew=V0 at HB0 a ⊢;refine ae 0 (.pointer (some ⟨g8,1,none⟩)) ?_;refine ae 1 (iv c) ?_;refine ae 2 (.pointer (some ⟨g12,5,none⟩)) ?_;refine ae 3 (.pointer (some ⟨g12,6,none⟩)) ?_;refine ae 4 (iv wh) ?_;refine ae 5 (iv sm) ?_;refine ae 6 (iv m) ?_;refine ae 7 (iv al) ?_;refine ae 8 (iv f) ?_;refine ae 9 (iv g) ?_;refine ae 10 (iv al) ?_;refine ae 11 (iv q) ?_;refine ae 12 (iv s) ?_;refine ae 13 (.pointer (some ⟨g8,1,none⟩)) ?_;refine bO 14 fun r hK=>?_
 have d:=HG.out.keep HB0.out;have fg:=d.frozen 1;have lg:=d.lt;have cg:=a.1;go_simp;refine hK.out _ _ ?_;clear d fg lg cg;clear hK;exact dL (HQ.out _ _ _ _ _ _ _ _ _ _ _ _ _ _ _ HB0.out)
end
end Go.Proofs.YtbillnhcmkpohaaGreatDoor
