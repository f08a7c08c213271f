/- hull: swap (printed by mkHQ3.py). hull: build, the words of its two blocks. hull: build .. -/
import Derived.Laws.EntriesVeiled
import Derived.Test.YtbillnhcmkpohaaGreatDoorM6
set_option maxRecDepth 1000000
set_option maxHeartbeats 0
namespace Go.Proofs.YtbillnhcmkpohaaGreatDoor
open Go.RowKit
section
variable{n s:ByteArray}{k:Nat}
theorem CX(l:List ah)(p:Nat)(s:ByteArray)(x:ah)(a:p<l.length):(cB l p s x).take (p+1)=l.take p++[x]:=by
 unfold cB;have h:(l.take p).length=p:=by rw[List.length_take];omega
 rw[List.take_append,h,show p+1-p=1 by omega,List.take_take,Nat.min_eq_right (by omega)]
 rfl
theorem CY(l:List ah)(p:Nat)(x:ah)(a:p<l.length):l.set p x=l.take p++[x]++l.drop (p+1):=by rw[List.set_eq_take_append_cons_drop,if_pos a];simp
theorem CZ{α:Type}{l:List α}{i:Nat}{x:α}(h:l[i]?=some x):l.set i x=l:=by obtain⟨a,rfl⟩:=List.getElem?_eq_some_iff.1 h;exact List.set_getElem_self a
theorem C0{l:List ByteArray}{r:Int}(d:(l.map ByteArray.toList).Nodup)(a:l8 l s=r)(g:¬r<0):∃k:Nat,r=(k:Int)∧k<l.length∧l.map (cR s n)=l.set k n:=by
 unfold l8 dx at a;by_cases hl:l.findIdx (fun o=>eqS s o)<l.length
 ·rw[if_pos hl]at a;refine⟨_,a.symm,hl,List.ext_getElem? fun i=>?_⟩
  have c:eqS s (l[l.findIdx (fun o=>eqS s o)])=true:=List.findIdx_getElem (w:=hl)
  rw[List.getElem?_map,List.getElem?_set];by_cases hi:l.findIdx (fun o=>eqS s o)=i
  ·subst hi;rw[if_pos rfl,if_pos hl,gE hl];simp only[Option.map_some,cR];rw[tX,if_pos c]
  ·rw[if_neg hi];cases hx:l[i]? with
   | none=>rfl
   | some o =>
    simp only[Option.map_some,cR];rw[if_neg];intro f;obtain⟨h2,h3⟩:=List.getElem?_eq_some_iff.1 hx;have h1:(l.map ByteArray.toList)[l.findIdx (fun o=>eqS s o)]'(by simpa using hl)=(l.map ByteArray.toList)[i]'(by simpa using h2):=by rw[List.getElem_map,List.getElem_map,h3];exact(gY.1 c).symm.trans (gY.1 f).symm
    have b:l.findIdx (fun o=>eqS s o)<(l.map ByteArray.toList).length:=by rw[List.length_map];exact hl
    exact hi ((List.getElem?_inj b d).1 (by rw[gE b,gE (by rw[List.length_map];exact h2),h1]))
 ·rw[if_neg hl]at a;omega
theorem rC(ms:List aj)(p:Nat)(m:aj):ab (ms.set p m)=(ab ms).set p m.p:=by simp only[ab,List.map_set]
theorem C3{q:ah}(h:standsB q s=false):jG s n q=q:=by
 unfold jG;have:q.on.map (cR s n)=q.on:=by
  refine(List.map_congr_left (fun o b=>?_)).trans (List.map_id _)
  unfold cR;rw[if_neg]
  ·rfl
  ·intro a;exact tm h o b (gY.1 a)
 rw[this]
theorem C4{l M:List ah}{p:Nat}{x q:ah}(b:p<l.length)(f:p<k)(c:l[k]?=some q)(d:M=(cB l p s x).take k++l.drop k):M[k]?=some q∧(cB l p s x).take (k+1)++l.drop (k+1)=M.set k (jG s x.name q):=by
 obtain⟨g,e⟩:=List.getElem?_eq_some_iff.1 c;have hT:=tL (s:=s) (x:=x) b c f;have hlen:((cB l p s x).take k).length=k:=by rw[List.length_take,qU b];omega
 have a:l.drop k=q::l.drop (k+1):=by rw[List.drop_eq_getElem_cons g,e]
 subst d;refine⟨by rw[List.getElem?_append_right (by omega),hlen,Nat.sub_self,a];rfl, ?_⟩
 rw[List.set_append_right _ _ (by omega),hlen,Nat.sub_self,a,List.set_cons_zero,List.take_add_one,hT]
 simp
theorem C6{w:World}{B cap:Nat}{A:Option Addr}{ms:List aj}(h:az w B A cap ms):cF w B (if cap=k then A else A.map fun x=>x.add (k*7)) (ms.drop k):=by
 refine⟨?_,fun m d=>h.rd.ok m (List.mem_of_mem_drop d)⟩
 cases A with
 | none =>
  have:ms=[]:=List.length_eq_zero_iff.1 (by have:=h.le;have:=h.nil0 rfl;omega)
  subst this;simp only[List.drop_nil];exact aG.nil
 | some a =>
  by_cases hc:cap=k
  ·have:ms.drop k=[]:=List.drop_eq_nil_of_le (by have:=h.le;omega)
   rw[this];exact aG.nil
  ·rw[if_neg hc];obtain⟨c,_⟩:=h.off a rfl;obtain⟨b,off,sp⟩:=a;simp only at c;subst c;have:=aG.drop h.rd.rd k
   simpa[lX]using this
theorem C7(A:Option Addr)(ms:List aj)(c:ao)(B cap D:Nat)(w:World)(hB:B≤D)(hg:aa w D 62 #[.slice A ms.length cap])(hK:dT w D A cap ms)(hM:aR w B c.part)(av:aE (ab ms))(a3:c.what=3) :
  Cs 152 #[pT D 0,cV c] w (me ms c D w):=by
 have aK:ms.length≤12:=by have:=av.len;simpa using this
 obtain⟨R,aW,Z,bj,V⟩:=mO w c;have hgl:=hg.lt;have HG:=Lq (hg.keep Z);have HK:=Lq (hK.below Z);have HM:=Lq (hM.below Z (lT hB (Nat.le_of_lt hgl)));have HB1:=Lq Z;have HOK:=Lq av;have hgl1:D<R.heap.size:=by omega
 clear hg hK hM Z av;obtain⟨aQ,day,I,⟨⟨b,t,first,last,on,y,v⟩,J,M⟩⟩:=c;obtain rfl:aQ=3:=a3;obtain⟨gc,hgc⟩:=ex w.heap.size;rw[hgc]at V;have HCB:Hid (∀W,BW R W→aa W gc 68 #[iv 3,iv day,.string I,.string b,iv t,iv first,iv last,.slice J on.length M,iv y,iv v]):=Lq fun W hb=>V.keep hb
 have HS:Hid (∀W,BW R W→W.cell? ⟨D,0,none⟩=some (.slice A ms.length cap)∧W.cell? ⟨gc,3,none⟩=some (.string b)∧W.cell? ⟨gc,4,none⟩=some (iv t)∧W.cell? ⟨gc,5,none⟩=some (iv first)∧W.cell? ⟨gc,6,none⟩=some (iv last)∧W.cell? ⟨gc,7,none⟩=some (.slice J on.length M)∧W.cell? ⟨gc,8,none⟩=some (iv y)∧W.cell? ⟨gc,9,none⟩=some (iv v)):=Lq fun W hb=>have k:=V.keep hb;⟨(HG.out.keep hb).c 0,k.c 3,k.c 4,k.c 5,k.c 6,k.c 7,k.c 8,k.c 9⟩
 obtain⟨r,hr⟩:=ex (ct (ab ms) I);have HF:Hid (∀W,BW R W→Cs 88 #[pT D 0,.string I] W (Rt W (iv r))):=Lq fun W hb=>hr▸jK A ms W.heap.size cap D I W (lr _) (lT (HK.out.sl hb).le (HK.out.sl hb).max) (HK.out.sl hb).rd (HS.out W hb).1
 have aT:Hid (∀W,BW R W→Cs 193 #[.slice A ms.length cap] W (jJ ms W)):=Lq fun W hb=>rt A ms W.heap.size cap W (lr _) (HK.out.sl hb) aK
 have KR:=Lq hr;have hcm:cap≤maxLen:=(HK.out.sl (bR R)).max;have hcl:ms.length≤cap:=(HK.out.sl (bR R)).le;have hca9:cap≤9223372036854775807:=by simp only[maxLen]at hcm;omega
 obtain⟨x0,X,x4,x5,x6,x7,x8,x9⟩:=HS.out _ (bR R);have x2:=(HCB.out _ (bR R)).c 2;have xl:=(HCB.out _ (bR R)).lt;clear V hr;go_enter Tryz.func152,Tryz.ntmps152
 go_wp2_with fail;refine(HF.out _ (bR R)).mono ?_;rintro e w2 ⟨rfl,(F:Hid _)⟩;clear aW x0 x2 X x4 x5 x6 x7 x8 x9 xl;obtain⟨x0,X,x4,x5,x6,x7,x8,x9⟩:=HS.out _ F.out;have x2:=(HCB.out _ F.out).c 2;have xl:=(HCB.out _ F.out).lt;by_cases hr0:r<0
 ·go_wp2_with fail;go_ret
  exact mg (by decide) (mP rfl (fun h=>by have z:=iO.1 (by rw[KR.out];exact hr0:ct (ab ms) I<0);have T:=h.1;simp only[ao.c]at T;rw[z]at T;cases T)) (bT HB1.out F.out)
 ·have hh:hasP (ab ms) I=true:=by
   cases h:hasP (ab ms) I with
   | true=>rfl
   | false=>have:=iO.2 h;rw[KR.out]at this;exact absurd this hr0
  obtain⟨aw,ar,yp,aP,bi⟩:=fU hh;obtain⟨p,hp⟩:=ex (aL (ab ms) I);rw[hp]at aw ar aP;have hp2:p<ms.length:=by simpa using ar
  obtain rfl:r=(p:Int):=by rw[←KR.out];exact aw
  have HH:=Lq hh;have HI:=Lq hp;have hp0:=nn p;have hp3:(p:Int)+1≤(ms.length:Int):=by omega
  have bb:(p:Int)+1≤(cap:Int):=by omega
  have hw:IntKind.i64.wrap ((p:Int)+1)=(p:Int)+1:=by rw[IntKind.wrap_i64];omega
  have ba:¬((p:Int)+1<0):=by omega
  have be:((p:Int)+1).toNat=p+1:=by omega
  obtain⟨A2,aF⟩:=ex (if cap=p+1 then A else A.map fun x=>x.add ((p+1)*7))
  have aS:Hid (∀W,BW R W→Cs 83 #[pT D 0,.agg #[.string b,iv t,iv first,iv last,.slice J on.length M,iv y,iv v],iv p,.slice A2 (ms.length-(p+1)) (cap-(p+1))] W (iP (cQ (ah.mk b t first last on y v) ((ab ms).take p) ((ab ms).eraseIdx p)) W)):=Lq fun W hb=>by
   have hs:=HK.out.sl hb;have hdl:(ms.drop (p+1)).length=ms.length-(p+1):=List.length_drop;have h:=rr A (if cap=p+1 then A else A.map fun x=>x.add ((p+1)*7)) ms (ms.drop (p+1)) ⟨(ah.mk b t first last on y v),J,M⟩ W.heap.size cap (cap-(p+1)) D p W (lr _) hs.rd (C6 hs) ((HM.out.below hb (by omega)).more (lT (by omega) hb.size)) hs.le hs.max (by rw[hdl];unfold maxLen;omega) (Nat.le_of_lt hp2) (HS.out W hb).1
   rw[hdl,show ab (ms.drop (p+1))=(ab ms).drop (p+1)by simp only[ab,List.map_drop],←List.eraseIdx_eq_take_drop_succ,aF]at h
   exact h
  clear hh aw ar hp;go_wp2_with fail;go_region_held3 (fun W=>W.cell? ⟨D,0,none⟩=some (.slice A ms.length cap)∧W.cell? ⟨gc,3,none⟩=some (.string b)∧W.cell? ⟨gc,4,none⟩=some (iv t)∧W.cell? ⟨gc,5,none⟩=some (iv first)∧W.cell? ⟨gc,6,none⟩=some (iv last)∧W.cell? ⟨gc,7,none⟩=some (.slice J on.length M)∧W.cell? ⟨gc,8,none⟩=some (iv y)∧W.cell? ⟨gc,9,none⟩=some (iv v)) (first | exact HS.out _ (bT F.out (u0 hb5)) | exact HS.out _ (bT F.out (aZ (bR _)))) ((go_at_call 83;((with_reducible refine(aS.out _ (bT F.out (aZ (bR _)))).mono ?_);rintro e w5 ⟨r5,rfl,hr5,hb5⟩)))
  have G:=Lq (bT F.out (u0 hb5));have HR:=Lq hr5;clear hb5 hr5 x0 x2 X x4 x5 x6 x7 x8 x9 xl hw aF;obtain⟨x0,X,x4,x5,x6,x7,x8,x9⟩:=HS.out _ G.out;by_cases hr50:r5=0
  ·subst hr50;have aU:=Lq (HR.out.1 rfl);clear HR;go_wp2_with fail;refine(aT.out _ G.out).mono ?_;rintro e w6 ⟨v6,rfl,U,hb⟩;obtain⟨g,c6,rfl,hgb,hgl6,hc6⟩:=gI U (by omega)
   have am:=Lq (bT G.out hb);have hgs:D<g:=lz (lz hgl1 G.out.size) hgb;have hgW1:R.heap.size≤g:=lT G.out.size hgb;have hcm6:c6≤maxLen:=by
    obtain⟨A9,c9,z,_,_,T,N⟩:=jp cH U;injection z with _ _ z
    subst z;exact N
   have a4:c6≤9223372036854775807:=by simp only[maxLen]at hcm6;omega
   obtain⟨az,al⟩:=gX (l:=ms) (i:=p) hp2;have f:∀j u,(aJ az)[j]?=some u→w6.cell? ⟨g,p*7+j,none⟩=some u:=fun j u hu=>by
    have z:=jo cH ms p az al j u hu;have T:=U.cellAt (p*7+j) (by have:=(lG z);rw[fV cH]at this;exact this)
    rw[T,z]
   have H:∀j,w6.frozen? ⟨g,j,none⟩=false:=fun j=>U.frozenAt j
   have y0:w6.cell? ⟨g,p*7,none⟩=some (.string az.p.name):=f 0 _ rfl;obtain⟨y1,y2,y3,y4,y5,y6⟩:_∧_∧_∧_∧_∧_:=⟨f 1 _ rfl,f 2 _ rfl,f 3 _ rfl,f 4 _ rfl,f 5 _ rfl,f 6 _ rfl⟩;obtain⟨f0,f1,f2,f3,f4,f5,f6⟩:_∧_∧_∧_∧_∧_∧_:=⟨H (p*7),H (p*7+1),H (p*7+2),H (p*7+3),H (p*7+4),H (p*7+5),H (p*7+6)⟩;have hrow:=uu U p ⟨(ah.mk b t first last on y v),J,M⟩ hp2;obtain⟨W7,hW7⟩:=ex (((((((w6.setCell ⟨g,p*7,none⟩ (.string b)).setCell ⟨g,p*7+1,none⟩ (iv t)).setCell ⟨g,p*7+2,none⟩ (iv first)).setCell ⟨g,p*7+3,none⟩ (iv last)).setCell ⟨g,p*7+4,none⟩ (.slice J on.length M)).setCell ⟨g,p*7+5,none⟩ (iv y)).setCell ⟨g,p*7+6,none⟩ (iv v));have ho7:ai w6 W7 g:=by rw[←hW7];exact((((((((ai.of_below (bR w6) g).set (p*7) _).set (p*7+1) _).set (p*7+2) _).set (p*7+3) _).set (p*7+4) _).set (p*7+5) _).set (p*7+6) _)
   simp only[hW7]at hrow;have aD:=Lq hrow;have HB7:=Lq (ho7.below am.out hgW1);have HN7:Hid (∀m∈ms.set p ⟨(ah.mk b t first last on y v),J,M⟩,fM W7 g D m):=Lq fun m hm=>by
    rcases List.mem_or_eq_of_mem_set hm with hm | rfl
    ·exact(fM.of_keeps HK.out am.out hgW1 hm).kept (dP.of_only ho7)
    ·exact fM.of_ok (HM.out.below HB7.out (by omega)) hB (by omega) (lT (by omega) HB7.out.size)
   have aC:Hid (ab (ms.set p ⟨(ah.mk b t first last on y v),J,M⟩)=(cB (ab ms) p I (ah.mk b t first last on y v)).take (p+1)++(ab ms).drop (p+1)):=Lq (by rw[rC,CY _ _ _ (by simpa using hp2),CX _ _ _ _ (by simpa using hp2)])
   obtain⟨A3,aV⟩:=ex (if c6=p+1 then some (⟨g,0,none⟩:Addr)else some ⟨g,(p+1)*7,none⟩)
   have bc:(p:Int)+1≤(c6:Int):=by omega
   clear f H U hb hrow ho7 al aP x0 X x4 x5 x6 x7 x8 x9;obtain⟨x0,X,x4,x5,x6,x7,x8,x9⟩:=HS.out _ am.out;go_wp2_with fail;have HK9:=Lq hgW1;clear y0 y1 y2 y3 y4 y5 y6 f0 f1 f2 f3 f4 f5 f6 x0 X x4 x5 x6 x7 x8 x9 hW7 aV;go_loopw [49] (fun i wr=>∃(j:Nat) (L:List aj),j≤ms.length-(p+1)∧i=iv j∧Hid (L.length=ms.length)∧Hid (ab L=(cB (ab ms) p I (ah.mk b t first last on y v)).take (p+1+j)++(ab ms).drop (p+1+j))∧Hid (wr.ownsRow w5.heap.size 50 7 (.slice (some ⟨g,0,none⟩) ms.length c6) ms.length (L.flatMap aJ))∧Hid (∀m∈L,fM wr g D m)∧Hid (∀d q,p<d→d<p+1+j→(ab ms)[d]?=some q→standsB q I=true→dN q (ah.mk b t first last on y v)=true)∧Hid (BW R wr)) (fun i _=>ms.length-(p+1)-(intOf i).toNat)
   case atStart=>exact⟨0,ms.set p ⟨(ah.mk b t first last on y v),J,M⟩,Nat.zero_le _,rfl,Lq (by simp),Lq (by simpa using aC.out),Lq aD.out,Lq HN7.out,Lq (fun d q z T=>by omega),HB7⟩
   case round =>
    obtain⟨j,L,hj,rfl,E,aB,Y,ag,ap,C⟩:=hrel;have hj0:=nn j;by_cases hlt:j<ms.length-(p+1)
    ·have aX:p+1+j<ms.length:=by omega
     obtain⟨q,V⟩:∃q,L[p+1+j]?=some q:=⟨_,gE (by rw[E.out];omega)⟩
     obtain⟨qp,ax⟩:∃x,(ab ms)[p+1+j]?=some x:=⟨_,gE (by simpa using aX)⟩
     obtain⟨ak,ae⟩:=C4 (k:=p+1+j) (by simpa using hp2) (by omega) ax aB.out
     have a2:q.p=qp:=by rw[bN V]at ak;injection ak
     subst a2;have f:∀i u,(aJ q)[i]?=some u→wr.cell? ⟨g,(p+1+j)*7+i,none⟩=some u:=fun i u hu=>by
      have z:=jo cH L (p+1+j) q V i u hu;have T:=Y.out.cellAt ((p+1+j)*7+i) (by have:=(lG z);rw[fV cH,E.out]at this;exact this)
      rw[T,z]
     have ad:=ag.out q (mG ⟨_,V⟩) wr (dP.of_below (bR wr));have hix:=fun W (hb:BW wr W)=>tW q.A q.p.on wr.heap.size q.cap I W (lT ad.le ad.cm) (ad.on.below hb (lr _))
     have S:=tY q.p.on I;have HQ:=Lq V;have HQP:=Lq ax;have HNX:=Lq ae;have HMQ:=Lq ad;have HMK:=Lq ak;obtain⟨⟨yn,yk,yf,yl,yon,yw,yz⟩,yA,yc⟩:=q;have y0:wr.cell? ⟨g,(p+1+j)*7,none⟩=some (.string yn):=f 0 _ rfl;obtain⟨y1,y2,y3,y4,y5,y6⟩:_∧_∧_∧_∧_∧_:=⟨f 1 _ rfl,f 2 _ rfl,f 3 _ rfl,f 4 _ rfl,f 5 _ rfl,f 6 _ rfl⟩;simp only at y1 y2 y3 y4 y5 y6 hix S;obtain⟨rk,hrk⟩:=ex (l8 yon I);rw[hrk]at hix S;have HIX:=Lq hix;have HRK:=Lq hrk;obtain⟨bs,hbs⟩:=ex (standsB (ah.mk yn yk yf yl yon yw yz) I);have hdec2:decide (0≤rk)=bs:=by rw[S,←hbs];rfl
     have an:=Lq hbs;have x2:=(HCB.out _ C.out).c 2;obtain⟨x0,X,x4,x5,x6,x7,x8,x9⟩:=HS.out _ C.out;have xl:=(HCB.out _ C.out).lt;have hpj:(p:Int)+1+(j:Int)<(ms.length:Int):=by omega
     clear f hix hrk hbs S V ax ae ad ak;cases bs
     ·have aM:rk<0:=by simpa using hdec2
      clear hdec2;go_wp2_with fail;go_quiet ((go_at_call 172;exact Calls.quiet_of_same (HIX.out _ (cY (bR _) _))))
      clear y0 y1 y2 y3 y4 y5 y6 x0 x2 X x4 x5 x6 x7 x8 x9 xl;go_wp2_with fail;go_roundw
      case rel =>
       refine⟨j+1,L,by omega,by go_num,E,Lq ?_,Lq ?_,Lq (fun m hm=>(ag.out m hm).kept (dP.of_below (cY (bR _) _))),Lq (fun d q z T N h4=>?_),Lq (cY C.out _)⟩
       ·rw[←Nat.add_assoc,HNX.out,C3 an.out];exact(CZ HMK.out).symm
       ·exact aN Y.out (cY (bR _) _)
       ·rcases Nat.lt_or_ge d (p+1+j)with h5 | h5
        ·exact ap.out d q z h5 N h4
        ·obtain rfl:d=p+1+j:=by omega
         rw[HQP.out]at N;injection N with N
         subst N;rw[an.out]at h4;cases h4
      case measure=>simp[intOf];omega
     ·have aM:¬rk<0:=by have:=of_decide_eq_true hdec2;omega
      clear hdec2;obtain⟨bm,aq⟩:=ex (dN (ah.mk yn yk yf yl yon yw yz) (ah.mk b t first last on y v));have HM46:Hid (∀W,Cs 146 #[.agg #[.string yn,iv yk,iv yf,iv yl,.slice yA yon.length yc,iv yw,iv yz],.agg #[.string b,iv t,iv first,iv last,.slice J on.length M,iv y,iv v]] W (Rt W (.bool bm))):=Lq fun W=>aq▸tV ⟨⟨yn,yk,yf,yl,yon,yw,yz⟩,yA,yc⟩ ⟨(ah.mk b t first last on y v),J,M⟩ W
      have aA:=Lq aq;have HSY:Hid (∀W,BW wr W→W.cell? ⟨g,(p+1+j)*7,none⟩=some (.string yn)∧W.cell? ⟨g,(p+1+j)*7+1,none⟩=some (iv yk)∧W.cell? ⟨g,(p+1+j)*7+2,none⟩=some (iv yf)∧W.cell? ⟨g,(p+1+j)*7+3,none⟩=some (iv yl)∧W.cell? ⟨g,(p+1+j)*7+4,none⟩=some (.slice yA yon.length yc)∧W.cell? ⟨g,(p+1+j)*7+5,none⟩=some (iv yw)∧W.cell? ⟨g,(p+1+j)*7+6,none⟩=some (iv yz)∧W.cell? ⟨gc,3,none⟩=some (.string b)∧W.cell? ⟨gc,4,none⟩=some (iv t)∧W.cell? ⟨gc,5,none⟩=some (iv first)∧W.cell? ⟨gc,6,none⟩=some (iv last)∧W.cell? ⟨gc,7,none⟩=some (.slice J on.length M)∧W.cell? ⟨gc,8,none⟩=some (iv y)∧W.cell? ⟨gc,9,none⟩=some (iv v)):=Lq fun W hb=>⟨kC hb y0,kC hb y1,kC hb y2,kC hb y3,kC hb y4,kC hb y5,kC hb y6,kC hb X,kC hb x4,kC hb x5,kC hb x6,kC hb x7,kC hb x8,kC hb x9⟩
      clear aq;go_wp2_with fail;go_quiet ((go_at_call 172;exact Calls.quiet_of_same (HIX.out _ (cY (bR _) _))))
      go_wp2_with fail;go_region_held3 (fun W=>W.cell? ⟨g,(p+1+j)*7,none⟩=some (.string yn)∧W.cell? ⟨g,(p+1+j)*7+1,none⟩=some (iv yk)∧W.cell? ⟨g,(p+1+j)*7+2,none⟩=some (iv yf)∧W.cell? ⟨g,(p+1+j)*7+3,none⟩=some (iv yl)∧W.cell? ⟨g,(p+1+j)*7+4,none⟩=some (.slice yA yon.length yc)∧W.cell? ⟨g,(p+1+j)*7+5,none⟩=some (iv yw)∧W.cell? ⟨g,(p+1+j)*7+6,none⟩=some (iv yz)∧W.cell? ⟨gc,3,none⟩=some (.string b)∧W.cell? ⟨gc,4,none⟩=some (iv t)∧W.cell? ⟨gc,5,none⟩=some (iv first)∧W.cell? ⟨gc,6,none⟩=some (iv last)∧W.cell? ⟨gc,7,none⟩=some (.slice J on.length M)∧W.cell? ⟨gc,8,none⟩=some (iv y)∧W.cell? ⟨gc,9,none⟩=some (iv v)) (first | exact HSY.out _ (bT (cY (bR _) _) (u0 hb5)) | exact HSY.out _ (bT (cY (bR _) _) (aZ (bR _)))) ((go_at_call 146;((with_reducible refine(HM46.out _).mono ?_);rintro e w8 ⟨rfl,hb5⟩)))
      have K:=Lq (bT (cY (bR wr) _) (u0 hb5));clear hb5;cases bm
      ·go_wp2_with fail;go_ret
       exact mg (by decide) (mP rfl (fun h=>by
        have z:=h.2.2 (ah.mk yn yk yf yl yon yw yz) (by simp only[ao.c,HI.out];exact mG ⟨j,by rw[List.getElem?_drop];exact HQP.out⟩) an.out
        simp only[ao.c]at z;rw[aA.out]at z;cases z)) (bT HB1.out (bT C.out K.out))
      ·have aG:=(HMQ.out.below K.out (lr _));have HCN:Hid (∀W,BW w8 W→Cs 153 #[.slice yA yon.length yc] W (pq yon W)):=Lq fun W hb=>um yA yon w8.heap.size yc W hb.size ((aG.more K.out.size).on.below hb (lr _)) HMQ.out.sz
       obtain⟨y0,y1,y2,y3,y4,y5,y6,X,x4,x5,x6,x7,x8,x9⟩:=HSY.out _ K.out;clear aG;go_wp2_with fail;refine(HCN.out _ (bR _)).mono ?_;rintro e w9 ⟨v9,rfl,ho9,hb9⟩;have HB9:=Lq (bT K.out hb9);have hdupq:(yon.map ByteArray.toList).Nodup:=(HOK.out.part _ _ HQP.out).dup;obtain⟨rn,hrn,hrl,hsw⟩:=C0 (n:=b) hdupq HRK.out (Int.not_lt.2 aM);subst hrn;have HSW:=Lq hsw;obtain⟨k,c9,rfl,hk8,hk9,hkc⟩:=gI ho9 (by omega)
       have bf:wr.heap.size≤k:=lT K.out.size hk8;have hgr:g<wr.heap.size:=by have z:=(Y.out.lt g rfl).2;exact z
       have a8:g<k:=by omega
       have a5:c9≤9223372036854775807:=by
        obtain⟨A9,a6,z,_,_,N⟩:=qV ho9;injection z with _ _ z
        subst z;simp only[maxLen]at N;omega
       have ay:=aN Y.out HB9.out;rw[←E.out]at ay;have hf9:=ay.frozenAt ((p+1+j)*7+4);have hr10:=CW ay HQ.out (yon.set rn b) (some ⟨k,0,none⟩) c9 (by simp)
       have a7:g<w9.heap.size:=lz hgr HB9.out.size;obtain⟨W10,hW10⟩:=ex (w9.setCell ⟨g,(p+1+j)*7+4,none⟩ (.slice (some ⟨k,0,none⟩) yon.length c9));have o10:ai w9 W10 g:=by rw[←hW10];exact ai.of_set (bR w9) g _ _
       simp only[hW10]at hr10;rw[E.out]at hr10;have ac:=jq ho9 o10 (by have:=K.out.size;omega)
       have a0:=ac.frozenAt rn;obtain⟨xk,hxk⟩:∃x,W10.cell? ⟨k,rn,none⟩=some x:=⟨_,(ac.cellAt rn (by omega)).trans (gE (by rw[List.length_map];exact hrl))⟩
       have aI:=(ac.stored rn (.string b)).1;have hs10:=o10.size;have hy10:W10.cell? ⟨g,(p+1+j)*7+4,none⟩=some (.slice (some ⟨k,0,none⟩) yon.length c9):=by
        have z:=jo cH _ (p+1+j) _ (List.getElem?_set_self (l:=L) (a:=⟨ah.mk yn yk yf yl (yon.set rn b) yw yz,some ⟨k,0,none⟩,c9⟩) (by rw[E.out];omega)) 4 _ rfl
        have T:=hr10.cellAt ((p+1+j)*7+4) (by have:=(lG z);rw[fV cH,List.length_set,E.out]at this;exact this)
        rw[T,z];simp
       have aO:=kC hb9 X;have hy9:=kC hb9 y4;have hfk:W10.frozen? ⟨k,rn,none⟩=false:=a0;have hgc1:gc<g:=by omega
       have bh:W10.cell? ⟨gc,3,none⟩=some (.string b):=by rw[←hW10];exact(World.cell?_setCell_far w9 ⟨g,(p+1+j)*7+4,none⟩ ⟨gc,3,none⟩ _ (Nat.ne_of_gt hgc1)).trans aO
       have aY:k<W10.heap.size:=by omega
       go_wp2_with fail
       go_region
       go_wp2_with fail;go_roundw
       case measure=>simp[intOf];omega
       case rel =>
        have O:ai W10 (W10.setCell ⟨k,rn,none⟩ (.string b)).drew k:=(ai.of_set (bR W10) k rn _).drew;have hb11:=aN aI (aZ (bR _));have au:dP wr (W10.setCell ⟨k,rn,none⟩ (.string b)).drew g D:=⟨O.os.trans (o10.os.trans HB9.out.os),O.tape.trans (o10.tape.trans HB9.out.tape),O.output.trans (o10.output.trans HB9.out.output),lT HB9.out.size (lT o10.size O.size),fun i hi ha hb=>(O.block i (lz hi (lT HB9.out.size o10.size)) (by omega)).trans ((o10.block i (lz hi HB9.out.size) ha).trans (HB9.out.block i hi))⟩
        refine⟨j+1,L.set (p+1+j) ⟨ah.mk yn yk yf yl (yon.set rn b) yw yz,some ⟨k,0,none⟩,c9⟩,by omega,by go_num,Lq (by rw[List.length_set];exact E.out),Lq ?_,Lq ?_,Lq ?_,Lq (fun d q z T N h4=>?_),Lq ?_⟩
        ·rw[←Nat.add_assoc,HNX.out,rC];simp only[jG,HSW.out]
        ·exact O.own hr10 (by simp only[Value.ownBlock];intro h;injection h with h;omega)
        ·intro m hm;rcases List.mem_or_eq_of_mem_set hm with hm | rfl
         ·exact(ag.out m hm).kept au
         ·refine fM.of_own ⟨?_,HMQ.out.nm, ?_, ?_⟩ ?_
          ·have z:=nT hb11;rw[←List.map_set]at z
           simpa only[List.length_set]using z
          ·intro o U;rcases List.mem_or_eq_of_mem_set U with U | rfl
           ·exact HMQ.out.ons o U
           ·exact HM.out.nm
          ·have:=HMQ.out.sz
           simpa only[List.length_set]using this
          ·intro i hi;simp only[Value.ownBlock]at hi;injection hi with hi
           omega
        ·rcases Nat.lt_or_ge d (p+1+j)with h5 | h5
         ·exact ap.out d q z h5 N h4
         ·obtain rfl:d=p+1+j:=by omega
          rw[HQP.out]at N;injection N with N
          subst N;exact aA.out
        ·exact O.below (o10.below (bT C.out HB9.out) HK9.out) (by have:=C.out.size;omega)
    ·obtain rfl:j=ms.length-(p+1):=by omega
     have bg:=HG.out.keep C.out;have b0:=bg.c 0;have b1:=bg.frozen 0;have b2:=bg.lt;clear bg;go_wp2_with fail;go_ret
     have af:ai wr (wr.setCell ⟨D,0,none⟩ (.slice (some ⟨g,0,none⟩) ms.length c6)) D:=ai.of_set (bR wr) D 0 _;refine⟨0,rfl,oT (ai.of_below (bT HB1.out C.out) D) af,fun h=>absurd rfl h,fun _=>?_⟩
     obtain⟨A8,c8,e8,au⟩:=dT.own (g:=D) (jq Y.out af (by have:=G.out.size;omega)) E.out.symm (by have:=G.out.size;omega) (fun W U m hm=>ag.out m hm W ((dP.of_only2 af).trans (dP.of_only2 U)))
     refine⟨L,A8,c8, ?_, ?_,au⟩
     ·have aH:=(HG.out.keep C.out).set_ 0 (.slice (some ⟨g,0,none⟩) ms.length c6);simp only[List.setIfInBounds_toArray,List.set_cons_zero]at aH;rw[←e8];exact aH
     ·have a9:(ab ms).length=ms.length:=by simp
      have a1:ab L=cB (ab ms) p I (ah.mk b t first last on y v):=by rw[aB.out,show p+1+(ms.length-(p+1))=ms.length by omega,List.drop_eq_nil_of_le (by omega),List.append_nil,List.take_of_length_le (by rw[qU (by omega)];omega)]
      have hh:=rg (l:=ab ms) (c:=ao.c ⟨3,day,I,⟨(ah.mk b t first last on y v),J,M⟩⟩) rfl HH.out (by simp only[ao.c,HI.out];exact aU.out) (by simp only[ao.c,HI.out];intro q V hs;obtain⟨d,hd⟩:=List.mem_iff_getElem?.1 V;rw[List.getElem?_drop]at hd;exact ap.out (p+1+d) q (by omega) (by have:=(lG hd);omega) hd hs)
      rw[hh,a1];simp only[ao.c,HI.out]
  ·have bd:(r5 != 0)=true:=by simpa using hr50
   go_wp2_with fail;go_ret
   exact mg hr50 (mP rfl (fun h=>hr50 (HR.out.2 (by have:=h.2.1;simp only[ao.c,HI.out]at this;exact this)))) (bT HB1.out G.out)
end
section
variable{day last r:Int}{cs:List ao}{l ms now:List aj}{c cap gn gs k n:Nat}{A X:Option Addr}{w:World}
structure aB(gs gn:Nat)(w W:World):Prop where
 os:W.os=w.os
 tape:W.tape=w.tape
 output:W.output=w.output
 size:w.heap.size≤W.heap.size
 block:∀k,k<w.heap.size→k≠gs→k≠gn→W.heap[k]?=w.heap[k]?
section
variable {gs gn:Nat} {w W X:World}
theorem aB.trans(h:aB gs gn w W)(d:aB gs gn W X):aB gs gn w X :=
 ⟨d.os.trans h.os,d.tape.trans h.tape,d.output.trans h.output,lT h.size d.size,fun k f a b=>(d.block k (lz f h.size) a b).trans (h.block k f a b)⟩
theorem aB.of_below(h:BW w W):aB gs gn w W:=⟨h.os,h.tape,h.output,h.size,fun k a _ _=>h.block k a⟩
theorem aB.of_only(h:ai w W gs):aB gs gn w W:=⟨h.os,h.tape,h.output,h.size,fun k b a _=>h.block k b a⟩
theorem aB.of_only2(h:ai w W gn):aB gs gn w W:=⟨h.os,h.tape,h.output,h.size,fun k a _ b=>h.block k a b⟩
theorem aB.below{a:World}(h:aB gs gn w W)(b:BW a w)(f:a.heap.size≤gs)(g:a.heap.size≤gn):BW a W :=
 ⟨h.os.trans b.os,h.tape.trans b.tape,h.output.trans b.output,lT b.size h.size,fun k d=>(h.block k (lz d b.size) (by omega) (by omega)).trans (b.block k d)⟩
theorem aB.blk{g:Nat}{t:TypeId}{cs:Array Value}(h:aB gs gn w W)(a:aa w g t cs)(b:g≠gs)(d:g≠gn):aa W g t cs:=a.same (h.block g a.lt b d)
end
def ge(gs gn:Nat)(w:World)(A:Option Addr)(cap:Nat)(ms:List aj):Prop:=∀W,aB gs gn w W→az W W.heap.size A cap ms
theorem ge.on{W:World}(h:ge gs gn w A cap ms)(a:aB gs gn w W):ge gs gn W A cap ms:=fun X hx=>h X (a.trans hx)
theorem ge.keeps(h:ge gs gn w A cap ms):dT w gs A cap ms:=fun X hx=>h X (aB.of_only hx)
theorem ge.sl(h:ge gs gn w A cap ms):az w w.heap.size A cap ms:=h w (aB.of_below (bR w))
theorem uv{b o:Nat}{t:TypeId}{s:ByteArray}(a:aa w gn t #[.slice X n c])(hc:w.cell? ⟨b,o,none⟩=some (.string s)):b≠gn:=by
 intro e;subst e;rw[a.cell o]at hc;rcases Nat.eq_zero_or_pos o with rfl | h0
 ·injection hc with hc;cases hc
 ·rw[Array.getElem?_eq_none (by show 1≤o;omega)]at hc;cases hc
theorem ge.of_keeps{t:TypeId}(h:dT w gs A cap ms)(B:aa w gn t #[.slice X n c])(D:gn≠gs):ge gs gn w A cap ms:=by
 intro W y;obtain⟨Y,hY⟩:=ex ({ W with heap:=W.heap.setIfInBounds gn (.cells #[.slice X n c] t (0,0)) }:World)
 have C:gn<W.heap.size:=lz B.lt y.size;have hg:∀k,k≠gn→Y.heap[k]?=W.heap[k]?:=by intro k hk;rw[←hY];exact Array.getElem?_setIfInBounds_ne (fun e=>hk e.symm)
 have g:aa Y gn t #[.slice X n c]:=by unfold aa;rw[←hY];exact Array.getElem?_setIfInBounds_self_of_lt C
 have f:Y.heap.size=W.heap.size:=by rw[←hY];exact Array.size_setIfInBounds
 have E:ai w Y gs:=⟨by rw[←hY];exact y.os,by rw[←hY];exact y.tape,by rw[←hY];exact y.output,by rw[f];exact y.size,fun k hk a=>by
  by_cases e:k=gn
  ·subst e;rw[show Y.heap[k]?=_ from g,show w.heap[k]?=_ from B]
  ·rw[hg k e];exact y.block k hk a e⟩
 have z:=h Y E;have hcell:∀(b o:Nat) v,b≠gn→cA Y b o v→cA W b o v:=fun b o v hn hc=>(World.cell?_of_block (w:=Y) (a:=⟨b,o,none⟩) (hg b hn).symm).trans hc
 refine⟨⟨fun i x hx=>?_,fun m hm=>?_⟩,z.le,z.max,z.nil0,fun a ha=>f▸z.off a ha⟩
 ·obtain⟨b,s,e,q,hc⟩:=z.rd.rd i x hx;have hn:b≠gn:=uv g (hc 0 (.string x.p.name) rfl);exact⟨b,s,e,f▸q,fun j u hu=>hcell _ _ _ hn (hc j u hu)⟩
 ·have d:=z.rd.ok m hm;refine⟨fun i x hx=>?_,d.le,d.cm,d.nm,d.ons,d.sz⟩
  obtain⟨b,s,e,q,hc⟩:=d.on i x hx;exact⟨b,s,e,f▸q,hcell _ _ _ (uv g hc) hc⟩
def rD(ms:List aj)(cs:List ao)(day:Int)(w:World)(e:Ending)(w':World):Prop:=∃(p i r:Int) (A:Option Addr) (n c:Nat),e=.returned (.tuple #[.agg #[.slice A n c],iv p,iv i,iv r])∧BW w w'∧(r=0↔bS (ab ms) (an cs))∧(r=0→∃out:List aj,n=out.length∧ab out=aA day (ab ms) (an cs)∧az w' w'.heap.size A c out)
def hU(day:Int)(ms:List aj)(cs:List ao)(k:Nat)(l:List aj)(last:Int)(now:List aj):Prop:=aE (ab l)∧dd day (ab ms) ((an cs).take k)=some (ab l,last,ab now)
theorem hU.start(h:aE (ab ms)):hU day ms cs 0 ms 0 ms:=⟨h,rfl⟩
theorem hU.next{b:List aj}{c:ao}(h:hU day ms cs k l last now)(hc:cs[k]?=some c)(a:inB last 40000 c.day=true)(d:bL (ab l) c.c=some (ab b)):hU day ms cs (k+1) b c.day (if c.day≤day then b else now):=by
 obtain⟨f,g⟩:=h;refine⟨qG f d, ?_⟩;rw[nP (po hc),g];unfold fa;simp only;rw[if_pos (show inB last 40000 c.c.day=true from a),d]
 by_cases a:c.day≤day
 ·simp[ao.c,a]
 ·simp[ao.c,a]
theorem hU.stop{c:ao}(h:hU day ms cs k l last now)(hc:cs[k]?=some c)(a:inB last 40000 c.day=false∨bL (ab l) c.c=none):¬bS (ab ms) (an cs):=by
 intro b;obtain⟨h1,h2⟩:=h;have h3:dd day (ab ms) ((an cs).take (k+1))=none:=by
  rw[nP (po hc),h2];unfold fa;simp only;rcases a with a | a
  ·rw[if_neg (show ¬inB last 40000 c.c.day=true by show ¬inB last 40000 c.day=true;rw[a];simp)]
  ·rw[a];split<;>rfl
 have:=b.run;rw[oX 0 day,qH h3]at this;cases this
theorem hU.done(h:hU day ms cs cs.length l last now)(d:aE (ab ms))(b:cs.length≤8):bS (ab ms) (an cs)∧ab now=aA day (ab ms) (an cs):=by
 obtain⟨_,a⟩:=h;rw[List.take_of_length_le (by simp)]at a
 refine⟨⟨d,by simpa using b,by rw[oX 0 day,a];rfl⟩, ?_⟩
 unfold aA;rw[a]
theorem C8(b:ms.length≤12)(h:∀j m,j<ms.length→ms[j]?=some m→cQ m.p ((ab ms).take j) ((ab ms).take j)):aE (ab ms):=⟨by simpa using b,fun i p a=>by
 rw[List.getElem?_map]at a;cases hm:ms[i]? with
 | none=>rw[hm]at a;cases a
 | some m =>
  rw[hm]at a;injection a with a
  subst a;exact h i m (lG hm) hm⟩
def Cd(ms:List aj)(cs:List ao)(r:Int):Prop:=∀c,cs=[c]→aE (ab ms)→c.what=2→c.day=0→jl c.part.p=true→hasP (ab ms) c.name=true→r=9
theorem pr{x c:ao}(hc:cs[k]?=some x)(e:cs=[c]):k=0∧x=c:=by
 subst e
 match k,hc with
 | 0,hc=>injection hc with hc;exact⟨rfl,hc.symm⟩
theorem uw{x:ao}(hc:cs[k]?=some x)(h:x.what≠2):Cd ms cs r:=fun _ e _ a _ _ _=>absurd ((pr hc e).2▸a) h
theorem C9{x:ao}(hc:cs[k]?=some x)(h:fD x.c=false)(a:x.what=2):Cd ms cs r:=fun c e _ _ _ b _=>by
 obtain⟨_,rfl⟩:=pr hc e;have:fD x.c=jl x.part.p:=by unfold fD;simp[ao.c,a]
 rw[this,b]at h;cases h
theorem ux(h:hU day ms cs 0 l last now):last=0∧ab l=ab ms:=by
 have a:=h.2;simp only[List.take_zero]at a;injection a with a
 injection a with h3 h4
 injection h4 with h4 h5
 exact⟨h4.symm,h3.symm⟩
theorem pu{x:ao}(h:hU day ms cs k l last now)(hc:cs[k]?=some x)(a:inB last 40000 x.day=false):Cd ms cs r:=fun c e _ _ b _ _=>by obtain⟨rfl,rfl⟩:=pr hc e;rw[(ux h).1,b]at a;cases a
theorem rE{x:ao}(h:hU day ms cs k l last now)(hc:cs[k]?=some x)(b:x.what=2→hasP (ab l) x.name=true→r=9):Cd ms cs r:=fun c e _ a _ _ d=>by obtain⟨rfl,rfl⟩:=pr hc e;exact b a (by rw[(ux h).2];exact d)
end
section
variable{b:Nat}{w:World}
theorem mi(wr:World)(h:ByteArray)(f d g i j:Int)(a:Option Addr)(c n:Nat):∃Wa W2,wr.alloc (.cells #[.string ⟨#[]⟩,iv 0,iv 0,iv 0,.slice none 0 0,iv 0,iv 0] 50)=Wa∧(((((((Wa.setCell ⟨wr.heap.size,0,none⟩ (.string h)).setCell ⟨wr.heap.size,1,none⟩ (iv f)).setCell ⟨wr.heap.size,2,none⟩ (iv d)).setCell ⟨wr.heap.size,3,none⟩ (iv g)).setCell ⟨wr.heap.size,4,none⟩ (.slice a n c)).setCell ⟨wr.heap.size,5,none⟩ (iv i)).setCell ⟨wr.heap.size,6,none⟩ (iv j))=W2∧BW wr W2∧aa Wa wr.heap.size 50 #[.string ⟨#[]⟩,iv 0,iv 0,iv 0,.slice none 0 0,iv 0,iv 0]∧BW wr Wa∧aa W2 wr.heap.size 50 #[.string h,iv f,iv d,iv g,.slice a n c,iv i,iv j]:=by
 refine⟨_,_,rfl,rfl, ?_,aa.new wr 50 _,bA (bR _) _, ?_⟩
 ·exact((((((((ai.of_below (bR _) wr.heap.size).set 0 _).set 1 _).set 2 _).set 3 _).set 4 _).set 5 _).set 6 _).below (bA (bR _) _) (lr _)
 ·exact nW _ _ _ _ _ _ _ (aa.new wr 50 _)
theorem px{g:Nat}{t:TypeId}{o p q r s u v x y z:Value}(a c d f i j k l m n:Value)(h:aa w g t #[o,p,q,r,s,u,v,x,y,z]):aa ((((((((((w.setCell ⟨g,0,none⟩ (a)).setCell ⟨g,1,none⟩ (c)).setCell ⟨g,2,none⟩ (d)).setCell ⟨g,3,none⟩ (f)).setCell ⟨g,4,none⟩ (i)).setCell ⟨g,5,none⟩ (j)).setCell ⟨g,6,none⟩ (k)).setCell ⟨g,7,none⟩ (l)).setCell ⟨g,8,none⟩ (m)).setCell ⟨g,9,none⟩ (n)) g t #[a,c,d,f,i,j,k,l,m,n]:=by
 have h:=(((((((((h.set_ 0 a).set_ 1 c).set_ 2 d).set_ 3 f).set_ 4 i).set_ 5 j).set_ 6 k).set_ 7 l).set_ 8 m).set_ 9 n
 simpa using h
theorem uy(wr:World)(t:TypeId)(wh dy:Int)(a i:ByteArray)(g f h j k:Int)(c:Option Addr)(d n:Nat):∃Wa W2,wr.alloc (.cells #[iv 0,iv 0,.string ⟨#[]⟩,.string ⟨#[]⟩,iv 0,iv 0,iv 0,.slice none 0 0,iv 0,iv 0] t)=Wa∧((((((((((Wa.setCell ⟨wr.heap.size,0,none⟩ (iv wh)).setCell ⟨wr.heap.size,1,none⟩ (iv dy)).setCell ⟨wr.heap.size,2,none⟩ (.string a)).setCell ⟨wr.heap.size,3,none⟩ (.string i)).setCell ⟨wr.heap.size,4,none⟩ (iv g)).setCell ⟨wr.heap.size,5,none⟩ (iv f)).setCell ⟨wr.heap.size,6,none⟩ (iv h)).setCell ⟨wr.heap.size,7,none⟩ (.slice c n d)).setCell ⟨wr.heap.size,8,none⟩ (iv j)).setCell ⟨wr.heap.size,9,none⟩ (iv k))=W2∧BW wr W2∧aa Wa wr.heap.size t #[iv 0,iv 0,.string ⟨#[]⟩,.string ⟨#[]⟩,iv 0,iv 0,iv 0,.slice none 0 0,iv 0,iv 0]∧BW wr Wa∧aa W2 wr.heap.size t #[iv wh,iv dy,.string a,.string i,iv g,iv f,iv h,.slice c n d,iv j,iv k]:=by
 refine⟨_,_,rfl,rfl, ?_,aa.new wr t _,bA (bR _) _, ?_⟩
 ·exact(((((((((((ai.of_below (bR _) wr.heap.size).set 0 _).set 1 _).set 2 _).set 3 _).set 4 _).set 5 _).set 6 _).set 7 _).set 8 _).set 9 _).below (bA (bR _) _) (lr _)
 ·exact px _ _ _ _ _ _ _ _ _ _ (aa.new wr t _)
theorem iq(wr:World)(t:TypeId)(a c d f:Value):∃Wa W2,wr.alloc (.cells #[a,c] t)=Wa∧((Wa.setCell ⟨wr.heap.size,0,none⟩ d).setCell ⟨wr.heap.size,1,none⟩ f)=W2∧BW wr W2∧aa Wa wr.heap.size t #[a,c]∧BW wr Wa∧aa W2 wr.heap.size t #[d,f]:=by
 refine⟨_,_,rfl,rfl, ?_,aa.new wr t _,bA (bR _) _, ?_⟩
 ·exact(((ai.of_below (bR _) wr.heap.size).set 0 _).set 1 _).below (bA (bR _) _) (lr _)
 ·have h:=((aa.new wr t #[a,c]).set_ 0 d).set_ 1 f
  simpa using h
theorem jL.same{W:World}(h:jL w b)(g:W.heap[b]?=w.heap[b]?):jL W b:=by obtain⟨c,a,d,f⟩:=h;exact⟨c,a,g.trans d,f⟩
theorem jL.lt(h:jL w b):b<w.heap.size:=World.ownsMap.lt h
def py(A0:Option Addr)(cap0:Nat)(ms:List aj)(cs:List ao)(day:Int)(w:World)(e:Ending)(w':World):Prop:=∃(p i r:Int) (A:Option Addr) (n c:Nat),e=.returned (.tuple #[.agg #[.slice A n c],iv p,iv i,iv r])∧BW w w'∧(r=0↔bS (ab ms) (an cs))∧(r=0→∃out:List aj,n=out.length∧ab out=aA day (ab ms) (an cs)∧az w' w'.heap.size A c out)∧(r=0→cs.length=0→A=A0∧n=ms.length∧c=cap0)∧(r≠0→Cd ms cs r)
theorem ir{f:Option Addr}{a:Nat}{ms:List aj}{cs:List ao}{day:Int}{w':World}{p i r:Int}{A:Option Addr}{n c:Nat}(d:r≠0)(j:¬bS (ab ms) (an cs))(g:Cd ms cs r)(k:BW w w'):py f a ms cs day w (.returned (.tuple #[.agg #[.slice A n c],iv p,iv i,iv r])) w':=⟨p,i,r,A,n,c,rfl,k,⟨fun h=>absurd h d,fun h=>absurd h j⟩,fun h=>absurd h d,fun h=>absurd h d,fun _=>g⟩
theorem Da{l:List ah}{c:bQ}(a:c.what≠1)(d:c.what≠2)(f:c.what≠3):bL l c=none:=by unfold bL;rw[if_neg a,if_neg d,if_neg f]
theorem uz{l:List ah}{c:bQ}(h:fD c=false):bL l c=none:=by
 cases hc:bL l c with
 | none=>rfl
 | some x=>rw[ro hc]at h;cases h
theorem rF(A C:Option Addr)(ms:List aj)(cs:List ao)(B cap ad:Nat)(day:Int)(w:World)(hB:B≤w.heap.size)(H:az w B A cap ms)(HC:de w B C ad cs)(HW:∀c∈cs,Lit.wf (.int .i64 c.what)=true) :
  Cs 29 #[.agg #[.slice A ms.length cap,.slice C cs.length ad],iv day] w (py A cap ms cs day w):=by
 obtain⟨W1,ay,b1⟩:=nA w (.cells #[.slice A ms.length cap,.slice C cs.length ad] 27);obtain⟨W2,hW2,b2⟩:=nA W1 (.cells #[.slice none 0 0] 62);obtain⟨W3,hW3,b3⟩:=nA W2 (.cells #[.slice none 0 0] 62);obtain⟨gp,hgp⟩:=ex w.heap.size;obtain⟨gn,hgn⟩:=ex W1.heap.size;obtain⟨gs,hgs⟩:=ex W2.heap.size;obtain⟨W4,hW4⟩:=ex (W3.setCell ⟨gs,0,none⟩ (.slice A ms.length cap));have z1:W1.heap.size=w.heap.size+1:=by rw[←ay];simp
 have z2:W2.heap.size=W1.heap.size+1:=by rw[←hW2];simp
 have q1:aa W1 gp 27 #[.slice A ms.length cap,.slice C cs.length ad]:=by rw[←ay,←hgp];exact aa.new w 27 _
 have q2:aa W2 gn 62 #[.slice none 0 0]:=by rw[←hW2,←hgn];exact aa.new W1 62 _
 have q3:aa W3 gs 62 #[.slice none 0 0]:=by rw[←hW3,←hgs];exact aa.new W2 62 _
 have aC:=q1.keep b2;have q3p:=aC.keep b3;have q3n:=q2.keep b3;have o4:ai W3 W4 gs:=by rw[←hW4];exact ai.of_set (bR W3) gs 0 _
 have q4:aa W4 gs 62 #[.slice A ms.length cap]:=by
  rw[←hW4];have h:=q3.set_ 0 (.slice A ms.length cap)
  simpa using h
 have av:=q3p.same (o4.block gp q3p.lt (by omega))
 have ar:=q3n.same (o4.block gn q3n.lt (by omega))
 have b4:BW w W4:=o4.below (bT (bT b1 b2) b3) (by omega)
 have s:Hid (w.heap.size≤gp∧gp<gn∧gn<gs):=Lq (by omega)
 have E:Hid (w.heap.size≤gn):=Lq (by omega)
 have aq:B≤W4.heap.size:=lT hB b4.size;have HH:=Lq (H.below b4 hB);have HH0:=Lq H;have HCC:=Lq HC;have HB4:=Lq b4;have HQS:=Lq q4;have HQP:=Lq av;have HQN:=Lq ar;have HWF:=Lq HW;have hle:=H.le;have hmax:=H.max;have hm9:ms.length≤9223372036854775807:=by have:=H.le;have:=H.max;simp only[maxLen]at this;omega
 have aP:cs.length≤9223372036854775807:=by have:=HC.le;have:=HC.max;simp only[maxLen]at this;omega
 have a0:=aC.c 0;have a1:=q3.c 0;have a2:=q3.frozen 0;have a3:=q3.lt;have x0:=av.c 0;have x1:=av.c 1;have s0:=q4.c 0;have n0:=ar.c 0;have nf:=ar.frozen 0;have nl:=ar.lt;clear H HC HW b1 b2 b3 q1 q2 q3 aC q3p q3n o4 q4 av ar b4 z1 z2;go_enter Tryz.func29,Tryz.ntmps29
 by_cases h12:12<ms.length
 ·have aN:(ms.length:Int)>12:=by omega
  obtain⟨D,a⟩:=ex (W4.setCell ⟨gn,0,none⟩ (.slice none 0 0));have x:D.cell? ⟨gn,0,none⟩=some (.slice none 0 0):=by rw[←a];exact((HQN.out).set_ 0 _).cell 0
  have n:Hid (BW w D):=by rw[←a];exact Lq ((ai.of_set (bR W4) gn 0 _).below (HB4.out) E.out)
  have n0:=(HQN.out).c 0;have nf:=(HQN.out).frozen 0;have nl:=(HQN.out).lt;go_wp2_with fail;exact bodyPost_ret (v:=.tuple #[.agg #[.slice none 0 0],iv 1,iv 0,iv 3]) (by simp[results,Tryz.results29,go_sem,x]) rfl (ir (by decide) (fun h=>by have:=h.ship.len;simp at this;omega) (fun _ _ h _ _ _ _=>by have:=h.len;simp at this;omega) n.out)
 ·go_wp2_with fail;clear ay hW2 hW3 hW4 a0 a1 a2 a3 hgp hgn hgs;go_loopw [30] (fun i wr=>∃k:Nat,k≤ms.length∧i=iv k∧Hid (∀j m,j<k→ms[j]?=some m→cQ m.p ((ab ms).take j) ((ab ms).take j))∧Hid (BW W4 wr)) (fun i _=>ms.length-(intOf i).toNat)
  case atStart=>exact⟨0,by omega,rfl,Lq (fun j m h=>by omega),Lq (bR _)⟩
  case round =>
   clear x0 x1 s0 n0 nf nl;obtain⟨k,hk,rfl,HP,d⟩:=hrel;have hk0:=nn k;by_cases hlt:k<ms.length
   ·obtain⟨y,hy⟩:=gX (l:=ms) (i:=k) hlt;obtain⟨b,off,hA,hbB,hMy,c0,c1,c2,c3,c4,c5,c6⟩:=(HH.out.rd.below d.out aq).at hy;have HYI:=Lq hy;have HCK:Hid (∀W,BW wr W→Cs 83 #[pT gs 0,mV y,iv k,.slice none 0 0] W (iP (cQ y.p ((ab ms).take k) ((ab ms).take k)) W)):=Lq fun W J=>by
     have au:=bT d.out J;have h:=rr A none ms [] y W.heap.size cap 0 gs k W (lr _) ((HH.out.rd.below au aq).more (lT aq au.size)) cF.nil ((hMy.below J (lT aq d.out.size)).more (lT aq au.size)) hle hmax (Nat.zero_le _) hk ((HQS.out.keep au).c 0);rw[show ab []=[]from rfl,List.append_nil]at h
     exact h
    obtain⟨⟨T,R,O,S,q,U,V⟩,X,Y⟩:=y;subst hA;simp only at c0 c1 c2 c3 c4 c5 c6 HCK;obtain⟨Wa,W5,hWa,hW5,hb5,hqa,hba,hq5⟩:=mi wr T R O S U V X Y q.length;obtain⟨g2,hg2⟩:=ex wr.heap.size;rw[hg2]at hW5 hqa hq5;have HB5:=Lq hb5;have HQ5:=Lq hq5;obtain⟨f0,f1,f2,f3,f4,f5,f6⟩:=hqa.f7;obtain⟨e0,e1,e2,e3,e4,e5,e6⟩:=hqa.c7;have el:=hqa.lt;obtain⟨x,d1,d2,d3,d4,d5,d6⟩:=hq5.c7;clear hMy hy hb5 hqa hba hq5;go_wp2_with fail;refine(HCK.out _ HB5.out).mono ?_;rintro e w6 ⟨r,rfl,hr,hb6⟩;have HB6:=Lq (bT d.out (bT HB5.out hb6));have HR:=Lq hr;clear hb6 hr c0 c1 c2 c3 c4 c5 c6 x d1 d2 d3 d4 d5 d6 e0 e1 e2 e3 e4 e5 e6 f0 f1 f2 f3 f4 f5 f6 el hWa hW5 hg2;by_cases hr0:r=0
    ·subst hr0;have aL:=Lq (HR.out.1 rfl);clear HR;go_wp2_with fail;go_roundw
     case rel =>
      refine⟨k+1,by omega,by go_num,Lq (fun j m hj hm=>?_),HB6⟩
      rcases Nat.lt_or_ge j k with hjk | hjk
      ·exact HP.out j m hjk hm
      ·obtain rfl:j=k:=by omega
       rw[HYI.out]at hm;injection hm with hm
       subst hm;exact aL.out
     case measure=>simp[intOf];omega
    ·have aA:(r != 0)=true:=by simpa using hr0
     obtain⟨D,a⟩:=ex (w6.setCell ⟨gn,0,none⟩ (.slice none 0 0));have x:D.cell? ⟨gn,0,none⟩=some (.slice none 0 0):=by rw[←a];exact((HQN.out.keep HB6.out).set_ 0 _).cell 0
     have n:Hid (BW w D):=by rw[←a];exact Lq ((ai.of_set (bR w6) gn 0 _).below (bT HB4.out HB6.out) E.out)
     have n0:=(HQN.out.keep HB6.out).c 0;have nf:=(HQN.out.keep HB6.out).frozen 0;have nl:=(HQN.out.keep HB6.out).lt;go_wp2_with fail;exact bodyPost_ret (v:=.tuple #[.agg #[.slice none 0 0],iv 1,iv k,iv r]) (by simp[results,Tryz.results29,go_sem,x]) rfl (ir hr0 (fun h=>hr0 (HR.out.2 (h.ship.part k _ (bN HYI.out)))) (fun _ _ h _ _ _ _=>absurd (HR.out.2 (h.part k _ (bN HYI.out))) hr0) n.out)
   ·have aE:=Lq (C8 (Nat.le_of_not_lt h12) (fun j m hj hm=>HP.out j m (by omega) hm))
    clear HP;have x0:=(HQP.out.keep d.out).c 0;have x1:=(HQP.out.keep d.out).c 1;by_cases h8:8<cs.length
    ·have aO:(cs.length:Int)>8:=by omega
     obtain⟨D,a⟩:=ex (wr.setCell ⟨gn,0,none⟩ (.slice none 0 0));have x:D.cell? ⟨gn,0,none⟩=some (.slice none 0 0):=by rw[←a];exact((HQN.out.keep d.out).set_ 0 _).cell 0
     have n:Hid (BW w D):=by rw[←a];exact Lq ((ai.of_set (bR wr) gn 0 _).below (bT HB4.out d.out) E.out)
     have n0:=(HQN.out.keep d.out).c 0;have nf:=(HQN.out.keep d.out).frozen 0;have nl:=(HQN.out.keep d.out).lt;go_wp2_with fail;exact bodyPost_ret (v:=.tuple #[.agg #[.slice none 0 0],iv 2,iv 0,iv 3]) (by simp[results,Tryz.results29,go_sem,x]) rfl (ir (by decide) (fun h=>by have:=h.len;simp at this;omega) (fun _ h _ _ _ _ _=>by have:=congrArg List.length h;simp at this;omega) n.out)
    ·go_wp2_with fail;refine(CM wr).mono ?_;rintro e w7 ⟨bv,rfl,hV,aG,aH⟩;have HB7:=Lq (bT d.out aG);have HV:=Lq hV;have HBV:Hid (gs<bv):=Lq (lz (lz HQS.out.lt d.out.size) aH);have s7:=(HQS.out.keep HB7.out).c 0;have n7:=(HQN.out.keep HB7.out).c 0;have nf7:=(HQN.out.keep HB7.out).frozen 0;have nl7:=(HQN.out.keep HB7.out).lt;obtain⟨W8,hW8⟩:=ex (w7.setCell ⟨gn,0,none⟩ (.slice A ms.length cap));have o8:ai w7 W8 gn:=by rw[←hW8];exact ai.of_set (bR w7) gn 0 _
     have aJ:aa W8 gn 62 #[.slice A ms.length cap]:=by
      rw[←hW8];have h:=(HQN.out.keep HB7.out).set_ 0 (.slice A ms.length cap)
      simpa using h
     have aK:aa W8 gs 62 #[.slice A ms.length cap]:=(HQS.out.keep HB7.out).same (o8.block gs (HQS.out.keep HB7.out).lt (by have:=s.out;omega))
     have aD:aa W8 gp 27 #[.slice A ms.length cap,.slice C cs.length ad]:=(HQP.out.keep HB7.out).same (o8.block gp (HQP.out.keep HB7.out).lt (by have:=s.out;omega))
     have aF:Hid (jL W8 bv):=Lq (HV.out.same (o8.block bv HV.out.lt (by have:=s.out;have:=HBV.out;omega)))
     have aw:Hid (BW w W8):=Lq (o8.below (bT HB4.out HB7.out) E.out);have HO8:Hid (ge gs gn W8 A cap ms):=Lq (fun W hW=>by
      have ax:BW w W:=hW.below aw.out (by have:=s.out;omega) E.out
      exact(HH0.out.below ax hB).more (lT hB ax.size))
     have y1:=aD.c 1;have HQ8:Hid (aa W8 gs 62 #[.slice A ms.length cap]∧aa W8 gn 62 #[.slice A ms.length cap]∧aa W8 gp 27 #[.slice A ms.length cap,.slice C cs.length ad]):=Lq ⟨aK,aJ,aD⟩;clear hV aG aH o8 aJ aK aD x0 x1;go_wp2_with fail;clear y1 s7 n7 nf7 nl7 hW8;go_loopw [11,54] (fun la i wr=>∃(k:Nat) (l:List aj) (Al:Option Addr) (cl:Nat) (last:Int) (now:List aj) (z:Option Addr) (cn:Nat),k≤cs.length∧i=iv k∧la=iv last∧Hid (aa wr gs 62 #[.slice Al l.length cl])∧Hid (aa wr gn 62 #[.slice z now.length cn])∧Hid (ge gs gn wr Al cl l)∧Hid (ge gs gn wr z cn now)∧Hid (hU day ms cs k l last now)∧Hid (aB gs gn W8 wr)∧Hid (k=0→z=A∧now.length=ms.length∧cn=cap)) (fun _ i _=>cs.length-(intOf i).toNat)
     case atStart=>exact⟨0,ms,A,cap,0,ms,A,cap,Nat.zero_le _,rfl,rfl,Lq HQ8.out.1,Lq HQ8.out.2.1,HO8,HO8,Lq (hU.start aE.out),Lq (aB.of_below (bR _)),Lq (fun _=>⟨rfl,rfl,rfl⟩)⟩
     case round =>
      clear d HB7 HV;obtain⟨k,l,Al,cl,last,now,z,cn,hk,rfl,rfl,HS,I,HL,HO,u,ae,aM⟩:=hrel;have hk0:=nn k;have d:Hid (BW w wr):=Lq (ae.out.below aw.out (by have:=s.out;omega) E.out)
      by_cases hlt:k<cs.length
      ·obtain⟨c,hc⟩:=gX (l:=cs) (i:=k) hlt;obtain⟨b,off,hA,hbB,hMc,hcn,c0,c1,c2,c3,c4,c5,c6,c7,c8,c9⟩:=(HCC.out.below d.out hB).at hc;have HCI:=Lq hc;have HWC:=Lq (HWF.out c (mG ⟨k,hc⟩));have HMC:=Lq hMc;have HVR:Hid (jL wr bv):=Lq (aF.out.same (ae.out.block bv aF.out.lt (by have:=HBV.out;omega) (by have:=s.out;have:=HBV.out;omega)))
       clear hc hMc hcn;obtain⟨wh,dy,Z,⟨⟨T,R,O,S,q,U,V⟩,X,Y⟩⟩:=c;subst hA;simp only at c0 c1 c2 c3 c4 c5 c6 c7 c8 c9 HWC HMC;obtain⟨Wa,W10,hWa,hW10,hb10,hqa,hba,hq10⟩:=uy wr 68 wh dy Z T R O S U V X Y q.length;obtain⟨g14,hg14⟩:=ex wr.heap.size;rw[hg14]at hW10 hqa hq10;have HG14:Hid (gs<g14):=by rw[←hg14];exact Lq HS.out.lt
       have an:=Lq hb10;have HC14:Hid (∀W,aB gs gn W10 W→cA W g14 0 (iv wh)∧cA W g14 1 (iv dy)∧cA W g14 2 (.string Z)∧cA W g14 3 (.string T)∧cA W g14 4 (iv R)∧cA W g14 5 (iv O)∧cA W g14 6 (iv S)∧cA W g14 7 (.slice X q.length Y)∧cA W g14 8 (iv U)∧cA W g14 9 (iv V)):=Lq fun W J=>have k:=J.blk hq10 (by have:=HG14.out;omega) (by have:=HG14.out;have:=s.out;omega);⟨k.c 0,k.c 1,k.c 2,k.c 3,k.c 4,k.c 5,k.c 6,k.c 7,k.c 8,k.c 9⟩
       obtain⟨f0,f1,f2,f3,f4,f5,f6,f7,f8,f9⟩:=hqa.f10;obtain⟨e0,e1,e2,e3,e4,e5,e6,e7,e8,e9⟩:=hqa.c10;have el:=hqa.lt;obtain⟨x,d1,d2,d3,d4,d5,d6,d7,d8,d9⟩:=HC14.out _ (aB.of_below (bR _));have HVX:=Lq (HVR.out.same (hb10.block bv HVR.out.lt));obtain⟨bI,hbI⟩:=ex (inB last 40000 dy);have HI:Hid (∀g W,W.cell? ⟨g,0,none⟩=some (iv dy)→Cs 13 #[iv last,iv 40000,.slice (some ⟨g,0,none⟩) 1 1] W (Rt W (.bool (!bI)))):=Lq fun g W hc=>hbI▸kR last 40000 dy g W hc (br hc)
       have KI:=Lq hbI;have dl:=hq10.lt;clear hb10 hqa hba hq10 hbI;by_cases w1:wh=1
       ·subst w1;have am:(Instr.lookup 156 (.map (some bv)) (iv 1) true).run Tryz.prog W10=.ok (.tuple #[.agg #[(.func (.func 147) #[] #[]),(.func (.func 148) #[] #[])],.bool true]) W10:=rB HVX.out HWC.out CN;obtain⟨Wb,W11,hWb,hW11,hb11,hqb,hbb,hq11⟩:=iq W10 160 .nilFunc .nilFunc (.func (.func 147) #[] #[]) (.func (.func 148) #[] #[]);obtain⟨g15,hg15⟩:=ex W10.heap.size;rw[hg15]at hW11 hqb hq11;have HG15:Hid (g14<g15):=by rw[←hg15];exact Lq dl
        have t:=Lq hb11;have HC15:Hid (∀W,aB gs gn W11 W→cA W g15 0 (.func (.func 147) #[] #[])∧cA W g15 1 (.func (.func 148) #[] #[])):=Lq fun W J=>have k:=J.blk hq11 (by have:=HG14.out;have:=HG15.out;omega) (by have:=HG14.out;have:=HG15.out;have:=s.out;omega);⟨k.c 0,k.c 1⟩
        have al:=hqb.frozen 0;have bf1:=hqb.frozen 1;have be0:=hqb.c 0;have be1:=hqb.c 1;have bl:=hqb.lt;obtain⟨F,G⟩:=HC15.out _ (aB.of_below (bR _));obtain⟨d0',d1',d2',d3',d4',d5',d6',d7',d8',d9'⟩:=HC14.out _ (aB.of_below hb11);clear hb11 hqb hbb hq11;go_wp2_with fail;refine(HI.out _ _ (by go_simp)).mono ?_
        rintro e M ⟨rfl,J⟩;have HB12:=Lq (bT (bA (bR W11) _) J);clear J am c0 c1 c2 c3 c4 c5 c6 c7 c8 c9 x d1 d2 d3 d4 d5 d6 d7 d8 d9 e0 e1 e2 e3 e4 e5 e6 e7 e8 e9 f0 f1 f2 f3 f4 f5 f6 f7 f8 f9 el al bf1 be0 be1 bl F G d0' d1' d2' d3' d4' d5' d6' d7' d8' d9' hWa hW10 hg14 hg15 hWb hW11 dl;have HBX:=Lq (bT an.out (bT t.out HB12.out));cases bI with
        | false =>
         obtain⟨D,a⟩:=ex (M.setCell ⟨gn,0,none⟩ (.slice z now.length cn));have x:D.cell? ⟨gn,0,none⟩=some (.slice z now.length cn):=by rw[←a];exact((I.out.keep HBX.out).set_ 0 _).cell 0
         have n:Hid (BW w D):=by rw[←a];exact Lq ((ai.of_set (bR M) gn 0 _).below (bT d.out HBX.out) E.out)
         have n0:=(I.out.keep HBX.out).c 0;have nf:=(I.out.keep HBX.out).frozen 0;have nl:=(I.out.keep HBX.out).lt;go_wp2_with fail;exact bodyPost_ret (v:=.tuple #[.agg #[.slice z now.length cn],iv 2,iv k,iv 7]) (by simp[results,Tryz.results29,go_sem,x]) rfl (ir (by decide) (u.out.stop HCI.out (.inl KI.out)) (pu u.out HCI.out KI.out) n.out)
        | true =>
         obtain⟨F,G⟩:=HC15.out _ (aB.of_below HB12.out);obtain⟨x,d1,d2,d3,d4,d5,d6,d7,d8,d9⟩:=HC14.out _ (aB.of_below (bT t.out HB12.out));obtain⟨bE,hbE⟩:=ex (Z.toList.isEmpty);have HE:Hid (∀W,Cs 147 #[cV (ao.mk 1 dy Z ⟨⟨T,R,O,S,q,U,V⟩,X,Y⟩)] W (Rt W (.bool bE))):=Lq fun W=>hbE▸CJ (ao.mk 1 dy Z ⟨⟨T,R,O,S,q,U,V⟩,X,Y⟩) W
         have KE:=Lq hbE;clear hbE;go_wp2_with fail;refine(HE.out _).mono ?_;rintro e w13 ⟨rfl,J⟩;have HB13:=Lq (bT HB12.out J);have HBY:=Lq (bT HBX.out J);clear J F G x d1 d2 d3 d4 d5 d6 d7 d8 d9;cases bE with
         | false =>
          obtain⟨D,a⟩:=ex (w13.setCell ⟨gn,0,none⟩ (.slice z now.length cn));have x:D.cell? ⟨gn,0,none⟩=some (.slice z now.length cn):=by rw[←a];exact((I.out.keep HBY.out).set_ 0 _).cell 0
          have n:Hid (BW w D):=by rw[←a];exact Lq ((ai.of_set (bR w13) gn 0 _).below (bT d.out HBY.out) E.out)
          have n0:=(I.out.keep HBY.out).c 0;have nf:=(I.out.keep HBY.out).frozen 0;have nl:=(I.out.keep HBY.out).lt;go_wp2_with fail;exact bodyPost_ret (v:=.tuple #[.agg #[.slice z now.length cn],iv 2,iv k,iv 6]) (by simp[results,Tryz.results29,go_sem,x]) rfl (ir (by decide) (u.out.stop HCI.out (.inr (uz (by unfold fD;simp only[ao.c];rw[KE.out];simp)))) (uw HCI.out (show(1:Int)≠2 by decide)) n.out)
         | true =>
          obtain⟨F,G⟩:=HC15.out _ (aB.of_below HB13.out);obtain⟨x,d1,d2,d3,d4,d5,d6,d7,d8,d9⟩:=HC14.out _ (aB.of_below (bT t.out HB13.out));have HMU:Hid (Cs 148 #[pT gs 0,cV (ao.mk 1 dy Z ⟨⟨T,R,O,S,q,U,V⟩,X,Y⟩)] w13 (me l (ao.mk 1 dy Z ⟨⟨T,R,O,S,q,U,V⟩,X,Y⟩) gs w13)):=Lq (CG Al l (ao.mk 1 dy Z ⟨⟨T,R,O,S,q,U,V⟩,X,Y⟩) B cl gs w13 (by have:=s.out;omega) (HS.out.keep HBY.out) ((HL.out.on (aB.of_below HBY.out)).keeps) ((HMC.out.below HBY.out (lT hB d.out.size))) u.out.1 rfl KE.out)
          go_wp2_with fail;refine HMU.out.mono ?_;rintro e f ⟨r,rfl,ho,ah,N⟩;have HO14:=Lq ho;have HNO:=Lq ah;have HYES:=Lq N;have HT14:Hid (aB gs gn wr f):=Lq ((aB.of_below HBY.out).trans (aB.of_only ho));have HNN:Hid (aa f gn 62 #[.slice z now.length cn]):=Lq ((I.out.keep HBY.out).same (ho.block gn (I.out.keep HBY.out).lt (by have:=s.out;omega)))
          have ap:Hid (BW w f):=Lq (HT14.out.below d.out (by have:=s.out;omega) E.out)
          clear ho ah N F G x d1 d2 d3 d4 d5 d6 d7 d8 d9;by_cases hr0:r=0
          ·subst hr0;obtain⟨o,Ao,co,ak,af,ag⟩:=HYES.out rfl;have HQO:=Lq ak;have HCH:=Lq af;have HKP:=Lq (ge.of_keeps ag HNN.out (by have:=s.out;omega))
           clear ak af ag HYES HNO;obtain⟨x,d1,d2,d3,d4,d5,d6,d7,d8,d9⟩:=HC14.out f ((aB.of_below (bT t.out HB13.out)).trans (aB.of_only HO14.out));have s0:=HQO.out.c 0;have n0:=HNN.out.c 0;have nf:=HNN.out.frozen 0;have nl:=HNN.out.lt;have HNX:=Lq (u.out.next HCI.out KI.out HCH.out);by_cases hdy:dy≤day
           ·have K:(if(ao.day (ao.mk 1 dy Z ⟨⟨T,R,O,S,q,U,V⟩,X,Y⟩))≤day then o else now)=o:=if_pos hdy
            have ac:=Lq K;clear K;go_wp2_with fail;go_roundw
            case measure=>simp[intOf];omega
            case rel =>
             have L:ai f (f.setCell ⟨gn,0,none⟩ (.slice Ao o.length co)) gn:=ai.of_set (bR f) gn 0 _;refine⟨k+1,o,Ao,co,dy,o,Ao,co,by omega,by go_num,rfl,Lq ?_,Lq ?_,Lq (HKP.out.on (aB.of_only2 L)),Lq (HKP.out.on (aB.of_only2 L)),Lq (by have h:=HNX.out;rw[ac.out]at h;exact h),Lq (ae.out.trans (HT14.out.trans (aB.of_only2 L))),Lq (fun h=>(by omega))⟩
             ·exact HQO.out.same (L.block gs HQO.out.lt (by have:=s.out;omega))
             ·have h:=HNN.out.set_ 0 (.slice Ao o.length co)
              simpa using h
           ·have K:(if(ao.day (ao.mk 1 dy Z ⟨⟨T,R,O,S,q,U,V⟩,X,Y⟩))≤day then o else now)=now:=if_neg hdy
            have ac:=Lq K;clear K;go_wp2_with fail;go_roundw
            case measure=>simp[intOf];omega
            case rel=>exact⟨k+1,o,Ao,co,dy,now,z,cn,by omega,by go_num,rfl,HQO,HNN,HKP,Lq (HO.out.on HT14.out),Lq (by have h:=HNX.out;rw[ac.out]at h;exact h),Lq (ae.out.trans HT14.out),Lq (fun h=>(by omega))⟩
          ·have aA:(r != 0)=true:=by simpa using hr0
           obtain⟨D,a⟩:=ex (f.setCell ⟨gn,0,none⟩ (.slice z now.length cn));have x:D.cell? ⟨gn,0,none⟩=some (.slice z now.length cn):=by rw[←a];exact((HNN.out).set_ 0 _).cell 0
           have n:Hid (BW w D):=by rw[←a];exact Lq ((ai.of_set (bR f) gn 0 _).below (ap.out) E.out)
           have n0:=(HNN.out).c 0;have nf:=(HNN.out).frozen 0;have nl:=(HNN.out).lt;go_wp2_with fail;exact bodyPost_ret (v:=.tuple #[.agg #[.slice z now.length cn],iv 2,iv k,iv r]) (by simp[results,Tryz.results29,go_sem,x]) rfl (ir hr0 (u.out.stop HCI.out (.inr (HNO.out hr0).1)) (rE u.out HCI.out (by first | exact(HNO.out hr0).2 | exact fun _=>(HNO.out hr0).2 trivial)) n.out)
       ·by_cases w2:wh=2
        ·subst w2;have am:(Instr.lookup 156 (.map (some bv)) (iv 2) true).run Tryz.prog W10=.ok (.tuple #[.agg #[(.func (.func 149) #[] #[]),(.func (.func 150) #[] #[])],.bool true]) W10:=rB HVX.out HWC.out CO;obtain⟨Wb,W11,hWb,hW11,hb11,hqb,hbb,hq11⟩:=iq W10 160 .nilFunc .nilFunc (.func (.func 149) #[] #[]) (.func (.func 150) #[] #[]);obtain⟨g15,hg15⟩:=ex W10.heap.size;rw[hg15]at hW11 hqb hq11;have HG15:Hid (g14<g15):=by rw[←hg15];exact Lq dl
         have t:=Lq hb11;have HC15:Hid (∀W,aB gs gn W11 W→cA W g15 0 (.func (.func 149) #[] #[])∧cA W g15 1 (.func (.func 150) #[] #[])):=Lq fun W J=>have k:=J.blk hq11 (by have:=HG14.out;have:=HG15.out;omega) (by have:=HG14.out;have:=HG15.out;have:=s.out;omega);⟨k.c 0,k.c 1⟩
         have al:=hqb.frozen 0;have bf1:=hqb.frozen 1;have be0:=hqb.c 0;have be1:=hqb.c 1;have bl:=hqb.lt;obtain⟨F,G⟩:=HC15.out _ (aB.of_below (bR _));obtain⟨d0',d1',d2',d3',d4',d5',d6',d7',d8',d9'⟩:=HC14.out _ (aB.of_below hb11);clear hb11 hqb hbb hq11;go_wp2_with fail;refine(HI.out _ _ (by go_simp)).mono ?_
         rintro e M ⟨rfl,J⟩;have HB12:=Lq (bT (bA (bR W11) _) J);clear J am c0 c1 c2 c3 c4 c5 c6 c7 c8 c9 x d1 d2 d3 d4 d5 d6 d7 d8 d9 e0 e1 e2 e3 e4 e5 e6 e7 e8 e9 f0 f1 f2 f3 f4 f5 f6 f7 f8 f9 el al bf1 be0 be1 bl F G d0' d1' d2' d3' d4' d5' d6' d7' d8' d9' hWa hW10 hg14 hg15 hWb hW11 dl;have HBX:=Lq (bT an.out (bT t.out HB12.out));cases bI with
         | false =>
          obtain⟨D,a⟩:=ex (M.setCell ⟨gn,0,none⟩ (.slice z now.length cn));have x:D.cell? ⟨gn,0,none⟩=some (.slice z now.length cn):=by rw[←a];exact((I.out.keep HBX.out).set_ 0 _).cell 0
          have n:Hid (BW w D):=by rw[←a];exact Lq ((ai.of_set (bR M) gn 0 _).below (bT d.out HBX.out) E.out)
          have n0:=(I.out.keep HBX.out).c 0;have nf:=(I.out.keep HBX.out).frozen 0;have nl:=(I.out.keep HBX.out).lt;go_wp2_with fail;exact bodyPost_ret (v:=.tuple #[.agg #[.slice z now.length cn],iv 2,iv k,iv 7]) (by simp[results,Tryz.results29,go_sem,x]) rfl (ir (by decide) (u.out.stop HCI.out (.inl KI.out)) (pu u.out HCI.out KI.out) n.out)
         | true =>
          obtain⟨F,G⟩:=HC15.out _ (aB.of_below HB12.out);obtain⟨x,d1,d2,d3,d4,d5,d6,d7,d8,d9⟩:=HC14.out _ (aB.of_below (bT t.out HB12.out));obtain⟨bE,hbE⟩:=ex (jl ⟨T,R,O,S,q,U,V⟩);have HE:Hid (∀W,Cs 149 #[cV (ao.mk 2 dy Z ⟨⟨T,R,O,S,q,U,V⟩,X,Y⟩)] W (Rt W (.bool bE))):=Lq fun W=>hbE▸CL (ao.mk 2 dy Z ⟨⟨T,R,O,S,q,U,V⟩,X,Y⟩) W (lT HMC.out.le HMC.out.cm)
          have KE:=Lq hbE;clear hbE;go_wp2_with fail;refine(HE.out _).mono ?_;rintro e w13 ⟨rfl,J⟩;have HB13:=Lq (bT HB12.out J);have HBY:=Lq (bT HBX.out J);clear J F G x d1 d2 d3 d4 d5 d6 d7 d8 d9;cases bE with
          | false =>
           obtain⟨D,a⟩:=ex (w13.setCell ⟨gn,0,none⟩ (.slice z now.length cn));have x:D.cell? ⟨gn,0,none⟩=some (.slice z now.length cn):=by rw[←a];exact((I.out.keep HBY.out).set_ 0 _).cell 0
           have n:Hid (BW w D):=by rw[←a];exact Lq ((ai.of_set (bR w13) gn 0 _).below (bT d.out HBY.out) E.out)
           have n0:=(I.out.keep HBY.out).c 0;have nf:=(I.out.keep HBY.out).frozen 0;have nl:=(I.out.keep HBY.out).lt;go_wp2_with fail;exact bodyPost_ret (v:=.tuple #[.agg #[.slice z now.length cn],iv 2,iv k,iv 6]) (by simp[results,Tryz.results29,go_sem,x]) rfl (ir (by decide) (u.out.stop HCI.out (.inr (uz (by unfold fD;simp only[ao.c];rw[KE.out];simp)))) (C9 HCI.out (by unfold fD;simp only[ao.c];rw[KE.out];simp) rfl) n.out)
          | true =>
           obtain⟨F,G⟩:=HC15.out _ (aB.of_below HB13.out);obtain⟨x,d1,d2,d3,d4,d5,d6,d7,d8,d9⟩:=HC14.out _ (aB.of_below (bT t.out HB13.out));have HMU:Hid (Cs 150 #[pT gs 0,cV (ao.mk 2 dy Z ⟨⟨T,R,O,S,q,U,V⟩,X,Y⟩)] w13 (me l (ao.mk 2 dy Z ⟨⟨T,R,O,S,q,U,V⟩,X,Y⟩) gs w13)):=Lq (CI Al l (ao.mk 2 dy Z ⟨⟨T,R,O,S,q,U,V⟩,X,Y⟩) cl gs w13 (HS.out.keep HBY.out) ((HL.out.on (aB.of_below HBY.out)).keeps) u.out.1 rfl KE.out);go_wp2_with fail;refine HMU.out.mono ?_;rintro e f ⟨r,rfl,ho,ah,N⟩;have HO14:=Lq ho;have HNO:=Lq ah;have HYES:=Lq N;have HT14:Hid (aB gs gn wr f):=Lq ((aB.of_below HBY.out).trans (aB.of_only ho));have HNN:Hid (aa f gn 62 #[.slice z now.length cn]):=Lq ((I.out.keep HBY.out).same (ho.block gn (I.out.keep HBY.out).lt (by have:=s.out;omega)))
           have ap:Hid (BW w f):=Lq (HT14.out.below d.out (by have:=s.out;omega) E.out)
           clear ho ah N F G x d1 d2 d3 d4 d5 d6 d7 d8 d9;by_cases hr0:r=0
           ·subst hr0;obtain⟨o,Ao,co,ak,af,ag⟩:=HYES.out rfl;have HQO:=Lq ak;have HCH:=Lq af;have HKP:=Lq (ge.of_keeps ag HNN.out (by have:=s.out;omega))
            clear ak af ag HYES HNO;obtain⟨x,d1,d2,d3,d4,d5,d6,d7,d8,d9⟩:=HC14.out f ((aB.of_below (bT t.out HB13.out)).trans (aB.of_only HO14.out));have s0:=HQO.out.c 0;have n0:=HNN.out.c 0;have nf:=HNN.out.frozen 0;have nl:=HNN.out.lt;have HNX:=Lq (u.out.next HCI.out KI.out HCH.out);by_cases hdy:dy≤day
            ·have K:(if(ao.day (ao.mk 2 dy Z ⟨⟨T,R,O,S,q,U,V⟩,X,Y⟩))≤day then o else now)=o:=if_pos hdy
             have ac:=Lq K;clear K;go_wp2_with fail;go_roundw
             case measure=>simp[intOf];omega
             case rel =>
              have L:ai f (f.setCell ⟨gn,0,none⟩ (.slice Ao o.length co)) gn:=ai.of_set (bR f) gn 0 _;refine⟨k+1,o,Ao,co,dy,o,Ao,co,by omega,by go_num,rfl,Lq ?_,Lq ?_,Lq (HKP.out.on (aB.of_only2 L)),Lq (HKP.out.on (aB.of_only2 L)),Lq (by have h:=HNX.out;rw[ac.out]at h;exact h),Lq (ae.out.trans (HT14.out.trans (aB.of_only2 L))),Lq (fun h=>(by omega))⟩
              ·exact HQO.out.same (L.block gs HQO.out.lt (by have:=s.out;omega))
              ·have h:=HNN.out.set_ 0 (.slice Ao o.length co)
               simpa using h
            ·have K:(if(ao.day (ao.mk 2 dy Z ⟨⟨T,R,O,S,q,U,V⟩,X,Y⟩))≤day then o else now)=now:=if_neg hdy
             have ac:=Lq K;clear K;go_wp2_with fail;go_roundw
             case measure=>simp[intOf];omega
             case rel=>exact⟨k+1,o,Ao,co,dy,now,z,cn,by omega,by go_num,rfl,HQO,HNN,HKP,Lq (HO.out.on HT14.out),Lq (by have h:=HNX.out;rw[ac.out]at h;exact h),Lq (ae.out.trans HT14.out),Lq (fun h=>(by omega))⟩
           ·have aA:(r != 0)=true:=by simpa using hr0
            obtain⟨D,a⟩:=ex (f.setCell ⟨gn,0,none⟩ (.slice z now.length cn));have x:D.cell? ⟨gn,0,none⟩=some (.slice z now.length cn):=by rw[←a];exact((HNN.out).set_ 0 _).cell 0
            have n:Hid (BW w D):=by rw[←a];exact Lq ((ai.of_set (bR f) gn 0 _).below (ap.out) E.out)
            have n0:=(HNN.out).c 0;have nf:=(HNN.out).frozen 0;have nl:=(HNN.out).lt;go_wp2_with fail;exact bodyPost_ret (v:=.tuple #[.agg #[.slice z now.length cn],iv 2,iv k,iv r]) (by simp[results,Tryz.results29,go_sem,x]) rfl (ir hr0 (u.out.stop HCI.out (.inr (HNO.out hr0).1)) (rE u.out HCI.out (by first | exact(HNO.out hr0).2 | exact fun _=>(HNO.out hr0).2 trivial)) n.out)
        ·by_cases w3:wh=3
         ·subst w3;have am:(Instr.lookup 156 (.map (some bv)) (iv 3) true).run Tryz.prog W10=.ok (.tuple #[.agg #[(.func (.func 151) #[] #[]),(.func (.func 152) #[] #[])],.bool true]) W10:=rB HVX.out HWC.out CP;obtain⟨Wb,W11,hWb,hW11,hb11,hqb,hbb,hq11⟩:=iq W10 160 .nilFunc .nilFunc (.func (.func 151) #[] #[]) (.func (.func 152) #[] #[]);obtain⟨g15,hg15⟩:=ex W10.heap.size;rw[hg15]at hW11 hqb hq11;have HG15:Hid (g14<g15):=by rw[←hg15];exact Lq dl
          have t:=Lq hb11;have HC15:Hid (∀W,aB gs gn W11 W→cA W g15 0 (.func (.func 151) #[] #[])∧cA W g15 1 (.func (.func 152) #[] #[])):=Lq fun W J=>have k:=J.blk hq11 (by have:=HG14.out;have:=HG15.out;omega) (by have:=HG14.out;have:=HG15.out;have:=s.out;omega);⟨k.c 0,k.c 1⟩
          have al:=hqb.frozen 0;have bf1:=hqb.frozen 1;have be0:=hqb.c 0;have be1:=hqb.c 1;have bl:=hqb.lt;obtain⟨F,G⟩:=HC15.out _ (aB.of_below (bR _));obtain⟨d0',d1',d2',d3',d4',d5',d6',d7',d8',d9'⟩:=HC14.out _ (aB.of_below hb11);clear hb11 hqb hbb hq11;go_wp2_with fail;refine(HI.out _ _ (by go_simp)).mono ?_
          rintro e M ⟨rfl,J⟩;have HB12:=Lq (bT (bA (bR W11) _) J);clear J am c0 c1 c2 c3 c4 c5 c6 c7 c8 c9 x d1 d2 d3 d4 d5 d6 d7 d8 d9 e0 e1 e2 e3 e4 e5 e6 e7 e8 e9 f0 f1 f2 f3 f4 f5 f6 f7 f8 f9 el al bf1 be0 be1 bl F G d0' d1' d2' d3' d4' d5' d6' d7' d8' d9' hWa hW10 hg14 hg15 hWb hW11 dl;have HBX:=Lq (bT an.out (bT t.out HB12.out));cases bI with
          | false =>
           obtain⟨D,a⟩:=ex (M.setCell ⟨gn,0,none⟩ (.slice z now.length cn));have x:D.cell? ⟨gn,0,none⟩=some (.slice z now.length cn):=by rw[←a];exact((I.out.keep HBX.out).set_ 0 _).cell 0
           have n:Hid (BW w D):=by rw[←a];exact Lq ((ai.of_set (bR M) gn 0 _).below (bT d.out HBX.out) E.out)
           have n0:=(I.out.keep HBX.out).c 0;have nf:=(I.out.keep HBX.out).frozen 0;have nl:=(I.out.keep HBX.out).lt;go_wp2_with fail;exact bodyPost_ret (v:=.tuple #[.agg #[.slice z now.length cn],iv 2,iv k,iv 7]) (by simp[results,Tryz.results29,go_sem,x]) rfl (ir (by decide) (u.out.stop HCI.out (.inl KI.out)) (pu u.out HCI.out KI.out) n.out)
          | true =>
           obtain⟨F,G⟩:=HC15.out _ (aB.of_below HB12.out);obtain⟨x,d1,d2,d3,d4,d5,d6,d7,d8,d9⟩:=HC14.out _ (aB.of_below (bT t.out HB12.out));obtain⟨bE,hbE⟩:=ex (true);have HE:Hid (∀W,Cs 151 #[cV (ao.mk 3 dy Z ⟨⟨T,R,O,S,q,U,V⟩,X,Y⟩)] W (Rt W (.bool bE))):=Lq fun W=>hbE▸CK (ao.mk 3 dy Z ⟨⟨T,R,O,S,q,U,V⟩,X,Y⟩) W
           have KE:=Lq hbE;clear hbE;go_wp2_with fail;refine(HE.out _).mono ?_;rintro e w13 ⟨rfl,J⟩;have HB13:=Lq (bT HB12.out J);have HBY:=Lq (bT HBX.out J);clear J F G x d1 d2 d3 d4 d5 d6 d7 d8 d9;obtain rfl:bE=true:=KE.out.symm;obtain⟨F,G⟩:=HC15.out _ (aB.of_below HB13.out);obtain⟨x,d1,d2,d3,d4,d5,d6,d7,d8,d9⟩:=HC14.out _ (aB.of_below (bT t.out HB13.out));have HMU:Hid (Cs 152 #[pT gs 0,cV (ao.mk 3 dy Z ⟨⟨T,R,O,S,q,U,V⟩,X,Y⟩)] w13 (me l (ao.mk 3 dy Z ⟨⟨T,R,O,S,q,U,V⟩,X,Y⟩) gs w13)):=Lq (C7 Al l (ao.mk 3 dy Z ⟨⟨T,R,O,S,q,U,V⟩,X,Y⟩) B cl gs w13 (by have:=s.out;omega) (HS.out.keep HBY.out) ((HL.out.on (aB.of_below HBY.out)).keeps) ((HMC.out.below HBY.out (lT hB d.out.size))) u.out.1 rfl)
           go_wp2_with fail;refine HMU.out.mono ?_;rintro e f ⟨r,rfl,ho,ah,N⟩;have HO14:=Lq ho;have HNO:=Lq ah;have HYES:=Lq N;have HT14:Hid (aB gs gn wr f):=Lq ((aB.of_below HBY.out).trans (aB.of_only ho));have HNN:Hid (aa f gn 62 #[.slice z now.length cn]):=Lq ((I.out.keep HBY.out).same (ho.block gn (I.out.keep HBY.out).lt (by have:=s.out;omega)))
           have ap:Hid (BW w f):=Lq (HT14.out.below d.out (by have:=s.out;omega) E.out)
           clear ho ah N F G x d1 d2 d3 d4 d5 d6 d7 d8 d9;by_cases hr0:r=0
           ·subst hr0;obtain⟨o,Ao,co,ak,af,ag⟩:=HYES.out rfl;have HQO:=Lq ak;have HCH:=Lq af;have HKP:=Lq (ge.of_keeps ag HNN.out (by have:=s.out;omega))
            clear ak af ag HYES HNO;obtain⟨x,d1,d2,d3,d4,d5,d6,d7,d8,d9⟩:=HC14.out f ((aB.of_below (bT t.out HB13.out)).trans (aB.of_only HO14.out));have s0:=HQO.out.c 0;have n0:=HNN.out.c 0;have nf:=HNN.out.frozen 0;have nl:=HNN.out.lt;have HNX:=Lq (u.out.next HCI.out KI.out HCH.out);by_cases hdy:dy≤day
            ·have K:(if(ao.day (ao.mk 3 dy Z ⟨⟨T,R,O,S,q,U,V⟩,X,Y⟩))≤day then o else now)=o:=if_pos hdy
             have ac:=Lq K;clear K;go_wp2_with fail;go_roundw
             case measure=>simp[intOf];omega
             case rel =>
              have L:ai f (f.setCell ⟨gn,0,none⟩ (.slice Ao o.length co)) gn:=ai.of_set (bR f) gn 0 _;refine⟨k+1,o,Ao,co,dy,o,Ao,co,by omega,by go_num,rfl,Lq ?_,Lq ?_,Lq (HKP.out.on (aB.of_only2 L)),Lq (HKP.out.on (aB.of_only2 L)),Lq (by have h:=HNX.out;rw[ac.out]at h;exact h),Lq (ae.out.trans (HT14.out.trans (aB.of_only2 L))),Lq (fun h=>(by omega))⟩
              ·exact HQO.out.same (L.block gs HQO.out.lt (by have:=s.out;omega))
              ·have h:=HNN.out.set_ 0 (.slice Ao o.length co)
               simpa using h
            ·have K:(if(ao.day (ao.mk 3 dy Z ⟨⟨T,R,O,S,q,U,V⟩,X,Y⟩))≤day then o else now)=now:=if_neg hdy
             have ac:=Lq K;clear K;go_wp2_with fail;go_roundw
             case measure=>simp[intOf];omega
             case rel=>exact⟨k+1,o,Ao,co,dy,now,z,cn,by omega,by go_num,rfl,HQO,HNN,HKP,Lq (HO.out.on HT14.out),Lq (by have h:=HNX.out;rw[ac.out]at h;exact h),Lq (ae.out.trans HT14.out),Lq (fun h=>(by omega))⟩
           ·have aA:(r != 0)=true:=by simpa using hr0
            obtain⟨D,a⟩:=ex (f.setCell ⟨gn,0,none⟩ (.slice z now.length cn));have x:D.cell? ⟨gn,0,none⟩=some (.slice z now.length cn):=by rw[←a];exact((HNN.out).set_ 0 _).cell 0
            have n:Hid (BW w D):=by rw[←a];exact Lq ((ai.of_set (bR f) gn 0 _).below (ap.out) E.out)
            have n0:=(HNN.out).c 0;have nf:=(HNN.out).frozen 0;have nl:=(HNN.out).lt;go_wp2_with fail;exact bodyPost_ret (v:=.tuple #[.agg #[.slice z now.length cn],iv 2,iv k,iv r]) (by simp[results,Tryz.results29,go_sem,x]) rfl (ir hr0 (u.out.stop HCI.out (.inr (HNO.out hr0).1)) (rE u.out HCI.out (by first | exact(HNO.out hr0).2 | exact fun _=>(HNO.out hr0).2 trivial)) n.out)
         ·skip;have am:(Instr.lookup 156 (.map (some bv)) (iv wh) true).run Tryz.prog W10=.ok (.tuple #[.agg #[.nilFunc,.nilFunc],.bool false]) W10:=CS HVX.out HWC.out w1 w2 w3;obtain⟨Wb,W11,hWb,hW11,hb11,hqb,hbb,hq11⟩:=iq W10 160 .nilFunc .nilFunc .nilFunc .nilFunc;obtain⟨g15,hg15⟩:=ex W10.heap.size;rw[hg15]at hW11 hqb hq11;have HG15:Hid (g14<g15):=by rw[←hg15];exact Lq dl
          have t:=Lq hb11;have HC15:Hid (∀W,aB gs gn W11 W→cA W g15 0 .nilFunc∧cA W g15 1 .nilFunc):=Lq fun W J=>have k:=J.blk hq11 (by have:=HG14.out;have:=HG15.out;omega) (by have:=HG14.out;have:=HG15.out;have:=s.out;omega);⟨k.c 0,k.c 1⟩
          have al:=hqb.frozen 0;have bf1:=hqb.frozen 1;have be0:=hqb.c 0;have be1:=hqb.c 1;have bl:=hqb.lt;obtain⟨F,G⟩:=HC15.out _ (aB.of_below (bR _));obtain⟨d0',d1',d2',d3',d4',d5',d6',d7',d8',d9'⟩:=HC14.out _ (aB.of_below hb11);clear hb11 hqb hbb hq11;go_wp2_with fail;refine(HI.out _ _ (by go_simp)).mono ?_
          rintro e M ⟨rfl,J⟩;have HB12:=Lq (bT (bA (bR W11) _) J);clear J am c0 c1 c2 c3 c4 c5 c6 c7 c8 c9 x d1 d2 d3 d4 d5 d6 d7 d8 d9 e0 e1 e2 e3 e4 e5 e6 e7 e8 e9 f0 f1 f2 f3 f4 f5 f6 f7 f8 f9 el al bf1 be0 be1 bl F G d0' d1' d2' d3' d4' d5' d6' d7' d8' d9' hWa hW10 hg14 hg15 hWb hW11 dl;have HBX:=Lq (bT an.out (bT t.out HB12.out));cases bI with
          | false =>
           obtain⟨D,a⟩:=ex (M.setCell ⟨gn,0,none⟩ (.slice z now.length cn));have x:D.cell? ⟨gn,0,none⟩=some (.slice z now.length cn):=by rw[←a];exact((I.out.keep HBX.out).set_ 0 _).cell 0
           have n:Hid (BW w D):=by rw[←a];exact Lq ((ai.of_set (bR M) gn 0 _).below (bT d.out HBX.out) E.out)
           have n0:=(I.out.keep HBX.out).c 0;have nf:=(I.out.keep HBX.out).frozen 0;have nl:=(I.out.keep HBX.out).lt;go_wp2_with fail;exact bodyPost_ret (v:=.tuple #[.agg #[.slice z now.length cn],iv 2,iv k,iv 7]) (by simp[results,Tryz.results29,go_sem,x]) rfl (ir (by decide) (u.out.stop HCI.out (.inl KI.out)) (pu u.out HCI.out KI.out) n.out)
          | true =>
           obtain⟨D,a⟩:=ex (M.setCell ⟨gn,0,none⟩ (.slice z now.length cn));have x:D.cell? ⟨gn,0,none⟩=some (.slice z now.length cn):=by rw[←a];exact((I.out.keep HBX.out).set_ 0 _).cell 0
           have n:Hid (BW w D):=by rw[←a];exact Lq ((ai.of_set (bR M) gn 0 _).below (bT d.out HBX.out) E.out)
           have n0:=(I.out.keep HBX.out).c 0;have nf:=(I.out.keep HBX.out).frozen 0;have nl:=(I.out.keep HBX.out).lt;go_wp2_with fail;exact bodyPost_ret (v:=.tuple #[.agg #[.slice z now.length cn],iv 2,iv k,iv 6]) (by simp[results,Tryz.results29,go_sem,x]) rfl (ir (by decide) (u.out.stop HCI.out (.inr (Da w1 w2 w3))) (uw HCI.out w2) n.out)
      ·obtain rfl:k=cs.length:=by omega
       have aI:=u.out.done aE.out (Nat.le_of_not_lt h8);have HPL:=Lq aI;clear aI;obtain⟨D,a⟩:=ex (wr.setCell ⟨gn,0,none⟩ (.slice z now.length cn));have x:D.cell? ⟨gn,0,none⟩=some (.slice z now.length cn):=by rw[←a];exact(I.out.set_ 0 _).cell 0
       have o9:ai wr D gn:=by rw[←a];exact ai.of_set (bR wr) gn 0 _
       have n:Hid (BW w D):=Lq (o9.below d.out E.out);have HS9:=Lq (HO.out D (aB.of_only2 o9));have n0:=I.out.c 0;have nf:=I.out.frozen 0;have nl:=I.out.lt;clear o9;go_wp2_with fail;exact bodyPost_ret (v:=.tuple #[.agg #[.slice z now.length cn],iv 0,iv 0,iv 0]) (by simp[results,Tryz.results29,go_sem,x]) rfl ⟨0,0,0,z,_,cn,rfl,n.out,⟨fun _=>HPL.out.1,fun _=>rfl⟩,fun _=>⟨now,rfl,HPL.out.2,HS9.out⟩,fun _ h=>aM.out h,fun h=>absurd rfl h⟩
theorem uA(A C:Option Addr)(ms:List aj)(cs:List ao)(B cap a:Nat)(day:Int)(w:World)(m:B≤w.heap.size)(H:az w B A cap ms)(f:de w B C a cs)(g:∀c∈cs,Lit.wf (.int .i64 c.what)=true) :
  Cs 29 #[.agg #[.slice A ms.length cap,.slice C cs.length a],iv day] w (rD ms cs day w) :=
 (rF A C ms cs B cap a day w m H f g).mono fun _ _ ⟨p,i,r,d,n,c,h,j,k,l,_⟩=>⟨p,i,r,d,n,c,h,j,k,l⟩
end
def mj(ms:List aj)(cs:List ao)(day:Int)(w:World)(e:Ending)(w':World):Prop:=∃(r:Int) (A:Option Addr) (n c:Nat),e=.returned (.tuple #[.agg #[.slice A n c],iv r])∧BW w w'∧(r=0↔bS (ab ms) (an cs)∧inB 0 40000 day=true)∧(r=0→∃out:List aj,n=out.length∧ab out=aA day (ab ms) (an cs)∧az w' w'.heap.size A c out)
def rG(ms:List aj)(cs:List ao)(day:Int)(w:World)(e:Ending)(w':World):Prop:=∃(r:Int) (A:Option Addr) (n c:Nat),e=.returned (.tuple #[.agg #[.slice A n c],iv r])∧BW w w'∧(r=0↔bS (ab ms) (an cs)∧inB 0 40000 day=true)∧(r=0→∃out:List aj,n=out.length∧ab out=aA day (ab ms) (an cs)∧az w' w'.heap.size A c out)∧(r≠0→inB 0 40000 day=true→Cd ms cs r)
theorem uB(A C:Option Addr)(ms:List aj)(cs:List ao)(B cap a:Nat)(day:Int)(w:World)(G:B≤w.heap.size)(H:az w B A cap ms)(J:de w B C a cs)(K:∀c∈cs,Lit.wf (.int .i64 c.what)=true) :
  Cs 12 #[.agg #[.slice A ms.length cap,.slice C cs.length a],iv day] w (rG ms cs day w):=by
 obtain⟨t,u,L⟩:=nA w (.cells #[.slice A ms.length cap,.slice C cs.length a] 27);obtain⟨W2,hW2,b2⟩:=nA t (.cells #[.slice none 0 0] 62);obtain⟨gp,hgp⟩:=ex w.heap.size;obtain⟨gn,hgn⟩:=ex t.heap.size;have z1:t.heap.size=w.heap.size+1:=by rw[←u];simp
 have M:aa t gp 27 #[.slice A ms.length cap,.slice C cs.length a]:=by rw[←u,←hgp];exact aa.new w 27 _
 have N:aa W2 gn 62 #[.slice none 0 0]:=by rw[←hW2,←hgn];exact aa.new t 62 _
 have o:=M.keep b2;have b3:=bT L b2;have HGN:Hid (w.heap.size≤gn):=Lq (by omega)
 have D:Hid (Cs 29 #[.agg #[.slice A ms.length cap,.slice C cs.length a],iv day] W2 (py A cap ms cs day W2)):=Lq (rF A C ms cs B cap a day W2 (lT G b3.size) (H.below b3 G) (J.below b3 G) K);have HI:Hid (∀g W,W.cell? ⟨g,0,none⟩=some (iv day)→Cs 13 #[iv 0,iv 40000,.slice (some ⟨g,0,none⟩) 1 1] W (Rt W (.bool (!inB 0 40000 day)))):=Lq fun g W hc=>kR 0 40000 day g W hc (br hc)
 obtain⟨R,m⟩:=ex (inB 0 40000 day);have KI:=Lq m;rw[m]at HI;have HB3:=Lq b3;have HQN:=Lq N;have x0:=o.c 0;have x1:=o.c 1;clear H J K L b2 b3 M N o z1 m;go_enter Tryz.func12,Tryz.ntmps12
 go_wp2_with fail;refine D.out.mono ?_;rintro e s ⟨p,i,r,Ax,n,c,rfl,d,f,j,_,y⟩;have HB4:=Lq d;have HIFF:=Lq f;have HYES:=Lq j;have HCD:=Lq y;have n0:=(HQN.out.keep d).c 0;have nf:=(HQN.out.keep d).frozen 0;have nl:=(HQN.out.keep d).lt;obtain⟨W4,hW4⟩:=ex (s.setCell ⟨gn,0,none⟩ (.slice Ax n c));have o4:ai s W4 gn:=by rw[←hW4];exact ai.of_set (bR s) gn 0 _
 have O:aa W4 gn 62 #[.slice Ax n c]:=by
  rw[←hW4];have h:=(HQN.out.keep d).set_ 0 (.slice Ax n c)
  simpa using h
 have b:=Lq O;have HO4:=Lq o4;have HW4:Hid (BW w W4):=Lq (o4.below (bT HB3.out d) HGN.out);have HK:Hid (dT s gn Ax n []∨True):=Lq (.inr trivial);have fin:∀(W:World) (q:Int),BW W4 W→(q=0↔bS (ab ms) (an cs)∧inB 0 40000 day=true)→(q=0→r=0)→(q≠0→inB 0 40000 day=true→Cd ms cs q)→rG ms cs day w (.returned (.tuple #[.agg #[.slice Ax n c],iv q])) (W.setCell ⟨gn,0,none⟩ (.slice Ax n c)):=by
  intro W q x V E F;have oW:ai W (W.setCell ⟨gn,0,none⟩ (.slice Ax n c)) gn:=ai.of_set (bR W) gn 0 _;refine⟨q,Ax,n,c,rfl,oW.below (bT HW4.out x) HGN.out,V,fun h=>?_,F⟩
  obtain⟨z,S,T,U⟩:=HYES.out (E h);refine⟨z,S,T, ?_⟩;have hk:dT s (s.heap.size) Ax c z:=fun X hX=>(U.below ⟨hX.os,hX.tape,hX.output,hX.size,fun k hk=>hX.block k hk (by omega)⟩ (lr _)).more hX.size
  have Y:=ge.of_keeps hk (HQN.out.keep HB4.out) (by have:=(HQN.out.keep HB4.out).lt;omega)
  exact Y _ ((aB.of_only2 HO4.out).trans ((aB.of_below x).trans (aB.of_only2 oW)))
 have l:=Lq fin;clear d f j y o4 O fin x0 x1;by_cases hr:r=0
 ·subst hr;have m0:=b.out.c 0;go_wp2_with fail;refine(HI.out _ _ (by go_simp)).mono ?_
  rintro e I ⟨rfl,d⟩;have HB5:=Lq (bT (bA (bR W4) _) d);clear d;have m5:=(b.out.keep HB5.out).c 0;have mf:=(b.out.keep HB5.out).frozen 0;have ml:=(b.out.keep HB5.out).lt;have d0:(I.setCell ⟨gn,0,none⟩ (.slice Ax n c)).cell? ⟨gn,0,none⟩=some (.slice Ax n c):=((b.out.keep HB5.out).set_ 0 _).cell 0;cases R with
  | false =>
   go_wp2_with fail;exact bodyPost_ret (v:=.tuple #[.agg #[.slice Ax n c],iv 7]) (by simp[results,Tryz.results12,go_sem,d0]) rfl (l.out I 7 HB5.out ⟨fun h=>(by cases h),fun h=>(by rw[KI.out]at h;cases h.2)⟩ (fun h=>(by cases h)) (fun _ h=>by rw[KI.out]at h;cases h))
  | true =>
   go_wp2_with fail;exact bodyPost_ret (v:=.tuple #[.agg #[.slice Ax n c],iv 0]) (by simp[results,Tryz.results12,go_sem,d0]) rfl (l.out I 0 HB5.out ⟨fun _=>⟨HIFF.out.1 (by trivial),KI.out⟩,fun _=>rfl⟩ (fun _=>by trivial) (fun h=>absurd rfl h))
 ·have Z:(r==0)=false:=by simpa using hr
  have m0:=b.out.c 0;have mf:=b.out.frozen 0;have ml:=b.out.lt;have d0:(W4.setCell ⟨gn,0,none⟩ (.slice Ax n c)).cell? ⟨gn,0,none⟩=some (.slice Ax n c):=(b.out.set_ 0 _).cell 0;go_wp2_with fail;exact bodyPost_ret (v:=.tuple #[.agg #[.slice Ax n c],iv r]) (by simp[results,Tryz.results12,go_sem,d0]) rfl (l.out W4 r (bR _) ⟨fun h=>absurd h hr,fun h=>absurd (HIFF.out.2 h.1) hr⟩ id (fun h _=>HCD.out h))
theorem pB(A C:Option Addr)(ms:List aj)(cs:List ao)(B cap a:Nat)(day:Int)(w:World)(k:B≤w.heap.size)(H:az w B A cap ms)(d:de w B C a cs)(f:∀c∈cs,Lit.wf (.int .i64 c.what)=true) :
  Cs 12 #[.agg #[.slice A ms.length cap,.slice C cs.length a],iv day] w (mj ms cs day w) :=
 (uB A C ms cs B cap a day w k H d f).mono fun _ _ ⟨r,b,n,c,g,h,i,j,_⟩=>⟨r,b,n,c,g,h,i,j⟩
theorem rH(A C:Option Addr)(ms:List aj)(cs:List ao)(B cap a:Nat)(w:World)(j:B≤w.heap.size)(H:az w B A cap ms)(l:de w B C a cs)(m:∀c∈cs,Lit.wf (.int .i64 c.what)=true) :
  Cs 93 #[.agg #[.slice A ms.length cap,.slice C cs.length a]] w (nY (bS (ab ms) (an cs)) w):=by
 obtain⟨g,k,d⟩:=nA w (.cells #[.slice A ms.length cap,.slice C cs.length a] 27);obtain⟨gp,hgp⟩:=ex w.heap.size;have q1:aa g gp 27 #[.slice A ms.length cap,.slice C cs.length a]:=by rw[←k,←hgp];exact aa.new w 27 _
 have h:Hid (Cs 29 #[.agg #[.slice A ms.length cap,.slice C cs.length a],iv 0] g (rD ms cs 0 g)):=Lq (uA A C ms cs B cap a 0 g (lT j d.size) (H.below d j) (l.below d j) m);have HB1:=Lq d;have x0:=q1.c 0;have x1:=q1.c 1;clear H l m d q1;go_enter Tryz.func93,Tryz.ntmps93
 go_wp2_with fail;refine h.out.mono ?_;rintro e q ⟨p,i,r,Ax,n,c,rfl,o,b,f⟩;have HB4:=Lq (bT HB1.out o);have HIFF:=Lq b;clear o b f x0 x1;go_wp2_with fail
 go_ret3
 exact⟨p,i,r,rfl,HIFF.out,HB4.out⟩
end Go.Proofs.YtbillnhcmkpohaaGreatDoor
