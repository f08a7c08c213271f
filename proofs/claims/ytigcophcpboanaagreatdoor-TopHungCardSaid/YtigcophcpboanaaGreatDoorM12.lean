/- hull: swap (printed by mkHQ3.py). hull: build, the words of its two blocks. hull: build .. -/
import Derived.Laws.EntriesVeiled
import Derived.Test.YtigcophcpboanaaGreatDoorM11
set_option maxRecDepth 1000000
set_option maxHeartbeats 0
namespace Go.Proofs.YtigcophcpboanaaGreatDoor
open Go.RowKit
section
variable{n s:ByteArray}{k:Nat}
theorem swap_head(l:List HuP)(p:Nat)(s:ByteArray)(x:HuP)(hp:p<l.length):(swapP l p s x).take (p+1)=l.take p++[x]:=by
 unfold swapP;have h:(l.take p).length=p:=by rw[List.length_take];omega
 rw[List.take_append,h,show p+1-p=1 by omega,List.take_take,Nat.min_eq_right (by omega)]
 rfl
theorem set_split(l:List HuP)(p:Nat)(x:HuP)(hp:p<l.length):l.set p x=l.take p++[x]++l.drop (p+1):=by rw[List.set_eq_take_append_cons_drop,if_pos hp];simp
theorem set_same{α:Type}{l:List α}{i:Nat}{x:α}(h:l[i]?=some x):l.set i x=l:=by obtain⟨h1,rfl⟩:=List.getElem?_eq_some_iff.1 h;exact List.set_getElem_self h1
theorem swap_set{l:List ByteArray}{r:Int}(hd:(l.map ByteArray.toList).Nodup)(hr:strI l s=r)(h0:¬r<0):∃k:Nat,r=(k:Int)∧k<l.length∧l.map (swapS s n)=l.set k n:=by
 unfold strI idxI at hr;by_cases hl:l.findIdx (fun o=>eqS s o)<l.length
 ·rw[if_pos hl]at hr;refine⟨_,hr.symm,hl,List.ext_getElem? fun i=>?_⟩
  have hk:eqS s (l[l.findIdx (fun o=>eqS s o)])=true:=List.findIdx_getElem (w:=hl)
  rw[List.getElem?_map,List.getElem?_set];by_cases hi:l.findIdx (fun o=>eqS s o)=i
  ·subst hi;rw[if_pos rfl,if_pos hl,gE hl];simp only[Option.map_some,swapS];rw[eqS_comm,if_pos hk]
  ·rw[if_neg hi];cases hx:l[i]? with
   | none=>rfl
   | some o =>
    simp only[Option.map_some,swapS];rw[if_neg];intro he;obtain⟨h2,h3⟩:=List.getElem?_eq_some_iff.1 hx;have h1:(l.map ByteArray.toList)[l.findIdx (fun o=>eqS s o)]'(by simpa using hl)=(l.map ByteArray.toList)[i]'(by simpa using h2):=by rw[List.getElem_map,List.getElem_map,h3];exact(eqS_iff.1 hk).symm.trans (eqS_iff.1 he).symm
    have hh:l.findIdx (fun o=>eqS s o)<(l.map ByteArray.toList).length:=by rw[List.length_map];exact hl
    exact hi ((List.getElem?_inj hh hd).1 (by rw[gE hh,gE (by rw[List.length_map];exact h2),h1]))
 ·rw[if_neg hl]at hr;omega
theorem psOf_set(ms:List HuM)(p:Nat)(m:HuM):psOf (ms.set p m)=(psOf ms).set p m.p:=by simp only[psOf,List.map_set]
theorem swapO_id{q:HuP}(h:standsB q s=false):swapO s n q=q:=by
 unfold swapO;have:q.on.map (swapS s n)=q.on:=by
  refine(List.map_congr_left (fun o ho=>?_)).trans (List.map_id _)
  unfold swapS;rw[if_neg]
  ·rfl
  ·intro he;exact stands_false h o ho (eqS_iff.1 he)
 rw[this]
theorem swap_next{l M:List HuP}{p:Nat}{x q:HuP}(hp:p<l.length)(hk:p<k)(hq:l[k]?=some q)(hM:M=(swapP l p s x).take k++l.drop k):M[k]?=some q∧(swapP l p s x).take (k+1)++l.drop (k+1)=M.set k (swapO s x.name q):=by
 obtain⟨hl,e⟩:=List.getElem?_eq_some_iff.1 hq;have hT:=swapP_gt (s:=s) (x:=x) hp hq hk;have hlen:((swapP l p s x).take k).length=k:=by rw[List.length_take,swapP_len hp];omega
 have hd:l.drop k=q::l.drop (k+1):=by rw[List.drop_eq_getElem_cons hl,e]
 subst hM;refine⟨by rw[List.getElem?_append_right (by omega),hlen,Nat.sub_self,hd];rfl, ?_⟩
 rw[List.set_append_right _ _ (by omega),hlen,Nat.sub_self,hd,List.set_cons_zero,List.take_add_one,hT]
 simp
theorem msrd_drop{w:World}{B cap:Nat}{A:Option Addr}{ms:List HuM}(h:SlM w B A cap ms):MsRd w B (if cap=k then A else A.map fun x=>x.add (k*7)) (ms.drop k):=by
 refine⟨?_,fun m hm=>h.rd.ok m (List.mem_of_mem_drop hm)⟩
 cases A with
 | none =>
  have:ms=[]:=List.length_eq_zero_iff.1 (by have:=h.le;have:=h.nil0 rfl;omega)
  subst this;simp only[List.drop_nil];exact RdN.nil
 | some a =>
  by_cases hc:cap=k
  ·have:ms.drop k=[]:=List.drop_eq_nil_of_le (by have:=h.le;omega)
   rw[this];exact RdN.nil
  ·rw[if_neg hc];obtain⟨hs,_⟩:=h.off a rfl;obtain⟨b,off,sp⟩:=a;simp only at hs;subst hs;have:=RdN.drop h.rd.rd k
   simpa[add_off]using this
theorem swap152_any(A:Option Addr)(ms:List HuM)(c:HcM)(B cap gs:Nat)(w:World)(hB:B≤gs)(hg:Blk w gs 102 #[.slice A ms.length cap])(hK:Keeps w gs A cap ms)(hM:MOk w B c.part)(hok:ShipOk (psOf ms))(hwh:c.what=3) :
  Cs 170 #[pT gs 0,cV c] w (MutPost ms c gs w):=by
 have hn12:ms.length≤12:=by have:=hok.len;simpa using this
 obtain⟨W1,hW1,hb1,hz1,hq⟩:=cBox w c;have hgl:=hg.lt;have HG:=Lq (hg.keep hb1);have HK:=Lq (hK.below hb1);have HM:=Lq (hM.below hb1 (lT hB (Nat.le_of_lt hgl)));have HB1:=Lq hb1;have HOK:=Lq hok;have hgl1:gs<W1.heap.size:=by omega
 clear hg hK hM hb1 hok;obtain⟨what,day,nm,⟨⟨name,kind,first,last,on,wlo,whi⟩,Ao,ca⟩⟩:=c;obtain rfl:what=3:=hwh;obtain⟨gc,hgc⟩:=ex w.heap.size;rw[hgc]at hq;have HCB:Hid (∀W,BW W1 W→Blk W gc 58 #[iv 3,iv day,.string nm,.string name,iv kind,iv first,iv last,.slice Ao on.length ca,iv wlo,iv whi]):=Lq fun W hb=>hq.keep hb
 have HS:Hid (∀W,BW W1 W→W.cell? ⟨gs,0,none⟩=some (.slice A ms.length cap)∧W.cell? ⟨gc,3,none⟩=some (.string name)∧W.cell? ⟨gc,4,none⟩=some (iv kind)∧W.cell? ⟨gc,5,none⟩=some (iv first)∧W.cell? ⟨gc,6,none⟩=some (iv last)∧W.cell? ⟨gc,7,none⟩=some (.slice Ao on.length ca)∧W.cell? ⟨gc,8,none⟩=some (iv wlo)∧W.cell? ⟨gc,9,none⟩=some (iv whi)):=Lq fun W hb=>have k:=hq.keep hb;⟨(HG.out.keep hb).c 0,k.c 3,k.c 4,k.c 5,k.c 6,k.c 7,k.c 8,k.c 9⟩
 obtain⟨r,hr⟩:=ex (posP (psOf ms) nm);have HF:Hid (∀W,BW W1 W→Cs 50 #[pT gs 0,.string nm] W (Rt W (iv r))):=Lq fun W hb=>hr▸find49_any A ms W.heap.size cap gs nm W (lr _) (lT (HK.out.sl hb).le (HK.out.sl hb).max) (HK.out.sl hb).rd (HS.out W hb).1
 have HCL:Hid (∀W,BW W1 W→Cs 200 #[.slice A ms.length cap] W (OwnMs ms W)):=Lq fun W hb=>clone179_any A ms W.heap.size cap W (lr _) (HK.out.sl hb) hn12
 have KR:=Lq hr;have hcm:cap≤maxLen:=(HK.out.sl (bR W1)).max;have hcl:ms.length≤cap:=(HK.out.sl (bR W1)).le;have hca9:cap≤9223372036854775807:=by simp only[maxLen]at hcm;omega
 obtain⟨x0,x3,x4,x5,x6,x7,x8,x9⟩:=HS.out _ (bR W1);have x2:=(HCB.out _ (bR W1)).c 2;have xl:=(HCB.out _ (bR W1)).lt;clear hq hr;go_enter Tryz.func170,Tryz.ntmps170
 go_wp2_with fail;refine(HF.out _ (bR W1)).mono ?_;rintro e w2 ⟨rfl,hb⟩;have HB2:=Lq hb;clear hb hW1 x0 x2 x3 x4 x5 x6 x7 x8 x9 xl;obtain⟨x0,x3,x4,x5,x6,x7,x8,x9⟩:=HS.out _ HB2.out;have x2:=(HCB.out _ HB2.out).c 2;have xl:=(HCB.out _ HB2.out).lt;by_cases hr0:r<0
 ·go_wp2_with fail;go_ret
  exact mutNo (by decide) (chgP_swap_no rfl (fun h=>by have h1:=posP_neg.1 (by rw[KR.out];exact hr0:posP (psOf ms) nm<0);have h2:=h.1;simp only[HcM.c]at h2;rw[h1]at h2;cases h2)) (bT HB1.out HB2.out)
 ·have hh:hasP (psOf ms) nm=true:=by
   cases h:hasP (psOf ms) nm with
   | true=>rfl
   | false=>have:=posP_neg.2 h;rw[KR.out]at this;exact absurd this hr0
  obtain⟨hp1,hil,yp,hyp,hyn⟩:=posP_at hh;obtain⟨p,hp⟩:=ex (idxP (psOf ms) nm);rw[hp]at hp1 hil hyp;have hp2:p<ms.length:=by simpa using hil
  obtain rfl:r=(p:Int):=by rw[←KR.out];exact hp1
  have HH:=Lq hh;have HI:=Lq hp;have hp0:(0:Int)≤(p:Int):=by omega
  have hp3:(p:Int)+1≤(ms.length:Int):=by omega
  have hp4:(p:Int)+1≤(cap:Int):=by omega
  have hw:IntKind.i64.wrap ((p:Int)+1)=(p:Int)+1:=by rw[IntKind.wrap_i64];omega
  have hng:¬((p:Int)+1<0):=by omega
  have htn:((p:Int)+1).toNat=p+1:=by omega
  obtain⟨A2,hA2⟩:=ex (if cap=p+1 then A else A.map fun x=>x.add ((p+1)*7))
  have HCK:Hid (∀W,BW W1 W→Cs 136 #[pT gs 0,.agg #[.string name,iv kind,iv first,iv last,.slice Ao on.length ca,iv wlo,iv whi],iv p,.slice A2 (ms.length-(p+1)) (cap-(p+1))] W (ErrIff (PartOk (HuP.mk name kind first last on wlo whi) ((psOf ms).take p) ((psOf ms).eraseIdx p)) W)):=Lq fun W hb=>by
   have hs:=HK.out.sl hb;have hdl:(ms.drop (p+1)).length=ms.length-(p+1):=List.length_drop;have h:=check126_any A (if cap=p+1 then A else A.map fun x=>x.add ((p+1)*7)) ms (ms.drop (p+1)) ⟨(HuP.mk name kind first last on wlo whi),Ao,ca⟩ W.heap.size cap (cap-(p+1)) gs p W (lr _) hs.rd (msrd_drop hs) ((HM.out.below hb (by omega)).more (lT (by omega) hb.size)) hs.le hs.max (by rw[hdl];unfold maxLen;omega) (Nat.le_of_lt hp2) (HS.out W hb).1
   rw[hdl,show psOf (ms.drop (p+1))=(psOf ms).drop (p+1)by simp only[psOf,List.map_drop],←List.eraseIdx_eq_take_drop_succ,hA2]at h
   exact h
  clear hh hp1 hil hp;go_wp2_with fail;go_region_held3 (fun W=>W.cell? ⟨gs,0,none⟩=some (.slice A ms.length cap)∧W.cell? ⟨gc,3,none⟩=some (.string name)∧W.cell? ⟨gc,4,none⟩=some (iv kind)∧W.cell? ⟨gc,5,none⟩=some (iv first)∧W.cell? ⟨gc,6,none⟩=some (iv last)∧W.cell? ⟨gc,7,none⟩=some (.slice Ao on.length ca)∧W.cell? ⟨gc,8,none⟩=some (iv wlo)∧W.cell? ⟨gc,9,none⟩=some (iv whi)) (first | exact HS.out _ (bT HB2.out (u0 hb5)) | exact HS.out _ (bT HB2.out (belowDr (bR _)))) ((go_at_call 136;((with_reducible refine(HCK.out _ (bT HB2.out (belowDr (bR _)))).mono ?_);rintro e w5 ⟨r5,rfl,hr5,hb5⟩)))
  have HB5:=Lq (bT HB2.out (u0 hb5));have HR:=Lq hr5;clear hb5 hr5 x0 x2 x3 x4 x5 x6 x7 x8 x9 xl hw hA2;obtain⟨x0,x3,x4,x5,x6,x7,x8,x9⟩:=HS.out _ HB5.out;by_cases hr50:r5=0
  ·subst hr50;have HPO:=Lq (HR.out.1 rfl);clear HR;go_wp2_with fail;refine(HCL.out _ HB5.out).mono ?_;rintro e w6 ⟨v6,rfl,ho,hb⟩;obtain⟨g,c6,rfl,hgb,hgl6,hc6⟩:=own_form ho (by omega)
   have HB6:=Lq (bT HB5.out hb);have hgs:gs<g:=lz (lz hgl1 HB5.out.size) hgb;have hgW1:W1.heap.size≤g:=lT HB5.out.size hgb;have hcm6:c6≤maxLen:=by
    obtain⟨A9,c9,h1,_,_,h2,h3⟩:=own_rdN encM_len ho;injection h1 with _ _ h1
    subst h1;exact h3
   have hc69:c6≤9223372036854775807:=by simp only[maxLen]at hcm6;omega
   obtain⟨old,hold⟩:=gX (l:=ms) (i:=p) hp2;have hcell:∀j u,(encM old)[j]?=some u→w6.cell? ⟨g,p*7+j,none⟩=some u:=fun j u hu=>by
    have h1:=flat_get encM_len ms p old hold j u hu;have h2:=ho.cellAt (p*7+j) (by have:=(lG h1);rw[flat_len encM_len]at this;exact this)
    rw[h2,h1]
   have hfz:∀j,w6.frozen? ⟨g,j,none⟩=false:=fun j=>ho.frozenAt j
   have y0:w6.cell? ⟨g,p*7,none⟩=some (.string old.p.name):=hcell 0 _ rfl;obtain⟨y1,y2,y3,y4,y5,y6⟩:_∧_∧_∧_∧_∧_:=⟨hcell 1 _ rfl,hcell 2 _ rfl,hcell 3 _ rfl,hcell 4 _ rfl,hcell 5 _ rfl,hcell 6 _ rfl⟩;obtain⟨f0,f1,f2,f3,f4,f5,f6⟩:_∧_∧_∧_∧_∧_∧_:=⟨hfz (p*7),hfz (p*7+1),hfz (p*7+2),hfz (p*7+3),hfz (p*7+4),hfz (p*7+5),hfz (p*7+6)⟩;have hrow:=setRow7 ho p ⟨(HuP.mk name kind first last on wlo whi),Ao,ca⟩ hp2;obtain⟨W7,hW7⟩:=ex (((((((w6.setCell ⟨g,p*7,none⟩ (.string name)).setCell ⟨g,p*7+1,none⟩ (iv kind)).setCell ⟨g,p*7+2,none⟩ (iv first)).setCell ⟨g,p*7+3,none⟩ (iv last)).setCell ⟨g,p*7+4,none⟩ (.slice Ao on.length ca)).setCell ⟨g,p*7+5,none⟩ (iv wlo)).setCell ⟨g,p*7+6,none⟩ (iv whi));have ho7:OnlyAt w6 W7 g:=by rw[←hW7];exact((((((((OnlyAt.of_below (bR w6) g).set (p*7) _).set (p*7+1) _).set (p*7+2) _).set (p*7+3) _).set (p*7+4) _).set (p*7+5) _).set (p*7+6) _)
   simp only[hW7]at hrow;have HROW:=Lq hrow;have HB7:=Lq (ho7.below HB6.out hgW1);have HN7:Hid (∀m∈ms.set p ⟨(HuP.mk name kind first last on wlo whi),Ao,ca⟩,NmOk W7 g gs m):=Lq fun m hm=>by
    rcases List.mem_or_eq_of_mem_set hm with hm | rfl
    ·exact(NmOk.of_keeps HK.out HB6.out hgW1 hm).kept (Kept2.of_only ho7)
    ·exact NmOk.of_ok (HM.out.below HB7.out (by omega)) hB (by omega) (lT (by omega) HB7.out.size)
   have HPS7:Hid (psOf (ms.set p ⟨(HuP.mk name kind first last on wlo whi),Ao,ca⟩)=(swapP (psOf ms) p nm (HuP.mk name kind first last on wlo whi)).take (p+1)++(psOf ms).drop (p+1)):=Lq (by rw[psOf_set,set_split _ _ _ (by simpa using hp2),swap_head _ _ _ _ (by simpa using hp2)])
   obtain⟨A3,hA3⟩:=ex (if c6=p+1 then some (⟨g,0,none⟩:Addr)else some ⟨g,(p+1)*7,none⟩)
   have hp6:(p:Int)+1≤(c6:Int):=by omega
   clear hcell hfz ho hb hrow ho7 hold hyp x0 x3 x4 x5 x6 x7 x8 x9;obtain⟨x0,x3,x4,x5,x6,x7,x8,x9⟩:=HS.out _ HB6.out;go_wp2_with fail;have HK9:=Lq hgW1;clear y0 y1 y2 y3 y4 y5 y6 f0 f1 f2 f3 f4 f5 f6 x0 x3 x4 x5 x6 x7 x8 x9 hW7 hA3;go_loopw [49] (fun i wr=>∃(j:Nat) (L:List HuM),j≤ms.length-(p+1)∧i=iv j∧Hid (L.length=ms.length)∧Hid (psOf L=(swapP (psOf ms) p nm (HuP.mk name kind first last on wlo whi)).take (p+1+j)++(psOf ms).drop (p+1+j))∧Hid (wr.ownsRow w5.heap.size 43 7 (.slice (some ⟨g,0,none⟩) ms.length c6) ms.length (L.flatMap encM))∧Hid (∀m∈L,NmOk wr g gs m)∧Hid (∀d q,p<d→d<p+1+j→(psOf ms)[d]?=some q→standsB q nm=true→meetB q (HuP.mk name kind first last on wlo whi)=true)∧Hid (BW W1 wr)) (fun i _=>ms.length-(p+1)-(intOf i).toNat)
   case atStart=>exact⟨0,ms.set p ⟨(HuP.mk name kind first last on wlo whi),Ao,ca⟩,Nat.zero_le _,rfl,Lq (by simp),Lq (by simpa using HPS7.out),Lq HROW.out,Lq HN7.out,Lq (fun d q h1 h2=>by omega),HB7⟩
   case round =>
    obtain⟨j,L,hj,rfl,HLL,HPS,HRW,HNM,HMT,HBR⟩:=hrel;have hj0:(0:Int)≤(j:Int):=by omega
    by_cases hlt:j<ms.length-(p+1)
    ·have hd2:p+1+j<ms.length:=by omega
     obtain⟨q,hq⟩:∃q,L[p+1+j]?=some q:=⟨_,gE (by rw[HLL.out];omega)⟩
     obtain⟨qp,hqp⟩:∃x,(psOf ms)[p+1+j]?=some x:=⟨_,gE (by simpa using hd2)⟩
     obtain⟨hMk,hnext⟩:=swap_next (k:=p+1+j) (by simpa using hp2) (by omega) hqp HPS.out
     have hqq:q.p=qp:=by rw[ps_at hq]at hMk;injection hMk
     subst hqq;have hcell:∀i u,(encM q)[i]?=some u→wr.cell? ⟨g,(p+1+j)*7+i,none⟩=some u:=fun i u hu=>by
      have h1:=flat_get encM_len L (p+1+j) q hq i u hu;have h2:=HRW.out.cellAt ((p+1+j)*7+i) (by have:=(lG h1);rw[flat_len encM_len,HLL.out]at this;exact this)
      rw[h2,h1]
     have hmq:=HNM.out q (mG ⟨_,hq⟩) wr (Kept2.of_below (bR wr));have hix:=fun W (hb:BW wr W)=>index120_any q.A q.p.on wr.heap.size q.cap nm W (lT hmq.le hmq.cm) (hmq.on.below hb (lr _))
     have hdec:=strI_dec q.p.on nm;have HQ:=Lq hq;have HQP:=Lq hqp;have HNX:=Lq hnext;have HMQ:=Lq hmq;have HMK:=Lq hMk;obtain⟨⟨yn,yk,yf,yl,yon,yw,yz⟩,yA,yc⟩:=q;have y0:wr.cell? ⟨g,(p+1+j)*7,none⟩=some (.string yn):=hcell 0 _ rfl;obtain⟨y1,y2,y3,y4,y5,y6⟩:_∧_∧_∧_∧_∧_:=⟨hcell 1 _ rfl,hcell 2 _ rfl,hcell 3 _ rfl,hcell 4 _ rfl,hcell 5 _ rfl,hcell 6 _ rfl⟩;simp only at y1 y2 y3 y4 y5 y6 hix hdec;obtain⟨rk,hrk⟩:=ex (strI yon nm);rw[hrk]at hix hdec;have HIX:=Lq hix;have HRK:=Lq hrk;obtain⟨bs,hbs⟩:=ex (standsB (HuP.mk yn yk yf yl yon yw yz) nm);have hdec2:decide (0≤rk)=bs:=by rw[hdec,←hbs];rfl
     have HBS:=Lq hbs;have x2:=(HCB.out _ HBR.out).c 2;obtain⟨x0,x3,x4,x5,x6,x7,x8,x9⟩:=HS.out _ HBR.out;have xl:=(HCB.out _ HBR.out).lt;have hpj:(p:Int)+1+(j:Int)<(ms.length:Int):=by omega
     clear hcell hix hrk hbs hdec hq hqp hnext hmq hMk;cases bs
     ·have hr3:rk<0:=by simpa using hdec2
      clear hdec2;go_wp2_with fail;go_quiet ((go_at_call 123;exact Calls.quiet_of_same (HIX.out _ (belowN (bR _) _))))
      clear y0 y1 y2 y3 y4 y5 y6 x0 x2 x3 x4 x5 x6 x7 x8 x9 xl;go_wp2_with fail;go_roundw
      case rel =>
       refine⟨j+1,L,by omega,by go_num,HLL,Lq ?_,Lq ?_,Lq (fun m hm=>(HNM.out m hm).kept (Kept2.of_below (belowN (bR _) _))),Lq (fun d q h1 h2 h3 h4=>?_),Lq (belowN HBR.out _)⟩
       ·rw[←Nat.add_assoc,HNX.out,swapO_id HBS.out];exact(set_same HMK.out).symm
       ·exact own_below HRW.out (belowN (bR _) _)
       ·rcases Nat.lt_or_ge d (p+1+j)with h5 | h5
        ·exact HMT.out d q h1 h5 h3 h4
        ·obtain rfl:d=p+1+j:=by omega
         rw[HQP.out]at h3;injection h3 with h3
         subst h3;rw[HBS.out]at h4;cases h4
      case measure=>simp[intOf];omega
     ·have hr3:¬rk<0:=by have:=of_decide_eq_true hdec2;omega
      clear hdec2;obtain⟨bm,hbm⟩:=ex (meetB (HuP.mk yn yk yf yl yon yw yz) (HuP.mk name kind first last on wlo whi));have HM46:Hid (∀W,Cs 164 #[.agg #[.string yn,iv yk,iv yf,iv yl,.slice yA yon.length yc,iv yw,iv yz],.agg #[.string name,iv kind,iv first,iv last,.slice Ao on.length ca,iv wlo,iv whi]] W (Rt W (.bool bm))):=Lq fun W=>hbm▸meet146_any ⟨⟨yn,yk,yf,yl,yon,yw,yz⟩,yA,yc⟩ ⟨(HuP.mk name kind first last on wlo whi),Ao,ca⟩ W
      have HBM:=Lq hbm;have HSY:Hid (∀W,BW wr W→W.cell? ⟨g,(p+1+j)*7,none⟩=some (.string yn)∧W.cell? ⟨g,(p+1+j)*7+1,none⟩=some (iv yk)∧W.cell? ⟨g,(p+1+j)*7+2,none⟩=some (iv yf)∧W.cell? ⟨g,(p+1+j)*7+3,none⟩=some (iv yl)∧W.cell? ⟨g,(p+1+j)*7+4,none⟩=some (.slice yA yon.length yc)∧W.cell? ⟨g,(p+1+j)*7+5,none⟩=some (iv yw)∧W.cell? ⟨g,(p+1+j)*7+6,none⟩=some (iv yz)∧W.cell? ⟨gc,3,none⟩=some (.string name)∧W.cell? ⟨gc,4,none⟩=some (iv kind)∧W.cell? ⟨gc,5,none⟩=some (iv first)∧W.cell? ⟨gc,6,none⟩=some (iv last)∧W.cell? ⟨gc,7,none⟩=some (.slice Ao on.length ca)∧W.cell? ⟨gc,8,none⟩=some (iv wlo)∧W.cell? ⟨gc,9,none⟩=some (iv whi)):=Lq fun W hb=>⟨kC hb y0,kC hb y1,kC hb y2,kC hb y3,kC hb y4,kC hb y5,kC hb y6,kC hb x3,kC hb x4,kC hb x5,kC hb x6,kC hb x7,kC hb x8,kC hb x9⟩
      clear hbm;go_wp2_with fail;go_quiet ((go_at_call 123;exact Calls.quiet_of_same (HIX.out _ (belowN (bR _) _))))
      go_wp2_with fail;go_region_held3 (fun W=>W.cell? ⟨g,(p+1+j)*7,none⟩=some (.string yn)∧W.cell? ⟨g,(p+1+j)*7+1,none⟩=some (iv yk)∧W.cell? ⟨g,(p+1+j)*7+2,none⟩=some (iv yf)∧W.cell? ⟨g,(p+1+j)*7+3,none⟩=some (iv yl)∧W.cell? ⟨g,(p+1+j)*7+4,none⟩=some (.slice yA yon.length yc)∧W.cell? ⟨g,(p+1+j)*7+5,none⟩=some (iv yw)∧W.cell? ⟨g,(p+1+j)*7+6,none⟩=some (iv yz)∧W.cell? ⟨gc,3,none⟩=some (.string name)∧W.cell? ⟨gc,4,none⟩=some (iv kind)∧W.cell? ⟨gc,5,none⟩=some (iv first)∧W.cell? ⟨gc,6,none⟩=some (iv last)∧W.cell? ⟨gc,7,none⟩=some (.slice Ao on.length ca)∧W.cell? ⟨gc,8,none⟩=some (iv wlo)∧W.cell? ⟨gc,9,none⟩=some (iv whi)) (first | exact HSY.out _ (bT (belowN (bR _) _) (u0 hb5)) | exact HSY.out _ (bT (belowN (bR _) _) (belowDr (bR _)))) ((go_at_call 164;((with_reducible refine(HM46.out _).mono ?_);rintro e w8 ⟨rfl,hb5⟩)))
      have HB8:=Lq (bT (belowN (bR wr) _) (u0 hb5));clear hb5;cases bm
      ·go_wp2_with fail;go_ret
       exact mutNo (by decide) (chgP_swap_no rfl (fun h=>by
        have h1:=h.2.2 (HuP.mk yn yk yf yl yon yw yz) (by simp only[HcM.c,HI.out];exact mG ⟨j,by rw[List.getElem?_drop];exact HQP.out⟩) HBS.out
        simp only[HcM.c]at h1;rw[HBM.out]at h1;cases h1)) (bT HB1.out (bT HBR.out HB8.out))
      ·have hM8:=(HMQ.out.below HB8.out (lr _));have HCN:Hid (∀W,BW w8 W→Cs 98 #[.slice yA yon.length yc] W (OwnSs yon W)):=Lq fun W hb=>clone95_any yA yon w8.heap.size yc W hb.size ((hM8.more HB8.out.size).on.below hb (lr _)) HMQ.out.sz
       obtain⟨y0,y1,y2,y3,y4,y5,y6,x3,x4,x5,x6,x7,x8,x9⟩:=HSY.out _ HB8.out;clear hM8;go_wp2_with fail;refine(HCN.out _ (bR _)).mono ?_;rintro e w9 ⟨v9,rfl,ho9,hb9⟩;have HB9:=Lq (bT HB8.out hb9);have hdupq:(yon.map ByteArray.toList).Nodup:=(HOK.out.part _ _ HQP.out).dup;obtain⟨rn,hrn,hrl,hsw⟩:=swap_set (n:=name) hdupq HRK.out (Int.not_lt.2 hr3);subst hrn;have HSW:=Lq hsw;obtain⟨k,c9,rfl,hk8,hk9,hkc⟩:=own_form ho9 (by omega)
       have hwk:wr.heap.size≤k:=lT HB8.out.size hk8;have hgr:g<wr.heap.size:=by have h1:=(HRW.out.lt g rfl).2;exact h1
       have hgk:g<k:=by omega
       have hc9m:c9≤9223372036854775807:=by
        obtain⟨A9,c99,h1,_,_,h3⟩:=own_str ho9;injection h1 with _ _ h1
        subst h1;simp only[maxLen]at h3;omega
       have hr9:=own_below HRW.out HB9.out;rw[←HLL.out]at hr9;have hf9:=hr9.frozenAt ((p+1+j)*7+4);have hr10:=setRow4 hr9 HQ.out (yon.set rn name) (some ⟨k,0,none⟩) c9 (by simp)
       have hg9:g<w9.heap.size:=lz hgr HB9.out.size;obtain⟨W10,hW10⟩:=ex (w9.setCell ⟨g,(p+1+j)*7+4,none⟩ (.slice (some ⟨k,0,none⟩) yon.length c9));have o10:OnlyAt w9 W10 g:=by rw[←hW10];exact OnlyAt.of_set (bR w9) g _ _
       simp only[hW10]at hr10;rw[HLL.out]at hr10;have hk10:=own_only ho9 o10 (by have:=HB8.out.size;omega)
       have hkf:=hk10.frozenAt rn;obtain⟨xk,hxk⟩:∃x,W10.cell? ⟨k,rn,none⟩=some x:=⟨_,(hk10.cellAt rn (by omega)).trans (gE (by rw[List.length_map];exact hrl))⟩
       have hk11:=(hk10.stored rn (.string name)).1;have hs10:=o10.size;have hy10:W10.cell? ⟨g,(p+1+j)*7+4,none⟩=some (.slice (some ⟨k,0,none⟩) yon.length c9):=by
        have h1:=flat_get encM_len _ (p+1+j) _ (List.getElem?_set_self (l:=L) (a:=⟨HuP.mk yn yk yf yl (yon.set rn name) yw yz,some ⟨k,0,none⟩,c9⟩) (by rw[HLL.out];omega)) 4 _ rfl
        have h2:=hr10.cellAt ((p+1+j)*7+4) (by have:=(lG h1);rw[flat_len encM_len,List.length_set,HLL.out]at this;exact this)
        rw[h2,h1];simp
       have hx10:=kC hb9 x3;have hy9:=kC hb9 y4;have hfk:W10.frozen? ⟨k,rn,none⟩=false:=hkf;have hgc1:gc<g:=by omega
       have hxx:W10.cell? ⟨gc,3,none⟩=some (.string name):=by rw[←hW10];exact(World.cell?_setCell_far w9 ⟨g,(p+1+j)*7+4,none⟩ ⟨gc,3,none⟩ _ (Nat.ne_of_gt hgc1)).trans hx10
       have hk10l:k<W10.heap.size:=by omega
       go_wp2_with fail
       go_region
       go_wp2_with fail;go_roundw
       case measure=>simp[intOf];omega
       case rel =>
        have o11:OnlyAt W10 (W10.setCell ⟨k,rn,none⟩ (.string name)).drew k:=(OnlyAt.of_set (bR W10) k rn _).drew;have hb11:=own_below hk11 (belowDr (bR _));have hkp:Kept2 wr (W10.setCell ⟨k,rn,none⟩ (.string name)).drew g gs:=⟨o11.os.trans (o10.os.trans HB9.out.os),o11.tape.trans (o10.tape.trans HB9.out.tape),o11.output.trans (o10.output.trans HB9.out.output),lT HB9.out.size (lT o10.size o11.size),fun i hi ha hb=>(o11.block i (lz hi (lT HB9.out.size o10.size)) (by omega)).trans ((o10.block i (lz hi HB9.out.size) ha).trans (HB9.out.block i hi))⟩
        refine⟨j+1,L.set (p+1+j) ⟨HuP.mk yn yk yf yl (yon.set rn name) yw yz,some ⟨k,0,none⟩,c9⟩,by omega,by go_num,Lq (by rw[List.length_set];exact HLL.out),Lq ?_,Lq ?_,Lq ?_,Lq (fun d q h1 h2 h3 h4=>?_),Lq ?_⟩
        ·rw[←Nat.add_assoc,HNX.out,psOf_set];simp only[swapO,HSW.out]
        ·exact o11.own hr10 (by simp only[Value.ownBlock];intro h;injection h with h;omega)
        ·intro m hm;rcases List.mem_or_eq_of_mem_set hm with hm | rfl
         ·exact(HNM.out m hm).kept hkp
         ·refine NmOk.of_own ⟨?_,HMQ.out.nm, ?_, ?_⟩ ?_
          ·have h1:=own_zero hb11;rw[←List.map_set]at h1
           simpa only[List.length_set]using h1
          ·intro o ho;rcases List.mem_or_eq_of_mem_set ho with ho | rfl
           ·exact HMQ.out.ons o ho
           ·exact HM.out.nm
          ·have:=HMQ.out.sz
           simpa only[List.length_set]using this
          ·intro i hi;simp only[Value.ownBlock]at hi;injection hi with hi
           omega
        ·rcases Nat.lt_or_ge d (p+1+j)with h5 | h5
         ·exact HMT.out d q h1 h5 h3 h4
         ·obtain rfl:d=p+1+j:=by omega
          rw[HQP.out]at h3;injection h3 with h3
          subst h3;exact HBM.out
        ·exact o11.below (o10.below (bT HBR.out HB9.out) HK9.out) (by have:=HBR.out.size;omega)
    ·obtain rfl:j=ms.length-(p+1):=by omega
     have bg:=HG.out.keep HBR.out;have b0:=bg.c 0;have b1:=bg.frozen 0;have b2:=bg.lt;clear bg;go_wp2_with fail;go_ret
     have hset:OnlyAt wr (wr.setCell ⟨gs,0,none⟩ (.slice (some ⟨g,0,none⟩) ms.length c6)) gs:=OnlyAt.of_set (bR wr) gs 0 _;refine⟨0,rfl,oT (OnlyAt.of_below (bT HB1.out HBR.out) gs) hset,fun h=>absurd rfl h,fun _=>?_⟩
     obtain⟨A8,c8,e8,hkp⟩:=Keeps.own (g:=gs) (own_only HRW.out hset (by have:=HB5.out.size;omega)) HLL.out.symm (by have:=HB5.out.size;omega) (fun W ho m hm=>HNM.out m hm W ((Kept2.of_only2 hset).trans (Kept2.of_only2 ho)))
     refine⟨L,A8,c8, ?_, ?_,hkp⟩
     ·have hb2:=(HG.out.keep HBR.out).set_ 0 (.slice (some ⟨g,0,none⟩) ms.length c6);simp only[List.setIfInBounds_toArray,List.set_cons_zero]at hb2;rw[←e8];exact hb2
     ·have hn1:(psOf ms).length=ms.length:=by simp
      have hps:psOf L=swapP (psOf ms) p nm (HuP.mk name kind first last on wlo whi):=by rw[HPS.out,show p+1+(ms.length-(p+1))=ms.length by omega,List.drop_eq_nil_of_le (by omega),List.append_nil,List.take_of_length_le (by rw[swapP_len (by omega)];omega)]
      have hh:=chgP_swap_ok (l:=psOf ms) (c:=HcM.c ⟨3,day,nm,⟨(HuP.mk name kind first last on wlo whi),Ao,ca⟩⟩) rfl HH.out (by simp only[HcM.c,HI.out];exact HPO.out) (by simp only[HcM.c,HI.out];intro q hq hs;obtain⟨d,hd⟩:=List.mem_iff_getElem?.1 hq;rw[List.getElem?_drop]at hd;exact HMT.out (p+1+d) q (by omega) (by have:=(lG hd);omega) hd hs)
      rw[hh,hps];simp only[HcM.c,HI.out]
  ·have hr1:(r5 != 0)=true:=by simpa using hr50
   go_wp2_with fail;go_ret
   exact mutNo hr50 (chgP_swap_no rfl (fun h=>hr50 (HR.out.2 (by have:=h.2.1;simp only[HcM.c,HI.out]at this;exact this)))) (bT HB1.out HB5.out)
end
section
variable{day last r:Int}{cs:List HcM}{l ms now:List HuM}{c cap gn gs k n:Nat}{A X:Option Addr}{w:World}
structure Two(gs gn:Nat)(w W:World):Prop where
 os:W.os=w.os
 tape:W.tape=w.tape
 output:W.output=w.output
 size:w.heap.size≤W.heap.size
 block:∀k,k<w.heap.size→k≠gs→k≠gn→W.heap[k]?=w.heap[k]?
section
variable {gs gn:Nat} {w W X:World}
theorem Two.trans(h:Two gs gn w W)(h':Two gs gn W X):Two gs gn w X :=
 ⟨h'.os.trans h.os,h'.tape.trans h.tape,h'.output.trans h.output,lT h.size h'.size,fun k hk a b=>(h'.block k (lz hk h.size) a b).trans (h.block k hk a b)⟩
theorem Two.of_below(h:BW w W):Two gs gn w W:=⟨h.os,h.tape,h.output,h.size,fun k hk _ _=>h.block k hk⟩
theorem Two.of_only(h:OnlyAt w W gs):Two gs gn w W:=⟨h.os,h.tape,h.output,h.size,fun k hk a _=>h.block k hk a⟩
theorem Two.of_only2(h:OnlyAt w W gn):Two gs gn w W:=⟨h.os,h.tape,h.output,h.size,fun k hk _ b=>h.block k hk b⟩
theorem Two.below{a:World}(h:Two gs gn w W)(hb:BW a w)(h1:a.heap.size≤gs)(h2:a.heap.size≤gn):BW a W :=
 ⟨h.os.trans hb.os,h.tape.trans hb.tape,h.output.trans hb.output,lT hb.size h.size,fun k hk=>(h.block k (lz hk hb.size) (by omega) (by omega)).trans (hb.block k hk)⟩
theorem Two.blk{g:Nat}{t:TypeId}{cs:Array Value}(h:Two gs gn w W)(hb:Blk w g t cs)(h1:g≠gs)(h2:g≠gn):Blk W g t cs:=hb.same (h.block g hb.lt h1 h2)
end
def Hold(gs gn:Nat)(w:World)(A:Option Addr)(cap:Nat)(ms:List HuM):Prop:=∀W,Two gs gn w W→SlM W W.heap.size A cap ms
theorem Hold.on{W:World}(h:Hold gs gn w A cap ms)(ho:Two gs gn w W):Hold gs gn W A cap ms:=fun X hx=>h X (ho.trans hx)
theorem Hold.keeps(h:Hold gs gn w A cap ms):Keeps w gs A cap ms:=fun X hx=>h X (Two.of_only hx)
theorem Hold.sl(h:Hold gs gn w A cap ms):SlM w w.heap.size A cap ms:=h w (Two.of_below (bR w))
theorem str_ne{b o:Nat}{t:TypeId}{s:ByteArray}(hb:Blk w gn t #[.slice X n c])(hc:w.cell? ⟨b,o,none⟩=some (.string s)):b≠gn:=by
 intro e;subst e;rw[hb.cell o]at hc;rcases Nat.eq_zero_or_pos o with rfl | h0
 ·injection hc with hc;cases hc
 ·rw[Array.getElem?_eq_none (by show 1≤o;omega)]at hc;cases hc
theorem Hold.of_keeps{t:TypeId}(h:Keeps w gs A cap ms)(hb:Blk w gn t #[.slice X n c])(hne:gn≠gs):Hold gs gn w A cap ms:=by
 intro W hW;obtain⟨Y,hY⟩:=ex ({ W with heap:=W.heap.setIfInBounds gn (.cells #[.slice X n c] t (0,0)) }:World)
 have hl:gn<W.heap.size:=lz hb.lt hW.size;have hg:∀k,k≠gn→Y.heap[k]?=W.heap[k]?:=by intro k hk;rw[←hY];exact Array.getElem?_setIfInBounds_ne (fun e=>hk e.symm)
 have hbY:Blk Y gn t #[.slice X n c]:=by unfold Blk;rw[←hY];exact Array.getElem?_setIfInBounds_self_of_lt hl
 have hsz:Y.heap.size=W.heap.size:=by rw[←hY];exact Array.size_setIfInBounds
 have ho:OnlyAt w Y gs:=⟨by rw[←hY];exact hW.os,by rw[←hY];exact hW.tape,by rw[←hY];exact hW.output,by rw[hsz];exact hW.size,fun k hk a=>by
  by_cases e:k=gn
  ·subst e;rw[show Y.heap[k]?=_ from hbY,show w.heap[k]?=_ from hb]
  ·rw[hg k e];exact hW.block k hk a e⟩
 have hs:=h Y ho;have hcell:∀(b o:Nat) v,b≠gn→cA Y b o v→cA W b o v:=fun b o v hn hc=>(World.cell?_of_block (w:=Y) (a:=⟨b,o,none⟩) (hg b hn).symm).trans hc
 refine⟨⟨fun i x hx=>?_,fun m hm=>?_⟩,hs.le,hs.max,hs.nil0,fun a ha=>hsz▸hs.off a ha⟩
 ·obtain⟨b,off,e,hlt,hc⟩:=hs.rd.rd i x hx;have hn:b≠gn:=str_ne hbY (hc 0 (.string x.p.name) rfl);exact⟨b,off,e,hsz▸hlt,fun j u hu=>hcell _ _ _ hn (hc j u hu)⟩
 ·have hm2:=hs.rd.ok m hm;refine⟨fun i x hx=>?_,hm2.le,hm2.cm,hm2.nm,hm2.ons,hm2.sz⟩
  obtain⟨b,off,e,hlt,hc⟩:=hm2.on i x hx;exact⟨b,off,e,hsz▸hlt,hcell _ _ _ (str_ne hbY hc) hc⟩
def BuildPost(ms:List HuM)(cs:List HcM)(day:Int)(w:World)(e:Ending)(w':World):Prop:=∃(p i r:Int) (A:Option Addr) (n c:Nat),e=.returned (.tuple #[.agg #[.slice A n c],iv p,iv i,iv r])∧BW w w'∧(r=0↔PlanOk (psOf ms) (csOf cs))∧(r=0→∃out:List HuM,n=out.length∧psOf out=shipOn day (psOf ms) (csOf cs)∧SlM w' w'.heap.size A c out)
def RunOn(day:Int)(ms:List HuM)(cs:List HcM)(k:Nat)(l:List HuM)(last:Int)(now:List HuM):Prop:=ShipOk (psOf l)∧runC day (psOf ms) ((csOf cs).take k)=some (psOf l,last,psOf now)
theorem RunOn.start(h:ShipOk (psOf ms)):RunOn day ms cs 0 ms 0 ms:=⟨h,rfl⟩
theorem RunOn.next{l':List HuM}{c:HcM}(h:RunOn day ms cs k l last now)(hc:cs[k]?=some c)(hd:inB last 40000 c.day=true)(hg:chgP (psOf l) c.c=some (psOf l')):RunOn day ms cs (k+1) l' c.day (if c.day≤day then l' else now):=by
 obtain⟨h1,h2⟩:=h;refine⟨chg_ok h1 hg, ?_⟩;rw[runC_snoc (cs_at hc),h2];unfold stepC;simp only;rw[if_pos (show inB last 40000 c.c.day=true from hd),hg]
 by_cases hd:c.day≤day
 ·simp[HcM.c,hd]
 ·simp[HcM.c,hd]
theorem RunOn.stop{c:HcM}(h:RunOn day ms cs k l last now)(hc:cs[k]?=some c)(hn:inB last 40000 c.day=false∨chgP (psOf l) c.c=none):¬PlanOk (psOf ms) (csOf cs):=by
 intro hp;obtain⟨h1,h2⟩:=h;have h3:runC day (psOf ms) ((csOf cs).take (k+1))=none:=by
  rw[runC_snoc (cs_at hc),h2];unfold stepC;simp only;rcases hn with hn | hn
  ·rw[if_neg (show ¬inB last 40000 c.c.day=true by show ¬inB last 40000 c.day=true;rw[hn];simp)]
  ·rw[hn];split<;>rfl
 have:=hp.run;rw[runC_some 0 day,runC_stuck h3]at this;cases this
theorem RunOn.done(h:RunOn day ms cs cs.length l last now)(hs:ShipOk (psOf ms))(hl:cs.length≤8):PlanOk (psOf ms) (csOf cs)∧psOf now=shipOn day (psOf ms) (csOf cs):=by
 obtain⟨_,h2⟩:=h;rw[List.take_of_length_le (by simp)]at h2
 refine⟨⟨hs,by simpa using hl,by rw[runC_some 0 day,h2];rfl⟩, ?_⟩
 unfold shipOn;rw[h2]
theorem shipOk_of(h12:ms.length≤12)(h:∀j m,j<ms.length→ms[j]?=some m→PartOk m.p ((psOf ms).take j) ((psOf ms).take j)):ShipOk (psOf ms):=⟨by simpa using h12,fun i p hp=>by
 rw[List.getElem?_map]at hp;cases hm:ms[i]? with
 | none=>rw[hm]at hp;cases hp
 | some m =>
  rw[hm]at hp;injection hp with hp
  subst hp;exact h i m (lG hm) hm⟩
def Cd(ms:List HuM)(cs:List HcM)(r:Int):Prop:=∀c,cs=[c]→ShipOk (psOf ms)→c.what=2→c.day=0→bareP c.part.p=true→hasP (psOf ms) c.name=true→r=9
theorem cd_one{x c:HcM}(hc:cs[k]?=some x)(e:cs=[c]):k=0∧x=c:=by
 subst e
 match k,hc with
 | 0,hc=>injection hc with hc;exact⟨rfl,hc.symm⟩
theorem cd_what{x:HcM}(hc:cs[k]?=some x)(h:x.what≠2):Cd ms cs r:=fun _ e _ h2 _ _ _=>absurd ((cd_one hc e).2▸h2) h
theorem cd_bare{x:HcM}(hc:cs[k]?=some x)(h:bareB x.c=false)(h2:x.what=2):Cd ms cs r:=fun c e _ _ _ hb _=>by
 obtain⟨_,rfl⟩:=cd_one hc e;have:bareB x.c=bareP x.part.p:=by unfold bareB;simp[HcM.c,h2]
 rw[this,hb]at h;cases h
theorem cd_run(h:RunOn day ms cs 0 l last now):last=0∧psOf l=psOf ms:=by
 have h2:=h.2;simp only[List.take_zero]at h2;injection h2 with h2
 injection h2 with h3 h4
 injection h4 with h4 h5
 exact⟨h4.symm,h3.symm⟩
theorem cd_day{x:HcM}(h:RunOn day ms cs k l last now)(hc:cs[k]?=some x)(hd:inB last 40000 x.day=false):Cd ms cs r:=fun c e _ _ h0 _ _=>by obtain⟨rfl,rfl⟩:=cd_one hc e;rw[(cd_run h).1,h0]at hd;cases hd
theorem cd_take{x:HcM}(h:RunOn day ms cs k l last now)(hc:cs[k]?=some x)(h9:x.what=2→hasP (psOf l) x.name=true→r=9):Cd ms cs r:=fun c e _ h2 _ _ hh=>by obtain⟨rfl,rfl⟩:=cd_one hc e;exact h9 h2 (by rw[(cd_run h).2];exact hh)
end
section
variable{b:Nat}{w:World}
theorem partMade(wr:World)(yn:ByteArray)(yk yf yl yw yz:Int)(yA:Option Addr)(yc n:Nat):∃Wa W2,wr.alloc (.cells #[.string ⟨#[]⟩,iv 0,iv 0,iv 0,.slice none 0 0,iv 0,iv 0] 43)=Wa∧(((((((Wa.setCell ⟨wr.heap.size,0,none⟩ (.string yn)).setCell ⟨wr.heap.size,1,none⟩ (iv yk)).setCell ⟨wr.heap.size,2,none⟩ (iv yf)).setCell ⟨wr.heap.size,3,none⟩ (iv yl)).setCell ⟨wr.heap.size,4,none⟩ (.slice yA n yc)).setCell ⟨wr.heap.size,5,none⟩ (iv yw)).setCell ⟨wr.heap.size,6,none⟩ (iv yz))=W2∧BW wr W2∧Blk Wa wr.heap.size 43 #[.string ⟨#[]⟩,iv 0,iv 0,iv 0,.slice none 0 0,iv 0,iv 0]∧BW wr Wa∧Blk W2 wr.heap.size 43 #[.string yn,iv yk,iv yf,iv yl,.slice yA n yc,iv yw,iv yz]:=by
 refine⟨_,_,rfl,rfl, ?_,Blk.new wr 43 _,bA (bR _) _, ?_⟩
 ·exact((((((((OnlyAt.of_below (bR _) wr.heap.size).set 0 _).set 1 _).set 2 _).set 3 _).set 4 _).set 5 _).set 6 _).below (bA (bR _) _) (lr _)
 ·exact seven _ _ _ _ _ _ _ (Blk.new wr 43 _)
theorem ten{g:Nat}{t:TypeId}{a0 a1 a2 a3 a4 a5 a6 a7 a8 a9:Value}(b0 b1 b2 b3 b4 b5 b6 b7 b8 b9:Value)(h:Blk w g t #[a0,a1,a2,a3,a4,a5,a6,a7,a8,a9]):Blk ((((((((((w.setCell ⟨g,0,none⟩ (b0)).setCell ⟨g,1,none⟩ (b1)).setCell ⟨g,2,none⟩ (b2)).setCell ⟨g,3,none⟩ (b3)).setCell ⟨g,4,none⟩ (b4)).setCell ⟨g,5,none⟩ (b5)).setCell ⟨g,6,none⟩ (b6)).setCell ⟨g,7,none⟩ (b7)).setCell ⟨g,8,none⟩ (b8)).setCell ⟨g,9,none⟩ (b9)) g t #[b0,b1,b2,b3,b4,b5,b6,b7,b8,b9]:=by
 have h:=(((((((((h.set_ 0 b0).set_ 1 b1).set_ 2 b2).set_ 3 b3).set_ 4 b4).set_ 5 b5).set_ 6 b6).set_ 7 b7).set_ 8 b8).set_ 9 b9
 simpa using h
theorem chgMade(wr:World)(t:TypeId)(wh dy:Int)(nm yn:ByteArray)(yk yf yl yw yz:Int)(yA:Option Addr)(yc n:Nat):∃Wa W2,wr.alloc (.cells #[iv 0,iv 0,.string ⟨#[]⟩,.string ⟨#[]⟩,iv 0,iv 0,iv 0,.slice none 0 0,iv 0,iv 0] t)=Wa∧((((((((((Wa.setCell ⟨wr.heap.size,0,none⟩ (iv wh)).setCell ⟨wr.heap.size,1,none⟩ (iv dy)).setCell ⟨wr.heap.size,2,none⟩ (.string nm)).setCell ⟨wr.heap.size,3,none⟩ (.string yn)).setCell ⟨wr.heap.size,4,none⟩ (iv yk)).setCell ⟨wr.heap.size,5,none⟩ (iv yf)).setCell ⟨wr.heap.size,6,none⟩ (iv yl)).setCell ⟨wr.heap.size,7,none⟩ (.slice yA n yc)).setCell ⟨wr.heap.size,8,none⟩ (iv yw)).setCell ⟨wr.heap.size,9,none⟩ (iv yz))=W2∧BW wr W2∧Blk Wa wr.heap.size t #[iv 0,iv 0,.string ⟨#[]⟩,.string ⟨#[]⟩,iv 0,iv 0,iv 0,.slice none 0 0,iv 0,iv 0]∧BW wr Wa∧Blk W2 wr.heap.size t #[iv wh,iv dy,.string nm,.string yn,iv yk,iv yf,iv yl,.slice yA n yc,iv yw,iv yz]:=by
 refine⟨_,_,rfl,rfl, ?_,Blk.new wr t _,bA (bR _) _, ?_⟩
 ·exact(((((((((((OnlyAt.of_below (bR _) wr.heap.size).set 0 _).set 1 _).set 2 _).set 3 _).set 4 _).set 5 _).set 6 _).set 7 _).set 8 _).set 9 _).below (bA (bR _) _) (lr _)
 ·exact ten _ _ _ _ _ _ _ _ _ _ (Blk.new wr t _)
theorem twoMade(wr:World)(t:TypeId)(a0 a1 b0 b1:Value):∃Wa W2,wr.alloc (.cells #[a0,a1] t)=Wa∧((Wa.setCell ⟨wr.heap.size,0,none⟩ b0).setCell ⟨wr.heap.size,1,none⟩ b1)=W2∧BW wr W2∧Blk Wa wr.heap.size t #[a0,a1]∧BW wr Wa∧Blk W2 wr.heap.size t #[b0,b1]:=by
 refine⟨_,_,rfl,rfl, ?_,Blk.new wr t _,bA (bR _) _, ?_⟩
 ·exact(((OnlyAt.of_below (bR _) wr.heap.size).set 0 _).set 1 _).below (bA (bR _) _) (lr _)
 ·have h:=((Blk.new wr t #[a0,a1]).set_ 0 b0).set_ 1 b1
  simpa using h
theorem VerbsAt.same{W:World}(h:VerbsAt w b)(hb:W.heap[b]?=w.heap[b]?):VerbsAt W b:=by obtain⟨es,clock,h1,h2⟩:=h;exact⟨es,clock,hb.trans h1,h2⟩
theorem VerbsAt.lt(h:VerbsAt w b):b<w.heap.size:=World.ownsMap.lt h
def BuildPost2(A0:Option Addr)(cap0:Nat)(ms:List HuM)(cs:List HcM)(day:Int)(w:World)(e:Ending)(w':World):Prop:=∃(p i r:Int) (A:Option Addr) (n c:Nat),e=.returned (.tuple #[.agg #[.slice A n c],iv p,iv i,iv r])∧BW w w'∧(r=0↔PlanOk (psOf ms) (csOf cs))∧(r=0→∃out:List HuM,n=out.length∧psOf out=shipOn day (psOf ms) (csOf cs)∧SlM w' w'.heap.size A c out)∧(r=0→cs.length=0→A=A0∧n=ms.length∧c=cap0)∧(r≠0→Cd ms cs r)
theorem buildNo{A0:Option Addr}{cap0:Nat}{ms:List HuM}{cs:List HcM}{day:Int}{w':World}{p i r:Int}{A:Option Addr}{n c:Nat}(h0:r≠0)(hP:¬PlanOk (psOf ms) (csOf cs))(hC:Cd ms cs r)(hb:BW w w'):BuildPost2 A0 cap0 ms cs day w (.returned (.tuple #[.agg #[.slice A n c],iv p,iv i,iv r])) w':=⟨p,i,r,A,n,c,rfl,hb,⟨fun h=>absurd h h0,fun h=>absurd h hP⟩,fun h=>absurd h h0,fun h=>absurd h h0,fun _=>hC⟩
theorem chgP_none{l:List HuP}{c:HuC}(h1:c.what≠1)(h2:c.what≠2)(h3:c.what≠3):chgP l c=none:=by unfold chgP;rw[if_neg h1,if_neg h2,if_neg h3]
theorem chgP_bare{l:List HuP}{c:HuC}(h:bareB c=false):chgP l c=none:=by
 cases hc:chgP l c with
 | none=>rfl
 | some x=>rw[bare_of_chg hc]at h;cases h
theorem build94_all(A C:Option Addr)(ms:List HuM)(cs:List HcM)(B cap capc:Nat)(day:Int)(w:World)(hB:B≤w.heap.size)(H:SlM w B A cap ms)(HC:SlC w B C capc cs)(HW:∀c∈cs,Lit.wf (.int .i64 c.what)=true) :
  Cs 97 #[.agg #[.slice A ms.length cap,.slice C cs.length capc],iv day] w (BuildPost2 A cap ms cs day w):=by
 obtain⟨W1,hW1⟩:=ex (w.alloc (.cells #[.slice A ms.length cap,.slice C cs.length capc] 27));obtain⟨W2,hW2⟩:=ex (W1.alloc (.cells #[.slice none 0 0] 102));obtain⟨W3,hW3⟩:=ex (W2.alloc (.cells #[.slice none 0 0] 102));obtain⟨gp,hgp⟩:=ex w.heap.size;obtain⟨gn,hgn⟩:=ex W1.heap.size;obtain⟨gs,hgs⟩:=ex W2.heap.size;obtain⟨W4,hW4⟩:=ex (W3.setCell ⟨gs,0,none⟩ (.slice A ms.length cap));have z1:W1.heap.size=w.heap.size+1:=by rw[←hW1];simp
 have z2:W2.heap.size=W1.heap.size+1:=by rw[←hW2];simp
 have b1:BW w W1:=by rw[←hW1];exact bA (bR w) _
 have b2:BW W1 W2:=by rw[←hW2];exact bA (bR _) _
 have b3:BW W2 W3:=by rw[←hW3];exact bA (bR _) _
 have q1:Blk W1 gp 27 #[.slice A ms.length cap,.slice C cs.length capc]:=by rw[←hW1,←hgp];exact Blk.new w 27 _
 have q2:Blk W2 gn 102 #[.slice none 0 0]:=by rw[←hW2,←hgn];exact Blk.new W1 102 _
 have q3:Blk W3 gs 102 #[.slice none 0 0]:=by rw[←hW3,←hgs];exact Blk.new W2 102 _
 have q2p:=q1.keep b2;have q3p:=q2p.keep b3;have q3n:=q2.keep b3;have o4:OnlyAt W3 W4 gs:=by rw[←hW4];exact OnlyAt.of_set (bR W3) gs 0 _
 have q4:Blk W4 gs 102 #[.slice A ms.length cap]:=by
  rw[←hW4];have h:=q3.set_ 0 (.slice A ms.length cap)
  simpa using h
 have q4p:=q3p.same (o4.block gp q3p.lt (by omega))
 have q4n:=q3n.same (o4.block gn q3n.lt (by omega))
 have b4:BW w W4:=o4.below (bT (bT b1 b2) b3) (by omega)
 have HGP:Hid (w.heap.size≤gp∧gp<gn∧gn<gs):=Lq (by omega)
 have HGN:Hid (w.heap.size≤gn):=Lq (by omega)
 have hBW:B≤W4.heap.size:=lT hB b4.size;have HH:=Lq (H.below b4 hB);have HH0:=Lq H;have HCC:=Lq HC;have HB4:=Lq b4;have HQS:=Lq q4;have HQP:=Lq q4p;have HQN:=Lq q4n;have HWF:=Lq HW;have hle:=H.le;have hmax:=H.max;have hm9:ms.length≤9223372036854775807:=by have:=H.le;have:=H.max;simp only[maxLen]at this;omega
 have hc9:cs.length≤9223372036854775807:=by have:=HC.le;have:=HC.max;simp only[maxLen]at this;omega
 have a0:=q2p.c 0;have a1:=q3.c 0;have a2:=q3.frozen 0;have a3:=q3.lt;have x0:=q4p.c 0;have x1:=q4p.c 1;have s0:=q4.c 0;have n0:=q4n.c 0;have nf:=q4n.frozen 0;have nl:=q4n.lt;clear H HC HW b1 b2 b3 q1 q2 q3 q2p q3p q3n o4 q4 q4p q4n b4 z1 z2;go_enter Tryz.func97,Tryz.ntmps97
 by_cases h12:12<ms.length
 ·have h12b:(ms.length:Int)>12:=by omega
  obtain⟨W9,hW9⟩:=ex (W4.setCell ⟨gn,0,none⟩ (.slice none 0 0));have d0:W9.cell? ⟨gn,0,none⟩=some (.slice none 0 0):=by rw[←hW9];exact((HQN.out).set_ 0 _).cell 0
  have HB9:Hid (BW w W9):=by rw[←hW9];exact Lq ((OnlyAt.of_set (bR W4) gn 0 _).below (HB4.out) HGN.out)
  have n0:=(HQN.out).c 0;have nf:=(HQN.out).frozen 0;have nl:=(HQN.out).lt;go_wp2_with fail;exact bodyPost_ret (v:=.tuple #[.agg #[.slice none 0 0],iv 1,iv 0,iv 3]) (by simp[results,Tryz.results97,go_sem,d0]) rfl (buildNo (by decide) (fun h=>by have:=h.ship.len;simp at this;omega) (fun _ _ h _ _ _ _=>by have:=h.len;simp at this;omega) HB9.out)
 ·go_wp2_with fail;clear hW1 hW2 hW3 hW4 a0 a1 a2 a3 hgp hgn hgs;go_loopw [30] (fun i wr=>∃k:Nat,k≤ms.length∧i=iv k∧Hid (∀j m,j<k→ms[j]?=some m→PartOk m.p ((psOf ms).take j) ((psOf ms).take j))∧Hid (BW W4 wr)) (fun i _=>ms.length-(intOf i).toNat)
  case atStart=>exact⟨0,by omega,rfl,Lq (fun j m h=>by omega),Lq (bR _)⟩
  case round =>
   clear x0 x1 s0 n0 nf nl;obtain⟨k,hk,rfl,HP,HBR⟩:=hrel;have hk0:(0:Int)≤(k:Int):=by omega
   by_cases hlt:k<ms.length
   ·obtain⟨y,hy⟩:=gX (l:=ms) (i:=k) hlt;obtain⟨b,off,hA,hbB,hMy,c0,c1,c2,c3,c4,c5,c6⟩:=(HH.out.rd.below HBR.out hBW).at hy;have HYI:=Lq hy;have HCK:Hid (∀W,BW wr W→Cs 136 #[pT gs 0,mV y,iv k,.slice none 0 0] W (ErrIff (PartOk y.p ((psOf ms).take k) ((psOf ms).take k)) W)):=Lq fun W hb=>by
     have hb2:=bT HBR.out hb;have h:=check126_any A none ms [] y W.heap.size cap 0 gs k W (lr _) ((HH.out.rd.below hb2 hBW).more (lT hBW hb2.size)) MsRd.nil ((hMy.below hb (lT hBW HBR.out.size)).more (lT hBW hb2.size)) hle hmax (Nat.zero_le _) hk ((HQS.out.keep hb2).c 0);rw[show psOf []=[]from rfl,List.append_nil]at h
     exact h
    obtain⟨⟨yn,yk,yf,yl,yon,yw,yz⟩,yA,yc⟩:=y;subst hA;simp only at c0 c1 c2 c3 c4 c5 c6 HCK;obtain⟨Wa,W5,hWa,hW5,hb5,hqa,hba,hq5⟩:=partMade wr yn yk yf yl yw yz yA yc yon.length;obtain⟨g2,hg2⟩:=ex wr.heap.size;rw[hg2]at hW5 hqa hq5;have HB5:=Lq hb5;have HQ5:=Lq hq5;obtain⟨f0,f1,f2,f3,f4,f5,f6⟩:=hqa.f7;obtain⟨e0,e1,e2,e3,e4,e5,e6⟩:=hqa.c7;have el:=hqa.lt;obtain⟨d0,d1,d2,d3,d4,d5,d6⟩:=hq5.c7;clear hMy hy hb5 hqa hba hq5;go_wp2_with fail;refine(HCK.out _ HB5.out).mono ?_;rintro e w6 ⟨r,rfl,hr,hb6⟩;have HB6:=Lq (bT HBR.out (bT HB5.out hb6));have HR:=Lq hr;clear hb6 hr c0 c1 c2 c3 c4 c5 c6 d0 d1 d2 d3 d4 d5 d6 e0 e1 e2 e3 e4 e5 e6 f0 f1 f2 f3 f4 f5 f6 el hWa hW5 hg2;by_cases hr0:r=0
    ·subst hr0;have HR0:=Lq (HR.out.1 rfl);clear HR;go_wp2_with fail;go_roundw
     case rel =>
      refine⟨k+1,by omega,by go_num,Lq (fun j m hj hm=>?_),HB6⟩
      rcases Nat.lt_or_ge j k with hjk | hjk
      ·exact HP.out j m hjk hm
      ·obtain rfl:j=k:=by omega
       rw[HYI.out]at hm;injection hm with hm
       subst hm;exact HR0.out
     case measure=>simp[intOf];omega
    ·have hr1:(r != 0)=true:=by simpa using hr0
     obtain⟨W9,hW9⟩:=ex (w6.setCell ⟨gn,0,none⟩ (.slice none 0 0));have d0:W9.cell? ⟨gn,0,none⟩=some (.slice none 0 0):=by rw[←hW9];exact((HQN.out.keep HB6.out).set_ 0 _).cell 0
     have HB9:Hid (BW w W9):=by rw[←hW9];exact Lq ((OnlyAt.of_set (bR w6) gn 0 _).below (bT HB4.out HB6.out) HGN.out)
     have n0:=(HQN.out.keep HB6.out).c 0;have nf:=(HQN.out.keep HB6.out).frozen 0;have nl:=(HQN.out.keep HB6.out).lt;go_wp2_with fail;exact bodyPost_ret (v:=.tuple #[.agg #[.slice none 0 0],iv 1,iv k,iv r]) (by simp[results,Tryz.results97,go_sem,d0]) rfl (buildNo hr0 (fun h=>hr0 (HR.out.2 (h.ship.part k _ (ps_at HYI.out)))) (fun _ _ h _ _ _ _=>absurd (HR.out.2 (h.part k _ (ps_at HYI.out))) hr0) HB9.out)
   ·have HSH:=Lq (shipOk_of (Nat.le_of_not_lt h12) (fun j m hj hm=>HP.out j m (by omega) hm))
    clear HP;have x0:=(HQP.out.keep HBR.out).c 0;have x1:=(HQP.out.keep HBR.out).c 1;by_cases h8:8<cs.length
    ·have h8b:(cs.length:Int)>8:=by omega
     obtain⟨W9,hW9⟩:=ex (wr.setCell ⟨gn,0,none⟩ (.slice none 0 0));have d0:W9.cell? ⟨gn,0,none⟩=some (.slice none 0 0):=by rw[←hW9];exact((HQN.out.keep HBR.out).set_ 0 _).cell 0
     have HB9:Hid (BW w W9):=by rw[←hW9];exact Lq ((OnlyAt.of_set (bR wr) gn 0 _).below (bT HB4.out HBR.out) HGN.out)
     have n0:=(HQN.out.keep HBR.out).c 0;have nf:=(HQN.out.keep HBR.out).frozen 0;have nl:=(HQN.out.keep HBR.out).lt;go_wp2_with fail;exact bodyPost_ret (v:=.tuple #[.agg #[.slice none 0 0],iv 2,iv 0,iv 3]) (by simp[results,Tryz.results97,go_sem,d0]) rfl (buildNo (by decide) (fun h=>by have:=h.len;simp at this;omega) (fun _ h _ _ _ _ _=>by have:=congrArg List.length h;simp at this;omega) HB9.out)
    ·go_wp2_with fail;refine(verbs127_any wr).mono ?_;rintro e w7 ⟨bv,rfl,hV,hb7,hbv⟩;have HB7:=Lq (bT HBR.out hb7);have HV:=Lq hV;have HBV:Hid (gs<bv):=Lq (lz (lz HQS.out.lt HBR.out.size) hbv);have s7:=(HQS.out.keep HB7.out).c 0;have n7:=(HQN.out.keep HB7.out).c 0;have nf7:=(HQN.out.keep HB7.out).frozen 0;have nl7:=(HQN.out.keep HB7.out).lt;obtain⟨W8,hW8⟩:=ex (w7.setCell ⟨gn,0,none⟩ (.slice A ms.length cap));have o8:OnlyAt w7 W8 gn:=by rw[←hW8];exact OnlyAt.of_set (bR w7) gn 0 _
     have qn8:Blk W8 gn 102 #[.slice A ms.length cap]:=by
      rw[←hW8];have h:=(HQN.out.keep HB7.out).set_ 0 (.slice A ms.length cap)
      simpa using h
     have qs8:Blk W8 gs 102 #[.slice A ms.length cap]:=(HQS.out.keep HB7.out).same (o8.block gs (HQS.out.keep HB7.out).lt (by have:=HGP.out;omega))
     have qp8:Blk W8 gp 27 #[.slice A ms.length cap,.slice C cs.length capc]:=(HQP.out.keep HB7.out).same (o8.block gp (HQP.out.keep HB7.out).lt (by have:=HGP.out;omega))
     have HV8:Hid (VerbsAt W8 bv):=Lq (HV.out.same (o8.block bv HV.out.lt (by have:=HGP.out;have:=HBV.out;omega)))
     have HBW8:Hid (BW w W8):=Lq (o8.below (bT HB4.out HB7.out) HGN.out);have HO8:Hid (Hold gs gn W8 A cap ms):=Lq (fun W hW=>by
      have hall:BW w W:=hW.below HBW8.out (by have:=HGP.out;omega) HGN.out
      exact(HH0.out.below hall hB).more (lT hB hall.size))
     have y1:=qp8.c 1;have HQ8:Hid (Blk W8 gs 102 #[.slice A ms.length cap]∧Blk W8 gn 102 #[.slice A ms.length cap]∧Blk W8 gp 27 #[.slice A ms.length cap,.slice C cs.length capc]):=Lq ⟨qs8,qn8,qp8⟩;clear hV hb7 hbv o8 qn8 qs8 qp8 x0 x1;go_wp2_with fail;clear y1 s7 n7 nf7 nl7 hW8;go_loopw [11,54] (fun la i wr=>∃(k:Nat) (l:List HuM) (Al:Option Addr) (cl:Nat) (last:Int) (now:List HuM) (An:Option Addr) (cn:Nat),k≤cs.length∧i=iv k∧la=iv last∧Hid (Blk wr gs 102 #[.slice Al l.length cl])∧Hid (Blk wr gn 102 #[.slice An now.length cn])∧Hid (Hold gs gn wr Al cl l)∧Hid (Hold gs gn wr An cn now)∧Hid (RunOn day ms cs k l last now)∧Hid (Two gs gn W8 wr)∧Hid (k=0→An=A∧now.length=ms.length∧cn=cap)) (fun _ i _=>cs.length-(intOf i).toNat)
     case atStart=>exact⟨0,ms,A,cap,0,ms,A,cap,Nat.zero_le _,rfl,rfl,Lq HQ8.out.1,Lq HQ8.out.2.1,HO8,HO8,Lq (RunOn.start HSH.out),Lq (Two.of_below (bR _)),Lq (fun _=>⟨rfl,rfl,rfl⟩)⟩
     case round =>
      clear HBR HB7 HV;obtain⟨k,l,Al,cl,last,now,An,cn,hk,rfl,rfl,HS,HN,HL,HO,HRT,HTW,HSM⟩:=hrel;have hk0:(0:Int)≤(k:Int):=by omega
      have HBR:Hid (BW w wr):=Lq (HTW.out.below HBW8.out (by have:=HGP.out;omega) HGN.out)
      by_cases hlt:k<cs.length
      ·obtain⟨c,hc⟩:=gX (l:=cs) (i:=k) hlt;obtain⟨b,off,hA,hbB,hMc,hcn,c0,c1,c2,c3,c4,c5,c6,c7,c8,c9⟩:=(HCC.out.below HBR.out hB).at hc;have HCI:=Lq hc;have HWC:=Lq (HWF.out c (mG ⟨k,hc⟩));have HMC:=Lq hMc;have HVR:Hid (VerbsAt wr bv):=Lq (HV8.out.same (HTW.out.block bv HV8.out.lt (by have:=HBV.out;omega) (by have:=HGP.out;have:=HBV.out;omega)))
       clear hc hMc hcn;obtain⟨wh,dy,nm,⟨⟨yn,yk,yf,yl,yon,yw,yz⟩,yA,yc⟩⟩:=c;subst hA;simp only at c0 c1 c2 c3 c4 c5 c6 c7 c8 c9 HWC HMC;obtain⟨Wa,W10,hWa,hW10,hb10,hqa,hba,hq10⟩:=chgMade wr 58 wh dy nm yn yk yf yl yw yz yA yc yon.length;obtain⟨g14,hg14⟩:=ex wr.heap.size;rw[hg14]at hW10 hqa hq10;have HG14:Hid (gs<g14):=by rw[←hg14];exact Lq HS.out.lt
       have HB10:=Lq hb10;have HC14:Hid (∀W,Two gs gn W10 W→cA W g14 0 (iv wh)∧cA W g14 1 (iv dy)∧cA W g14 2 (.string nm)∧cA W g14 3 (.string yn)∧cA W g14 4 (iv yk)∧cA W g14 5 (iv yf)∧cA W g14 6 (iv yl)∧cA W g14 7 (.slice yA yon.length yc)∧cA W g14 8 (iv yw)∧cA W g14 9 (iv yz)):=Lq fun W hb=>have k:=hb.blk hq10 (by have:=HG14.out;omega) (by have:=HG14.out;have:=HGP.out;omega);⟨k.c 0,k.c 1,k.c 2,k.c 3,k.c 4,k.c 5,k.c 6,k.c 7,k.c 8,k.c 9⟩
       obtain⟨f0,f1,f2,f3,f4,f5,f6,f7,f8,f9⟩:=hqa.f10;obtain⟨e0,e1,e2,e3,e4,e5,e6,e7,e8,e9⟩:=hqa.c10;have el:=hqa.lt;obtain⟨d0,d1,d2,d3,d4,d5,d6,d7,d8,d9⟩:=HC14.out _ (Two.of_below (bR _));have HVX:=Lq (HVR.out.same (hb10.block bv HVR.out.lt));obtain⟨bI,hbI⟩:=ex (inB last 40000 dy);have HI:Hid (∀g W,W.cell? ⟨g,0,none⟩=some (iv dy)→Cs 59 #[iv last,iv 40000,.slice (some ⟨g,0,none⟩) 1 1] W (Rt W (.bool (!bI)))):=Lq fun g W hc=>hbI▸out_oneH last 40000 dy g W hc (lt_of_cell hc)
       have KI:=Lq hbI;have dl:=hq10.lt;clear hb10 hqa hba hq10 hbI;by_cases w1:wh=1
       ·subst w1;have hlk:(Instr.lookup 223 (.map (some bv)) (iv 1) true).run Tryz.prog W10=.ok (.tuple #[.agg #[(.func (.func 165) #[] #[]),(.func (.func 166) #[] #[])],.bool true]) W10:=look_yes HVX.out HWC.out verb_one;obtain⟨Wb,W11,hWb,hW11,hb11,hqb,hbb,hq11⟩:=twoMade W10 227 .nilFunc .nilFunc (.func (.func 165) #[] #[]) (.func (.func 166) #[] #[]);obtain⟨g15,hg15⟩:=ex W10.heap.size;rw[hg15]at hW11 hqb hq11;have HG15:Hid (g14<g15):=by rw[←hg15];exact Lq dl
        have HB11:=Lq hb11;have HC15:Hid (∀W,Two gs gn W11 W→cA W g15 0 (.func (.func 165) #[] #[])∧cA W g15 1 (.func (.func 166) #[] #[])):=Lq fun W hb=>have k:=hb.blk hq11 (by have:=HG14.out;have:=HG15.out;omega) (by have:=HG14.out;have:=HG15.out;have:=HGP.out;omega);⟨k.c 0,k.c 1⟩
        have bf0:=hqb.frozen 0;have bf1:=hqb.frozen 1;have be0:=hqb.c 0;have be1:=hqb.c 1;have bl:=hqb.lt;obtain⟨bd0,bd1⟩:=HC15.out _ (Two.of_below (bR _));obtain⟨d0',d1',d2',d3',d4',d5',d6',d7',d8',d9'⟩:=HC14.out _ (Two.of_below hb11);clear hb11 hqb hbb hq11;go_wp2_with fail;refine(HI.out _ _ (by go_simp)).mono ?_
        rintro e w12 ⟨rfl,hb⟩;have HB12:=Lq (bT (bA (bR W11) _) hb);clear hb hlk c0 c1 c2 c3 c4 c5 c6 c7 c8 c9 d0 d1 d2 d3 d4 d5 d6 d7 d8 d9 e0 e1 e2 e3 e4 e5 e6 e7 e8 e9 f0 f1 f2 f3 f4 f5 f6 f7 f8 f9 el bf0 bf1 be0 be1 bl bd0 bd1 d0' d1' d2' d3' d4' d5' d6' d7' d8' d9' hWa hW10 hg14 hg15 hWb hW11 dl;have HBX:=Lq (bT HB10.out (bT HB11.out HB12.out));cases bI with
        | false =>
         obtain⟨W9,hW9⟩:=ex (w12.setCell ⟨gn,0,none⟩ (.slice An now.length cn));have d0:W9.cell? ⟨gn,0,none⟩=some (.slice An now.length cn):=by rw[←hW9];exact((HN.out.keep HBX.out).set_ 0 _).cell 0
         have HB9:Hid (BW w W9):=by rw[←hW9];exact Lq ((OnlyAt.of_set (bR w12) gn 0 _).below (bT HBR.out HBX.out) HGN.out)
         have n0:=(HN.out.keep HBX.out).c 0;have nf:=(HN.out.keep HBX.out).frozen 0;have nl:=(HN.out.keep HBX.out).lt;go_wp2_with fail;exact bodyPost_ret (v:=.tuple #[.agg #[.slice An now.length cn],iv 2,iv k,iv 7]) (by simp[results,Tryz.results97,go_sem,d0]) rfl (buildNo (by decide) (HRT.out.stop HCI.out (.inl KI.out)) (cd_day HRT.out HCI.out KI.out) HB9.out)
        | true =>
         obtain⟨bd0,bd1⟩:=HC15.out _ (Two.of_below HB12.out);obtain⟨d0,d1,d2,d3,d4,d5,d6,d7,d8,d9⟩:=HC14.out _ (Two.of_below (bT HB11.out HB12.out));obtain⟨bE,hbE⟩:=ex (nm.toList.isEmpty);have HE:Hid (∀W,Cs 165 #[cV (HcM.mk 1 dy nm ⟨⟨yn,yk,yf,yl,yon,yw,yz⟩,yA,yc⟩)] W (Rt W (.bool bE))):=Lq fun W=>hbE▸verb147_any (HcM.mk 1 dy nm ⟨⟨yn,yk,yf,yl,yon,yw,yz⟩,yA,yc⟩) W
         have KE:=Lq hbE;clear hbE;go_wp2_with fail;refine(HE.out _).mono ?_;rintro e w13 ⟨rfl,hb⟩;have HB13:=Lq (bT HB12.out hb);have HBY:=Lq (bT HBX.out hb);clear hb bd0 bd1 d0 d1 d2 d3 d4 d5 d6 d7 d8 d9;cases bE with
         | false =>
          obtain⟨W9,hW9⟩:=ex (w13.setCell ⟨gn,0,none⟩ (.slice An now.length cn));have d0:W9.cell? ⟨gn,0,none⟩=some (.slice An now.length cn):=by rw[←hW9];exact((HN.out.keep HBY.out).set_ 0 _).cell 0
          have HB9:Hid (BW w W9):=by rw[←hW9];exact Lq ((OnlyAt.of_set (bR w13) gn 0 _).below (bT HBR.out HBY.out) HGN.out)
          have n0:=(HN.out.keep HBY.out).c 0;have nf:=(HN.out.keep HBY.out).frozen 0;have nl:=(HN.out.keep HBY.out).lt;go_wp2_with fail;exact bodyPost_ret (v:=.tuple #[.agg #[.slice An now.length cn],iv 2,iv k,iv 6]) (by simp[results,Tryz.results97,go_sem,d0]) rfl (buildNo (by decide) (HRT.out.stop HCI.out (.inr (chgP_bare (by unfold bareB;simp only[HcM.c];rw[KE.out];simp)))) (cd_what HCI.out (show(1:Int)≠2 by decide)) HB9.out)
         | true =>
          obtain⟨bd0,bd1⟩:=HC15.out _ (Two.of_below HB13.out);obtain⟨d0,d1,d2,d3,d4,d5,d6,d7,d8,d9⟩:=HC14.out _ (Two.of_below (bT HB11.out HB13.out));have HMU:Hid (Cs 166 #[pT gs 0,cV (HcM.mk 1 dy nm ⟨⟨yn,yk,yf,yl,yon,yw,yz⟩,yA,yc⟩)] w13 (MutPost l (HcM.mk 1 dy nm ⟨⟨yn,yk,yf,yl,yon,yw,yz⟩,yA,yc⟩) gs w13)):=Lq (add148_any Al l (HcM.mk 1 dy nm ⟨⟨yn,yk,yf,yl,yon,yw,yz⟩,yA,yc⟩) B cl gs w13 (by have:=HGP.out;omega) (HS.out.keep HBY.out) ((HL.out.on (Two.of_below HBY.out)).keeps) ((HMC.out.below HBY.out (lT hB HBR.out.size))) HRT.out.1 rfl KE.out)
          go_wp2_with fail;refine HMU.out.mono ?_;rintro e w14 ⟨r,rfl,ho,hno,hyes⟩;have HO14:=Lq ho;have HNO:=Lq hno;have HYES:=Lq hyes;have HT14:Hid (Two gs gn wr w14):=Lq ((Two.of_below HBY.out).trans (Two.of_only ho));have HNN:Hid (Blk w14 gn 102 #[.slice An now.length cn]):=Lq ((HN.out.keep HBY.out).same (ho.block gn (HN.out.keep HBY.out).lt (by have:=HGP.out;omega)))
          have HBZ:Hid (BW w w14):=Lq (HT14.out.below HBR.out (by have:=HGP.out;omega) HGN.out)
          clear ho hno hyes bd0 bd1 d0 d1 d2 d3 d4 d5 d6 d7 d8 d9;by_cases hr0:r=0
          ·subst hr0;obtain⟨out,Ao,co,hqo,hch,hkp⟩:=HYES.out rfl;have HQO:=Lq hqo;have HCH:=Lq hch;have HKP:=Lq (Hold.of_keeps hkp HNN.out (by have:=HGP.out;omega))
           clear hqo hch hkp HYES HNO;obtain⟨d0,d1,d2,d3,d4,d5,d6,d7,d8,d9⟩:=HC14.out w14 ((Two.of_below (bT HB11.out HB13.out)).trans (Two.of_only HO14.out));have s0:=HQO.out.c 0;have n0:=HNN.out.c 0;have nf:=HNN.out.frozen 0;have nl:=HNN.out.lt;have HNX:=Lq (HRT.out.next HCI.out KI.out HCH.out);by_cases hdy:dy≤day
           ·have hif:(if(HcM.day (HcM.mk 1 dy nm ⟨⟨yn,yk,yf,yl,yon,yw,yz⟩,yA,yc⟩))≤day then out else now)=out:=if_pos hdy
            have HIF:=Lq hif;clear hif;go_wp2_with fail;go_roundw
            case measure=>simp[intOf];omega
            case rel =>
             have o15:OnlyAt w14 (w14.setCell ⟨gn,0,none⟩ (.slice Ao out.length co)) gn:=OnlyAt.of_set (bR w14) gn 0 _;refine⟨k+1,out,Ao,co,dy,out,Ao,co,by omega,by go_num,rfl,Lq ?_,Lq ?_,Lq (HKP.out.on (Two.of_only2 o15)),Lq (HKP.out.on (Two.of_only2 o15)),Lq (by have h:=HNX.out;rw[HIF.out]at h;exact h),Lq (HTW.out.trans (HT14.out.trans (Two.of_only2 o15))),Lq (fun h=>(by omega))⟩
             ·exact HQO.out.same (o15.block gs HQO.out.lt (by have:=HGP.out;omega))
             ·have h:=HNN.out.set_ 0 (.slice Ao out.length co)
              simpa using h
           ·have hif:(if(HcM.day (HcM.mk 1 dy nm ⟨⟨yn,yk,yf,yl,yon,yw,yz⟩,yA,yc⟩))≤day then out else now)=now:=if_neg hdy
            have HIF:=Lq hif;clear hif;go_wp2_with fail;go_roundw
            case measure=>simp[intOf];omega
            case rel=>exact⟨k+1,out,Ao,co,dy,now,An,cn,by omega,by go_num,rfl,HQO,HNN,HKP,Lq (HO.out.on HT14.out),Lq (by have h:=HNX.out;rw[HIF.out]at h;exact h),Lq (HTW.out.trans HT14.out),Lq (fun h=>(by omega))⟩
          ·have hr1:(r != 0)=true:=by simpa using hr0
           obtain⟨W9,hW9⟩:=ex (w14.setCell ⟨gn,0,none⟩ (.slice An now.length cn));have d0:W9.cell? ⟨gn,0,none⟩=some (.slice An now.length cn):=by rw[←hW9];exact((HNN.out).set_ 0 _).cell 0
           have HB9:Hid (BW w W9):=by rw[←hW9];exact Lq ((OnlyAt.of_set (bR w14) gn 0 _).below (HBZ.out) HGN.out)
           have n0:=(HNN.out).c 0;have nf:=(HNN.out).frozen 0;have nl:=(HNN.out).lt;go_wp2_with fail;exact bodyPost_ret (v:=.tuple #[.agg #[.slice An now.length cn],iv 2,iv k,iv r]) (by simp[results,Tryz.results97,go_sem,d0]) rfl (buildNo hr0 (HRT.out.stop HCI.out (.inr (HNO.out hr0).1)) (cd_take HRT.out HCI.out (by first | exact(HNO.out hr0).2 | exact fun _=>(HNO.out hr0).2 trivial)) HB9.out)
       ·by_cases w2:wh=2
        ·subst w2;have hlk:(Instr.lookup 223 (.map (some bv)) (iv 2) true).run Tryz.prog W10=.ok (.tuple #[.agg #[(.func (.func 167) #[] #[]),(.func (.func 168) #[] #[])],.bool true]) W10:=look_yes HVX.out HWC.out verb_two;obtain⟨Wb,W11,hWb,hW11,hb11,hqb,hbb,hq11⟩:=twoMade W10 227 .nilFunc .nilFunc (.func (.func 167) #[] #[]) (.func (.func 168) #[] #[]);obtain⟨g15,hg15⟩:=ex W10.heap.size;rw[hg15]at hW11 hqb hq11;have HG15:Hid (g14<g15):=by rw[←hg15];exact Lq dl
         have HB11:=Lq hb11;have HC15:Hid (∀W,Two gs gn W11 W→cA W g15 0 (.func (.func 167) #[] #[])∧cA W g15 1 (.func (.func 168) #[] #[])):=Lq fun W hb=>have k:=hb.blk hq11 (by have:=HG14.out;have:=HG15.out;omega) (by have:=HG14.out;have:=HG15.out;have:=HGP.out;omega);⟨k.c 0,k.c 1⟩
         have bf0:=hqb.frozen 0;have bf1:=hqb.frozen 1;have be0:=hqb.c 0;have be1:=hqb.c 1;have bl:=hqb.lt;obtain⟨bd0,bd1⟩:=HC15.out _ (Two.of_below (bR _));obtain⟨d0',d1',d2',d3',d4',d5',d6',d7',d8',d9'⟩:=HC14.out _ (Two.of_below hb11);clear hb11 hqb hbb hq11;go_wp2_with fail;refine(HI.out _ _ (by go_simp)).mono ?_
         rintro e w12 ⟨rfl,hb⟩;have HB12:=Lq (bT (bA (bR W11) _) hb);clear hb hlk c0 c1 c2 c3 c4 c5 c6 c7 c8 c9 d0 d1 d2 d3 d4 d5 d6 d7 d8 d9 e0 e1 e2 e3 e4 e5 e6 e7 e8 e9 f0 f1 f2 f3 f4 f5 f6 f7 f8 f9 el bf0 bf1 be0 be1 bl bd0 bd1 d0' d1' d2' d3' d4' d5' d6' d7' d8' d9' hWa hW10 hg14 hg15 hWb hW11 dl;have HBX:=Lq (bT HB10.out (bT HB11.out HB12.out));cases bI with
         | false =>
          obtain⟨W9,hW9⟩:=ex (w12.setCell ⟨gn,0,none⟩ (.slice An now.length cn));have d0:W9.cell? ⟨gn,0,none⟩=some (.slice An now.length cn):=by rw[←hW9];exact((HN.out.keep HBX.out).set_ 0 _).cell 0
          have HB9:Hid (BW w W9):=by rw[←hW9];exact Lq ((OnlyAt.of_set (bR w12) gn 0 _).below (bT HBR.out HBX.out) HGN.out)
          have n0:=(HN.out.keep HBX.out).c 0;have nf:=(HN.out.keep HBX.out).frozen 0;have nl:=(HN.out.keep HBX.out).lt;go_wp2_with fail;exact bodyPost_ret (v:=.tuple #[.agg #[.slice An now.length cn],iv 2,iv k,iv 7]) (by simp[results,Tryz.results97,go_sem,d0]) rfl (buildNo (by decide) (HRT.out.stop HCI.out (.inl KI.out)) (cd_day HRT.out HCI.out KI.out) HB9.out)
         | true =>
          obtain⟨bd0,bd1⟩:=HC15.out _ (Two.of_below HB12.out);obtain⟨d0,d1,d2,d3,d4,d5,d6,d7,d8,d9⟩:=HC14.out _ (Two.of_below (bT HB11.out HB12.out));obtain⟨bE,hbE⟩:=ex (bareP ⟨yn,yk,yf,yl,yon,yw,yz⟩);have HE:Hid (∀W,Cs 167 #[cV (HcM.mk 2 dy nm ⟨⟨yn,yk,yf,yl,yon,yw,yz⟩,yA,yc⟩)] W (Rt W (.bool bE))):=Lq fun W=>hbE▸verb149_any (HcM.mk 2 dy nm ⟨⟨yn,yk,yf,yl,yon,yw,yz⟩,yA,yc⟩) W (lT HMC.out.le HMC.out.cm)
          have KE:=Lq hbE;clear hbE;go_wp2_with fail;refine(HE.out _).mono ?_;rintro e w13 ⟨rfl,hb⟩;have HB13:=Lq (bT HB12.out hb);have HBY:=Lq (bT HBX.out hb);clear hb bd0 bd1 d0 d1 d2 d3 d4 d5 d6 d7 d8 d9;cases bE with
          | false =>
           obtain⟨W9,hW9⟩:=ex (w13.setCell ⟨gn,0,none⟩ (.slice An now.length cn));have d0:W9.cell? ⟨gn,0,none⟩=some (.slice An now.length cn):=by rw[←hW9];exact((HN.out.keep HBY.out).set_ 0 _).cell 0
           have HB9:Hid (BW w W9):=by rw[←hW9];exact Lq ((OnlyAt.of_set (bR w13) gn 0 _).below (bT HBR.out HBY.out) HGN.out)
           have n0:=(HN.out.keep HBY.out).c 0;have nf:=(HN.out.keep HBY.out).frozen 0;have nl:=(HN.out.keep HBY.out).lt;go_wp2_with fail;exact bodyPost_ret (v:=.tuple #[.agg #[.slice An now.length cn],iv 2,iv k,iv 6]) (by simp[results,Tryz.results97,go_sem,d0]) rfl (buildNo (by decide) (HRT.out.stop HCI.out (.inr (chgP_bare (by unfold bareB;simp only[HcM.c];rw[KE.out];simp)))) (cd_bare HCI.out (by unfold bareB;simp only[HcM.c];rw[KE.out];simp) rfl) HB9.out)
          | true =>
           obtain⟨bd0,bd1⟩:=HC15.out _ (Two.of_below HB13.out);obtain⟨d0,d1,d2,d3,d4,d5,d6,d7,d8,d9⟩:=HC14.out _ (Two.of_below (bT HB11.out HB13.out));have HMU:Hid (Cs 168 #[pT gs 0,cV (HcM.mk 2 dy nm ⟨⟨yn,yk,yf,yl,yon,yw,yz⟩,yA,yc⟩)] w13 (MutPost l (HcM.mk 2 dy nm ⟨⟨yn,yk,yf,yl,yon,yw,yz⟩,yA,yc⟩) gs w13)):=Lq (take150_any Al l (HcM.mk 2 dy nm ⟨⟨yn,yk,yf,yl,yon,yw,yz⟩,yA,yc⟩) cl gs w13 (HS.out.keep HBY.out) ((HL.out.on (Two.of_below HBY.out)).keeps) HRT.out.1 rfl KE.out);go_wp2_with fail;refine HMU.out.mono ?_;rintro e w14 ⟨r,rfl,ho,hno,hyes⟩;have HO14:=Lq ho;have HNO:=Lq hno;have HYES:=Lq hyes;have HT14:Hid (Two gs gn wr w14):=Lq ((Two.of_below HBY.out).trans (Two.of_only ho));have HNN:Hid (Blk w14 gn 102 #[.slice An now.length cn]):=Lq ((HN.out.keep HBY.out).same (ho.block gn (HN.out.keep HBY.out).lt (by have:=HGP.out;omega)))
           have HBZ:Hid (BW w w14):=Lq (HT14.out.below HBR.out (by have:=HGP.out;omega) HGN.out)
           clear ho hno hyes bd0 bd1 d0 d1 d2 d3 d4 d5 d6 d7 d8 d9;by_cases hr0:r=0
           ·subst hr0;obtain⟨out,Ao,co,hqo,hch,hkp⟩:=HYES.out rfl;have HQO:=Lq hqo;have HCH:=Lq hch;have HKP:=Lq (Hold.of_keeps hkp HNN.out (by have:=HGP.out;omega))
            clear hqo hch hkp HYES HNO;obtain⟨d0,d1,d2,d3,d4,d5,d6,d7,d8,d9⟩:=HC14.out w14 ((Two.of_below (bT HB11.out HB13.out)).trans (Two.of_only HO14.out));have s0:=HQO.out.c 0;have n0:=HNN.out.c 0;have nf:=HNN.out.frozen 0;have nl:=HNN.out.lt;have HNX:=Lq (HRT.out.next HCI.out KI.out HCH.out);by_cases hdy:dy≤day
            ·have hif:(if(HcM.day (HcM.mk 2 dy nm ⟨⟨yn,yk,yf,yl,yon,yw,yz⟩,yA,yc⟩))≤day then out else now)=out:=if_pos hdy
             have HIF:=Lq hif;clear hif;go_wp2_with fail;go_roundw
             case measure=>simp[intOf];omega
             case rel =>
              have o15:OnlyAt w14 (w14.setCell ⟨gn,0,none⟩ (.slice Ao out.length co)) gn:=OnlyAt.of_set (bR w14) gn 0 _;refine⟨k+1,out,Ao,co,dy,out,Ao,co,by omega,by go_num,rfl,Lq ?_,Lq ?_,Lq (HKP.out.on (Two.of_only2 o15)),Lq (HKP.out.on (Two.of_only2 o15)),Lq (by have h:=HNX.out;rw[HIF.out]at h;exact h),Lq (HTW.out.trans (HT14.out.trans (Two.of_only2 o15))),Lq (fun h=>(by omega))⟩
              ·exact HQO.out.same (o15.block gs HQO.out.lt (by have:=HGP.out;omega))
              ·have h:=HNN.out.set_ 0 (.slice Ao out.length co)
               simpa using h
            ·have hif:(if(HcM.day (HcM.mk 2 dy nm ⟨⟨yn,yk,yf,yl,yon,yw,yz⟩,yA,yc⟩))≤day then out else now)=now:=if_neg hdy
             have HIF:=Lq hif;clear hif;go_wp2_with fail;go_roundw
             case measure=>simp[intOf];omega
             case rel=>exact⟨k+1,out,Ao,co,dy,now,An,cn,by omega,by go_num,rfl,HQO,HNN,HKP,Lq (HO.out.on HT14.out),Lq (by have h:=HNX.out;rw[HIF.out]at h;exact h),Lq (HTW.out.trans HT14.out),Lq (fun h=>(by omega))⟩
           ·have hr1:(r != 0)=true:=by simpa using hr0
            obtain⟨W9,hW9⟩:=ex (w14.setCell ⟨gn,0,none⟩ (.slice An now.length cn));have d0:W9.cell? ⟨gn,0,none⟩=some (.slice An now.length cn):=by rw[←hW9];exact((HNN.out).set_ 0 _).cell 0
            have HB9:Hid (BW w W9):=by rw[←hW9];exact Lq ((OnlyAt.of_set (bR w14) gn 0 _).below (HBZ.out) HGN.out)
            have n0:=(HNN.out).c 0;have nf:=(HNN.out).frozen 0;have nl:=(HNN.out).lt;go_wp2_with fail;exact bodyPost_ret (v:=.tuple #[.agg #[.slice An now.length cn],iv 2,iv k,iv r]) (by simp[results,Tryz.results97,go_sem,d0]) rfl (buildNo hr0 (HRT.out.stop HCI.out (.inr (HNO.out hr0).1)) (cd_take HRT.out HCI.out (by first | exact(HNO.out hr0).2 | exact fun _=>(HNO.out hr0).2 trivial)) HB9.out)
        ·by_cases w3:wh=3
         ·subst w3;have hlk:(Instr.lookup 223 (.map (some bv)) (iv 3) true).run Tryz.prog W10=.ok (.tuple #[.agg #[(.func (.func 169) #[] #[]),(.func (.func 170) #[] #[])],.bool true]) W10:=look_yes HVX.out HWC.out verb_three;obtain⟨Wb,W11,hWb,hW11,hb11,hqb,hbb,hq11⟩:=twoMade W10 227 .nilFunc .nilFunc (.func (.func 169) #[] #[]) (.func (.func 170) #[] #[]);obtain⟨g15,hg15⟩:=ex W10.heap.size;rw[hg15]at hW11 hqb hq11;have HG15:Hid (g14<g15):=by rw[←hg15];exact Lq dl
          have HB11:=Lq hb11;have HC15:Hid (∀W,Two gs gn W11 W→cA W g15 0 (.func (.func 169) #[] #[])∧cA W g15 1 (.func (.func 170) #[] #[])):=Lq fun W hb=>have k:=hb.blk hq11 (by have:=HG14.out;have:=HG15.out;omega) (by have:=HG14.out;have:=HG15.out;have:=HGP.out;omega);⟨k.c 0,k.c 1⟩
          have bf0:=hqb.frozen 0;have bf1:=hqb.frozen 1;have be0:=hqb.c 0;have be1:=hqb.c 1;have bl:=hqb.lt;obtain⟨bd0,bd1⟩:=HC15.out _ (Two.of_below (bR _));obtain⟨d0',d1',d2',d3',d4',d5',d6',d7',d8',d9'⟩:=HC14.out _ (Two.of_below hb11);clear hb11 hqb hbb hq11;go_wp2_with fail;refine(HI.out _ _ (by go_simp)).mono ?_
          rintro e w12 ⟨rfl,hb⟩;have HB12:=Lq (bT (bA (bR W11) _) hb);clear hb hlk c0 c1 c2 c3 c4 c5 c6 c7 c8 c9 d0 d1 d2 d3 d4 d5 d6 d7 d8 d9 e0 e1 e2 e3 e4 e5 e6 e7 e8 e9 f0 f1 f2 f3 f4 f5 f6 f7 f8 f9 el bf0 bf1 be0 be1 bl bd0 bd1 d0' d1' d2' d3' d4' d5' d6' d7' d8' d9' hWa hW10 hg14 hg15 hWb hW11 dl;have HBX:=Lq (bT HB10.out (bT HB11.out HB12.out));cases bI with
          | false =>
           obtain⟨W9,hW9⟩:=ex (w12.setCell ⟨gn,0,none⟩ (.slice An now.length cn));have d0:W9.cell? ⟨gn,0,none⟩=some (.slice An now.length cn):=by rw[←hW9];exact((HN.out.keep HBX.out).set_ 0 _).cell 0
           have HB9:Hid (BW w W9):=by rw[←hW9];exact Lq ((OnlyAt.of_set (bR w12) gn 0 _).below (bT HBR.out HBX.out) HGN.out)
           have n0:=(HN.out.keep HBX.out).c 0;have nf:=(HN.out.keep HBX.out).frozen 0;have nl:=(HN.out.keep HBX.out).lt;go_wp2_with fail;exact bodyPost_ret (v:=.tuple #[.agg #[.slice An now.length cn],iv 2,iv k,iv 7]) (by simp[results,Tryz.results97,go_sem,d0]) rfl (buildNo (by decide) (HRT.out.stop HCI.out (.inl KI.out)) (cd_day HRT.out HCI.out KI.out) HB9.out)
          | true =>
           obtain⟨bd0,bd1⟩:=HC15.out _ (Two.of_below HB12.out);obtain⟨d0,d1,d2,d3,d4,d5,d6,d7,d8,d9⟩:=HC14.out _ (Two.of_below (bT HB11.out HB12.out));obtain⟨bE,hbE⟩:=ex (true);have HE:Hid (∀W,Cs 169 #[cV (HcM.mk 3 dy nm ⟨⟨yn,yk,yf,yl,yon,yw,yz⟩,yA,yc⟩)] W (Rt W (.bool bE))):=Lq fun W=>hbE▸verb151_any (HcM.mk 3 dy nm ⟨⟨yn,yk,yf,yl,yon,yw,yz⟩,yA,yc⟩) W
           have KE:=Lq hbE;clear hbE;go_wp2_with fail;refine(HE.out _).mono ?_;rintro e w13 ⟨rfl,hb⟩;have HB13:=Lq (bT HB12.out hb);have HBY:=Lq (bT HBX.out hb);clear hb bd0 bd1 d0 d1 d2 d3 d4 d5 d6 d7 d8 d9;obtain rfl:bE=true:=KE.out.symm;obtain⟨bd0,bd1⟩:=HC15.out _ (Two.of_below HB13.out);obtain⟨d0,d1,d2,d3,d4,d5,d6,d7,d8,d9⟩:=HC14.out _ (Two.of_below (bT HB11.out HB13.out));have HMU:Hid (Cs 170 #[pT gs 0,cV (HcM.mk 3 dy nm ⟨⟨yn,yk,yf,yl,yon,yw,yz⟩,yA,yc⟩)] w13 (MutPost l (HcM.mk 3 dy nm ⟨⟨yn,yk,yf,yl,yon,yw,yz⟩,yA,yc⟩) gs w13)):=Lq (swap152_any Al l (HcM.mk 3 dy nm ⟨⟨yn,yk,yf,yl,yon,yw,yz⟩,yA,yc⟩) B cl gs w13 (by have:=HGP.out;omega) (HS.out.keep HBY.out) ((HL.out.on (Two.of_below HBY.out)).keeps) ((HMC.out.below HBY.out (lT hB HBR.out.size))) HRT.out.1 rfl)
           go_wp2_with fail;refine HMU.out.mono ?_;rintro e w14 ⟨r,rfl,ho,hno,hyes⟩;have HO14:=Lq ho;have HNO:=Lq hno;have HYES:=Lq hyes;have HT14:Hid (Two gs gn wr w14):=Lq ((Two.of_below HBY.out).trans (Two.of_only ho));have HNN:Hid (Blk w14 gn 102 #[.slice An now.length cn]):=Lq ((HN.out.keep HBY.out).same (ho.block gn (HN.out.keep HBY.out).lt (by have:=HGP.out;omega)))
           have HBZ:Hid (BW w w14):=Lq (HT14.out.below HBR.out (by have:=HGP.out;omega) HGN.out)
           clear ho hno hyes bd0 bd1 d0 d1 d2 d3 d4 d5 d6 d7 d8 d9;by_cases hr0:r=0
           ·subst hr0;obtain⟨out,Ao,co,hqo,hch,hkp⟩:=HYES.out rfl;have HQO:=Lq hqo;have HCH:=Lq hch;have HKP:=Lq (Hold.of_keeps hkp HNN.out (by have:=HGP.out;omega))
            clear hqo hch hkp HYES HNO;obtain⟨d0,d1,d2,d3,d4,d5,d6,d7,d8,d9⟩:=HC14.out w14 ((Two.of_below (bT HB11.out HB13.out)).trans (Two.of_only HO14.out));have s0:=HQO.out.c 0;have n0:=HNN.out.c 0;have nf:=HNN.out.frozen 0;have nl:=HNN.out.lt;have HNX:=Lq (HRT.out.next HCI.out KI.out HCH.out);by_cases hdy:dy≤day
            ·have hif:(if(HcM.day (HcM.mk 3 dy nm ⟨⟨yn,yk,yf,yl,yon,yw,yz⟩,yA,yc⟩))≤day then out else now)=out:=if_pos hdy
             have HIF:=Lq hif;clear hif;go_wp2_with fail;go_roundw
             case measure=>simp[intOf];omega
             case rel =>
              have o15:OnlyAt w14 (w14.setCell ⟨gn,0,none⟩ (.slice Ao out.length co)) gn:=OnlyAt.of_set (bR w14) gn 0 _;refine⟨k+1,out,Ao,co,dy,out,Ao,co,by omega,by go_num,rfl,Lq ?_,Lq ?_,Lq (HKP.out.on (Two.of_only2 o15)),Lq (HKP.out.on (Two.of_only2 o15)),Lq (by have h:=HNX.out;rw[HIF.out]at h;exact h),Lq (HTW.out.trans (HT14.out.trans (Two.of_only2 o15))),Lq (fun h=>(by omega))⟩
              ·exact HQO.out.same (o15.block gs HQO.out.lt (by have:=HGP.out;omega))
              ·have h:=HNN.out.set_ 0 (.slice Ao out.length co)
               simpa using h
            ·have hif:(if(HcM.day (HcM.mk 3 dy nm ⟨⟨yn,yk,yf,yl,yon,yw,yz⟩,yA,yc⟩))≤day then out else now)=now:=if_neg hdy
             have HIF:=Lq hif;clear hif;go_wp2_with fail;go_roundw
             case measure=>simp[intOf];omega
             case rel=>exact⟨k+1,out,Ao,co,dy,now,An,cn,by omega,by go_num,rfl,HQO,HNN,HKP,Lq (HO.out.on HT14.out),Lq (by have h:=HNX.out;rw[HIF.out]at h;exact h),Lq (HTW.out.trans HT14.out),Lq (fun h=>(by omega))⟩
           ·have hr1:(r != 0)=true:=by simpa using hr0
            obtain⟨W9,hW9⟩:=ex (w14.setCell ⟨gn,0,none⟩ (.slice An now.length cn));have d0:W9.cell? ⟨gn,0,none⟩=some (.slice An now.length cn):=by rw[←hW9];exact((HNN.out).set_ 0 _).cell 0
            have HB9:Hid (BW w W9):=by rw[←hW9];exact Lq ((OnlyAt.of_set (bR w14) gn 0 _).below (HBZ.out) HGN.out)
            have n0:=(HNN.out).c 0;have nf:=(HNN.out).frozen 0;have nl:=(HNN.out).lt;go_wp2_with fail;exact bodyPost_ret (v:=.tuple #[.agg #[.slice An now.length cn],iv 2,iv k,iv r]) (by simp[results,Tryz.results97,go_sem,d0]) rfl (buildNo hr0 (HRT.out.stop HCI.out (.inr (HNO.out hr0).1)) (cd_take HRT.out HCI.out (by first | exact(HNO.out hr0).2 | exact fun _=>(HNO.out hr0).2 trivial)) HB9.out)
         ·skip;have hlk:(Instr.lookup 223 (.map (some bv)) (iv wh) true).run Tryz.prog W10=.ok (.tuple #[.agg #[.nilFunc,.nilFunc],.bool false]) W10:=look_no HVX.out HWC.out w1 w2 w3;obtain⟨Wb,W11,hWb,hW11,hb11,hqb,hbb,hq11⟩:=twoMade W10 227 .nilFunc .nilFunc .nilFunc .nilFunc;obtain⟨g15,hg15⟩:=ex W10.heap.size;rw[hg15]at hW11 hqb hq11;have HG15:Hid (g14<g15):=by rw[←hg15];exact Lq dl
          have HB11:=Lq hb11;have HC15:Hid (∀W,Two gs gn W11 W→cA W g15 0 .nilFunc∧cA W g15 1 .nilFunc):=Lq fun W hb=>have k:=hb.blk hq11 (by have:=HG14.out;have:=HG15.out;omega) (by have:=HG14.out;have:=HG15.out;have:=HGP.out;omega);⟨k.c 0,k.c 1⟩
          have bf0:=hqb.frozen 0;have bf1:=hqb.frozen 1;have be0:=hqb.c 0;have be1:=hqb.c 1;have bl:=hqb.lt;obtain⟨bd0,bd1⟩:=HC15.out _ (Two.of_below (bR _));obtain⟨d0',d1',d2',d3',d4',d5',d6',d7',d8',d9'⟩:=HC14.out _ (Two.of_below hb11);clear hb11 hqb hbb hq11;go_wp2_with fail;refine(HI.out _ _ (by go_simp)).mono ?_
          rintro e w12 ⟨rfl,hb⟩;have HB12:=Lq (bT (bA (bR W11) _) hb);clear hb hlk c0 c1 c2 c3 c4 c5 c6 c7 c8 c9 d0 d1 d2 d3 d4 d5 d6 d7 d8 d9 e0 e1 e2 e3 e4 e5 e6 e7 e8 e9 f0 f1 f2 f3 f4 f5 f6 f7 f8 f9 el bf0 bf1 be0 be1 bl bd0 bd1 d0' d1' d2' d3' d4' d5' d6' d7' d8' d9' hWa hW10 hg14 hg15 hWb hW11 dl;have HBX:=Lq (bT HB10.out (bT HB11.out HB12.out));cases bI with
          | false =>
           obtain⟨W9,hW9⟩:=ex (w12.setCell ⟨gn,0,none⟩ (.slice An now.length cn));have d0:W9.cell? ⟨gn,0,none⟩=some (.slice An now.length cn):=by rw[←hW9];exact((HN.out.keep HBX.out).set_ 0 _).cell 0
           have HB9:Hid (BW w W9):=by rw[←hW9];exact Lq ((OnlyAt.of_set (bR w12) gn 0 _).below (bT HBR.out HBX.out) HGN.out)
           have n0:=(HN.out.keep HBX.out).c 0;have nf:=(HN.out.keep HBX.out).frozen 0;have nl:=(HN.out.keep HBX.out).lt;go_wp2_with fail;exact bodyPost_ret (v:=.tuple #[.agg #[.slice An now.length cn],iv 2,iv k,iv 7]) (by simp[results,Tryz.results97,go_sem,d0]) rfl (buildNo (by decide) (HRT.out.stop HCI.out (.inl KI.out)) (cd_day HRT.out HCI.out KI.out) HB9.out)
          | true =>
           obtain⟨W9,hW9⟩:=ex (w12.setCell ⟨gn,0,none⟩ (.slice An now.length cn));have d0:W9.cell? ⟨gn,0,none⟩=some (.slice An now.length cn):=by rw[←hW9];exact((HN.out.keep HBX.out).set_ 0 _).cell 0
           have HB9:Hid (BW w W9):=by rw[←hW9];exact Lq ((OnlyAt.of_set (bR w12) gn 0 _).below (bT HBR.out HBX.out) HGN.out)
           have n0:=(HN.out.keep HBX.out).c 0;have nf:=(HN.out.keep HBX.out).frozen 0;have nl:=(HN.out.keep HBX.out).lt;go_wp2_with fail;exact bodyPost_ret (v:=.tuple #[.agg #[.slice An now.length cn],iv 2,iv k,iv 6]) (by simp[results,Tryz.results97,go_sem,d0]) rfl (buildNo (by decide) (HRT.out.stop HCI.out (.inr (chgP_none w1 w2 w3))) (cd_what HCI.out w2) HB9.out)
      ·obtain rfl:k=cs.length:=by omega
       have hpl:=HRT.out.done HSH.out (Nat.le_of_not_lt h8);have HPL:=Lq hpl;clear hpl;obtain⟨W9,hW9⟩:=ex (wr.setCell ⟨gn,0,none⟩ (.slice An now.length cn));have d0:W9.cell? ⟨gn,0,none⟩=some (.slice An now.length cn):=by rw[←hW9];exact(HN.out.set_ 0 _).cell 0
       have o9:OnlyAt wr W9 gn:=by rw[←hW9];exact OnlyAt.of_set (bR wr) gn 0 _
       have HB9:Hid (BW w W9):=Lq (o9.below HBR.out HGN.out);have HS9:=Lq (HO.out W9 (Two.of_only2 o9));have n0:=HN.out.c 0;have nf:=HN.out.frozen 0;have nl:=HN.out.lt;clear o9;go_wp2_with fail;exact bodyPost_ret (v:=.tuple #[.agg #[.slice An now.length cn],iv 0,iv 0,iv 0]) (by simp[results,Tryz.results97,go_sem,d0]) rfl ⟨0,0,0,An,_,cn,rfl,HB9.out,⟨fun _=>HPL.out.1,fun _=>rfl⟩,fun _=>⟨now,rfl,HPL.out.2,HS9.out⟩,fun _ h=>HSM.out h,fun h=>absurd rfl h⟩
theorem build94_any(A C:Option Addr)(ms:List HuM)(cs:List HcM)(B cap capc:Nat)(day:Int)(w:World)(hB:B≤w.heap.size)(H:SlM w B A cap ms)(HC:SlC w B C capc cs)(HW:∀c∈cs,Lit.wf (.int .i64 c.what)=true) :
  Cs 97 #[.agg #[.slice A ms.length cap,.slice C cs.length capc],iv day] w (BuildPost ms cs day w) :=
 (build94_all A C ms cs B cap capc day w hB H HC HW).mono fun _ _ ⟨p,i,r,A',n,c,h1,h2,h3,h4,_⟩=>⟨p,i,r,A',n,c,h1,h2,h3,h4⟩
end
end Go.Proofs.YtigcophcpboanaaGreatDoor
