/- hull: Ask of two plans (printed by mkHC7.py). The reference compares (printed by .. -/
import Derived.Lib.AppendIntMem
import Derived.Lib.OthersKept
import Derived.Deep.AppendSrc
import Derived.OwnWalk
import Derived.Test.YtbillnhcmkpohaaGreatDoorM12
set_option maxRecDepth 1000000
set_option maxHeartbeats 0
namespace Go.Proofs.YtbillnhcmkpohaaGreatDoor
open Go.RowKit Go.Shelf
section
variable{g gF gL gN:Nat}{W W0 X w:World}
attribute [local go_sem] Oper.semAt_some
def dQ(ls:List (List ah))(nm:ByteArray)(fr:Int)(k:Nat):Int:=((ls.filter fun l=>fG l nm fr==(k:Int)).length:Int)
def sd(ls:List (List ah))(nm:ByteArray)(fr:Int):List Int:=[dQ ls nm fr 0,dQ ls nm fr 1,dQ ls nm fr 2,dQ ls nm fr 3,dQ ls nm fr 4,dQ ls nm fr 5]
def oy(ls:List (List ah))(nm:ByteArray)(fr:Int):Array Value:=#[iv (dQ ls nm fr 0),iv (dQ ls nm fr 1),iv (dQ ls nm fr 2),iv (dQ ls nm fr 3),iv (dQ ls nm fr 4),iv (dQ ls nm fr 5)]
def pM(ls:List (List ah))(nm:ByteArray)(fr:Int):Int:=Lib.maxOf (sd ls nm fr)
def m6(ls:List (List ah))(b:ByteArray×Int×Int)(s:ByteArray×Int):ByteArray×Int×Int:=if pM ls s.1 s.2<b.2.2 then(s.1,s.2,pM ls s.1 s.2)else b
def gR(ls:List (List ah))(l:List (ByteArray×Int)):ByteArray×Int×Int:=l.foldl (m6 ls) (⟨#[]⟩,0,(ls.length:Int))
theorem xe(a:List (List ah))(l:List (ByteArray×Int))(s:ByteArray×Int):gR a (l++[s])=m6 a (gR a l) s:=by unfold gR;rw[List.foldl_append];rfl
theorem EW{b:List (List ah)}{a:ByteArray}{fr:Int}{k j:Nat}{l:List ah}(h:b[j]?=some l):dQ (b.take (j+1)) a fr k=dQ (b.take j) a fr k+(if fG l a fr=(k:Int)then 1 else 0):=by
 unfold dQ;rw[List.take_add_one,h,List.filter_append,List.length_append];by_cases hk:fG l a fr=(k:Int)
 ·simp[hk]
 ·simp[hk]
theorem EX(a:List (List ah))(b:ByteArray)(fr:Int)(k:Nat):0≤dQ a b fr k∧dQ a b fr k≤a.length:=by
 unfold dQ;have:=List.length_filter_le (fun l=>fG l b fr==(k:Int)) a
 omega
theorem EY{l:List ah}(h:aE l)(a:ByteArray)(fr:Int):0≤fG l a fr∧fG l a fr≤5:=by
 unfold fG;cases hf:l.find? (aX a)with
 | none=>simp
 | some p =>
  obtain⟨i,b⟩:=List.mem_iff_getElem?.1 (List.mem_of_find?_eq_some hf);have:=(h.part i p b).kind;simp only;split<;>omega
theorem EZ{s:ByteArray}(h:du s=true):s≠⟨#[]⟩:=by
 intro e;subst e
 revert h
 decide
theorem az.kept3{cap:Nat}{A:Option Addr}{ms:List aj}{r v:Int}(h:az w w.heap.size A cap ms)(q:aE (ab ms))(C:aa w gN 9 #[.string ⟨#[]⟩])(z:aa w gF 3 #[iv r])(B:aa w gL 3 #[iv v])(n:bX (fun k=>k=gN∨k=gF∨k=gL) w W):az W W.heap.size A cap ms:=by
 have c:∀g a,aa w g 3 #[iv a]→∀b o s,w.cell? ⟨b,o,none⟩=some (.string s)→b≠g:=by
  intro g a D b o s hc e;subst e;rw[D.cell]at hc
  match o,hc with
  | 0,hc=>injection hc with hc;cases hc
  | o+1,hc=>rw[Array.getElem?_eq_none (by show 1≤o+1;omega)]at hc;cases hc
 refine⟨⟨fun i x hx=>?_,fun m hm=>?_⟩,h.le,h.max,h.nil0,fun a ha=>⟨(h.off a ha).1,lz (h.off a ha).2 n.size⟩⟩
 ·obtain⟨b,f,e,l,hc⟩:=h.rd.rd i x hx;have h1:b≠gF:=c gF r z _ _ _ (hc 0 (.string x.p.name) rfl);have h2:b≠gL:=c gL v B _ _ _ (hc 0 (.string x.p.name) rfl);have h3:b≠gN:=by
   intro e;subst e;have:=hc 1 (iv x.p.kind) rfl;rw[C.cell,Array.getElem?_eq_none (by show 1≤f+i*7+1;omega)]at this
   cases this
  exact⟨b,f,e,lz l n.size,fun j u E=>n.cell (hc j u E) (by rintro(e | e | e);exact h3 e;exact h1 e;exact h2 e)⟩
 ·have d:=h.rd.ok m hm;refine⟨fun i x hx=>?_,d.le,d.cm,d.nm,d.ons,d.sz⟩
  obtain⟨b,f,e,l,hc⟩:=d.on i x hx;have h1:b≠gF:=c gF r z _ _ _ hc;have h2:b≠gL:=c gL v B _ _ _ hc;have h3:b≠gN:=by
   intro e;subst e;rw[C.cell]at hc;rcases Nat.eq_zero_or_pos (f+i)with h0 | h0
   ·rw[h0]at hc;injection hc with hc
    injection hc with hc
    obtain⟨F,t⟩:=List.mem_iff_getElem?.1 hm;obtain⟨_,y,hy,hyn,_⟩:=q.below (bN t) (mG ⟨i,hx⟩);have hnm:=(q.part _ y hy).nm;rw[←hc]at hyn;exact EZ hnm (ByteArray.ext (Array.ext' (by rw[←rU,hyn];exact rU _)))
   ·rw[Array.getElem?_eq_none (by show 1≤f+i;omega)]at hc
    cases hc
  exact⟨b,f,e,lz l n.size,n.cell hc (by rintro(e | e | e);exact h3 e;exact h1 e;exact h2 e)⟩
theorem E0{t:TypeId}{a:Int}(h:aa w g t #[iv a]):∀o s,w.cell? ⟨g,o,none⟩≠some (.string s):=by
 intro o s hc;rw[h.cell]at hc
 match o,hc with
 | 0,hc=>injection hc with hc;cases hc
 | o+1,hc=>rw[Array.getElem?_eq_none (by show 1≤o+1;omega)]at hc;cases hc
structure iy(W0:World)(gN gF gL:Nat)(b:ByteArray×Int×Int)(W:World):Prop where
 os:W.os=W0.os
 tape:W.tape=W0.tape
 output:W.output=W0.output
 keep:bX (fun k=>k=gN∨k=gF∨k=gL) W0 W
 n:aa W gN 9 #[.string b.1]
 f:aa W gF 3 #[iv b.2.1]
 l:aa W gL 3 #[iv b.2.2]
theorem iy.below{B:Nat}{b:ByteArray×Int×Int}(h:iy W0 gN gF gL b W)(a:Below B W X)(o:W0.heap.size≤B)(c:gN<B)(d:gF<B)(i:gL<B):iy W0 gN gF gL b X :=
 ⟨a.os.trans h.os,a.tape.trans h.tape,a.output.trans h.output,⟨lT h.keep.size a.size,fun k j m=>(a.block k (by omega)).trans (h.keep.same k j m)⟩,h.n.same (a.block _ c),h.f.same (a.block _ d),h.l.same (a.block _ i)⟩
theorem iy.fin{b:ByteArray×Int×Int}(h:iy W0 gN gF gL b W)(a:BW w W0)(d:w.heap.size≤gN)(f:w.heap.size≤gF)(i:w.heap.size≤gL):BW w W :=
 ⟨h.os.trans a.os,h.tape.trans a.tape,h.output.trans a.output,lT a.size h.keep.size,fun k c=>(h.keep.same k (by omega) (lz c a.size)).trans (a.block k c)⟩
theorem ai.join{Y Z:World}(h:ai X Y g)(k:ai Y Z g):ai X Z g :=
 ⟨k.os.trans h.os,k.tape.trans h.tape,k.output.trans h.output,lT h.size k.size,fun i b a=>(k.block i (lz b h.size) a).trans (h.block i b a)⟩
theorem iy.put3{V:World}{b:ByteArray×Int×Int}(h:iy W0 gN gF gL b W)(a:BW W V)(d:gN≠gF∧gN≠gL∧gF≠gL)(n:ByteArray)(f l:Int):iy W0 gN gF gL (n,f,l) (((V.setCell ⟨gN,0,none⟩ (.string n)).setCell ⟨gF,0,none⟩ (iv f)).setCell ⟨gL,0,none⟩ (iv l)):=by
 obtain⟨j,m,o⟩:=d;have k:bX (fun k=>k=gN∨k=gF∨k=gL) V (((V.setCell ⟨gN,0,none⟩ (.string n)).setCell ⟨gF,0,none⟩ (iv f)).setCell ⟨gL,0,none⟩ (iv l)):=by
  refine⟨by simp,fun i c p=>?_⟩
  rw[Below.heap_setCell _ _ _ _ (fun e=>c (.inr (.inr e))),Below.heap_setCell _ _ _ _ (fun e=>c (.inr (.inl e))),Below.heap_setCell _ _ _ _ (fun e=>c (.inl e))]
 refine⟨a.os.trans h.os,a.tape.trans h.tape,a.output.trans h.output,(h.keep.trans (bX.of_below a)).trans k, ?_, ?_, ?_⟩
 ·exact(((h.n.keep a).set_ 0 (.string n)).far j _).far m _
 ·exact(((h.f.keep a).far (fun e=>j e.symm) (.string n)).set_ 0 (iv f)).far o _
 ·exact(((h.l.keep a).far (fun e=>m e.symm) (.string n)).far (fun e=>o e.symm) (iv f)).set_ 0 (iv l)
def E1(ls:List (List ah))(w:World)(e:Ending)(w':World):Prop:=e=.returned (.tuple #[.string (gR ls (dG (gA ls))).1,iv (gR ls (dG (gA ls))).2.1,iv (gR ls (dG (gA ls))).2.2,iv 0])∧BW w w'
theorem Fa(b o cp:Nat)(p q:mt)(sg:List dX)(Ss:Option Addr)(aH:Nat)(day:Int)(w:World)(H:kJ w b o p q)(hd:inB 0 40000 day=true)(hP:bS (ab p.ms) (an p.cs))(hQ:bS (ab q.ms) (an q.cs))(HS:aG 3 lD w w.heap.size Ss sg)(aV:sg.length≤12)(aW:∀s∈sg,pJ s)(h0:0<(bD [aA day (ab p.ms) (an p.cs),aA day (ab q.ms) (an q.cs)] sg 2).length)(N:0<((gQ [aA day (ab p.ms) (an p.cs),aA day (ab q.ms) (an q.cs)] (bD [aA day (ab p.ms) (an p.cs),aA day (ab q.ms) (an q.cs)] sg 2)).flatMap fun l=>l.map ah.name).length)(u:((gQ [aA day (ab p.ms) (an p.cs),aA day (ab q.ms) (an q.cs)] (bD [aA day (ab p.ms) (an p.cs),aA day (ab q.ms) (an q.cs)] sg 2)).flatMap fun l=>l.map ah.name).length≤1000)(a:(gR (gQ [aA day (ab p.ms) (an p.cs),aA day (ab q.ms) (an q.cs)] (bD [aA day (ab p.ms) (an p.cs),aA day (ab q.ms) (an q.cs)] sg 2)) (dG (gA (gQ [aA day (ab p.ms) (an p.cs),aA day (ab q.ms) (an q.cs)] (bD [aA day (ab p.ms) (an p.cs),aA day (ab q.ms) (an q.cs)] sg 2))))).1.toList.isEmpty=false) :
  Cs 47 #[.slice (some ⟨b,o,none⟩) 2 cp,iv day,.slice Ss sg.length aH] w (E1 (gQ [aA day (ab p.ms) (an p.cs),aA day (ab q.ms) (an q.cs)] (bD [aA day (ab p.ms) (an p.cs),aA day (ab q.ms) (an q.cs)] sg 2)) w):=by
 obtain⟨Wx,am,bx⟩:=nA w (.cells #[.string ⟨#[]⟩] 9);obtain⟨Wy,hWy⟩:=ex (Wx.alloc (.cells #[iv 0] 3));obtain⟨W1,hW1,b1⟩:=nA Wy (.cells #[iv 0] 3);obtain⟨gN,hgN⟩:=ex w.heap.size;obtain⟨gF,hgF⟩:=ex Wx.heap.size;obtain⟨gL,hgL⟩:=ex Wy.heap.size;have zx:Wx.heap.size=w.heap.size+1:=by rw[←am];simp
 have zy:Wy.heap.size=Wx.heap.size+1:=by rw[←hWy];simp
 have ak:BW Wx Wy:=by rw[←hWy];exact bA (bR _) _
 have qN:aa Wx gN 9 #[.string ⟨#[]⟩]:=by rw[←am,←hgN];exact aa.new w 9 _
 have qF:aa Wy gF 3 #[iv 0]:=by rw[←hWy,←hgF];exact aa.new Wx 3 _
 have qL:aa W1 gL 3 #[iv 0]:=by rw[←hW1,←hgL];exact aa.new Wy 3 _
 have L:=bT bx (bT ak b1)
 have aD:=Lq (qN.keep (bT ak b1))
 have aC:=Lq (qF.keep b1);have HQL:=Lq qL;have HBW1:=Lq L;have HNE:Hid (w.heap.size≤gN∧gN<gF∧gF<gL):=Lq (by omega)
 have aF:=Lq (sc b o cp p q sg Ss aH day W1 (H.below L) hd hP hQ ((HS.below L (lr _)).more L.size) aV aW);have hoka:=kT hP day;have hokb:=kT hQ day;obtain⟨la,hla⟩:=ex (aA day (ab p.ms) (an p.cs));obtain⟨lb,hlb⟩:=ex (aA day (ab q.ms) (an q.cs));rw[hla]at hoka;rw[hlb]at hokb;rw[hla,hlb]at aF h0 N u a ⊢;obtain⟨ag,hag⟩:=ex (bD [la,lb] sg 2);have hin:∀i∈ag,i<2:=fun i r=>vW (hag▸r)
 have aJ:ag.length≤2:=hag▸sb _ _ _;rw[hag]at h0 N u a ⊢;obtain⟨PL,hPL⟩:=ex (gQ [la,lb] ag);have hokp:∀l∈PL,aE l:=by
  rw[←hPL];intro l hl;obtain⟨i,_,r⟩:=List.mem_filterMap.1 hl
  match i,r with
  | 0,r=>injection r with r;exact r▸hoka
  | 1,r=>injection r with r;exact r▸hokb
  | n+2,r=>cases r
 rw[hPL]at N u a ⊢;have av:=Lq hag;have HPL:=Lq hPL;have HIN:=Lq hin;have HNM:=Lq N;have HNM9:=Lq u;have HOKP:=Lq hokp;have HFD:=Lq a;have hag0:¬((ag.length:Int)=0):=by omega
 have ba:((ag.length:Int)==0)=false:=by simpa using hag0
 clear H HS hd hP hQ aW hla hlb aV hag hPL hin N u h0 hoka hokb hokp a zx zy bx ak b1 qN qF qL L
 refine(callsIn_wide (n:=0)).1 ?_;refine callsIn_of_wp_marks Tryz.func47 rfl trivial ?_ rfl;simp only[Tryz.ntmps47,List.size_toArray,List.length_cons,List.length_nil,Nat.reduceAdd,Nat.reduceSub,Array.replicate_succ,Array.replicate_zero,List.push_toArray,List.append_toArray,List.nil_append,List.cons_append]
 gi_wp2_with fail
 refine⟨trivial,rfl,(callsIn_wide.2 aF.out).mono ?_⟩;rintro e w4 ⟨g,c,Ag,cg,s1,s2,rfl,hb,aR,aS,J,aq,aN,M⟩;rw[av.out]at aq aN;simp only[av.out];obtain⟨Wa,W5,hWa,hW5,hb5,hqa,hba,hq5⟩:=iq w4 177 (.slice none 0 0) (.slice none 0 0) (.slice (some ⟨g,0,none⟩) 2 c) (.slice Ag ag.length cg);obtain⟨g10,hg10⟩:=ex w4.heap.size;rw[hg10]at hW5 hqa hq5;have HB5:=Lq (bT hb hb5);have HLF:Hid (Cs 98 #[.agg #[.slice (some ⟨g,0,none⟩) 2 c,.slice Ag ag.length cg]] W5 fun e w'=>∃A c9,e=.returned (.slice A (dF [s1,s2] ag).length c9)∧fQ w' w'.heap.size A (dF [s1,s2] ag)∧(dF [s1,s2] ag).length≤c9∧c9≤maxLen∧BW W5 w'):=Lq (by
  have C:=(J.below hb5 (lr _)).more hb5.size;refine(vT (some ⟨g,0,none⟩) Ag [s1,s2] ag c cg W5 C ((aq.below hb5 (lr _)).more hb5.size) (by omega) (fun i r=>HIN.out i r)).mono ?_
  rintro e w' ⟨v,rfl,aQ,ao⟩;obtain⟨A,c9,rfl,h1,h2,h3⟩:=fS aQ;exact⟨A,c9,rfl,⟨h1,fun s hs'=>((C.ok s (vR hs')).below ao (lr _)).more ao.size⟩,h2,h3,ao⟩)
 have I:=vU aR aS ag;rw[HPL.out]at I;obtain⟨SH,hSH⟩:=ex (dF [s1,s2] ag);rw[hSH]at HLF I;have HPP:=Lq I;have HALL:Hid (bU SH=PL.flatMap fun l=>l.map ah.name):=Lq (by rw[vV,I])
 have bd:SH.length≤2:=by rw[←hSH];unfold dF;exact lT (List.length_filterMap_le _ _) aJ
 have aT:PL.length=SH.length:=by rw[←I,List.length_map]
 have K:=Lq aT;have af:=hqa.frozen 0;have af1:=hqa.frozen 1;have ac:=hqa.c 0;have ac1:=hqa.c 1;have al:=hqa.lt;have d0:=hq5.c 0;have d1:=hq5.c 1;clear hb aR aS J aq aN M hb5 hqa hba hq5 I hSH aT
 gi_wp2_with fail
 refine⟨trivial,rfl,(callsIn_wide.2 HLF.out).mono ?_⟩;rintro e w6 ⟨T,c4,rfl,aX,aO,aP,t⟩;obtain⟨Wb,W7,hWb,hW7,hb7,hqb,hbb,hq7⟩:=gg w6 175 (.slice none 0 0) (.slice T SH.length c4);obtain⟨gS,hgS⟩:=ex w6.heap.size;rw[hgS]at hW7 hqb hq7;have hb17:=bT HB5.out (bT t hb7);have qL7:=HQL.out.keep hb17;obtain⟨W8,hW8⟩:=ex (W7.setCell ⟨gL,0,none⟩ (iv SH.length));have o8:ai W7 W8 gL:=by rw[←hW8];exact ai.of_set (bR W7) gL 0 _
 have aL:=HQL.out.lt;have hgSW:W1.heap.size≤gS:=by have h1:=HB5.out.size;have h2:=t.size;omega
 have S:aa W8 gL 3 #[iv SH.length]:=by
  rw[←hW8];have h:=qL7.set_ 0 (iv SH.length)
  simpa using h
 have ad:aa W8 gN 9 #[.string ⟨#[]⟩]:=(aD.out.keep hb17).same (o8.block gN (aD.out.keep hb17).lt (by have:=HNE.out;omega))
 have Z:aa W8 gF 3 #[iv 0]:=(aC.out.keep hb17).same (o8.block gF (aC.out.keep hb17).lt (by have:=HNE.out;omega))
 have au:aa W8 gS 175 #[.slice T SH.length c4]:=hq7.same (o8.block gS hq7.lt (by omega))
 have O:=(aX.below hb7 (lr _)).more hb7.size;have hsr8:fQ W8 W8.heap.size T SH:=by
  have r:=E0 qL7;refine⟨fun i x hx=>?_,fun s C=>(O.ok s C).moved r o8⟩
  obtain⟨b',y,e,G,hc⟩:=O.rd i x hx;refine⟨b',y,e,lz G o8.size,o8.cell hc (fun e2=>?_)⟩
  subst e2;rw[qL7.cell]at hc;unfold dr at hc
  match hoi:y+i,hc with
  | 0,hc=>injection hc with hc;cases hc
  | n+1,hc=>rw[Array.getElem?_eq_none (by show 1≤n+1;omega)]at hc;cases hc
 have a0:Hid (BW w W8):=Lq (o8.below (bT HBW1.out hb17) (by have:=HNE.out;omega))
 obtain⟨tb,ar⟩:=ex W8.heap.size;have HLK:=ER T SH.length c4 W8;rw[ar]at HLK;have HLK:=Lq HLK;obtain⟨W9,hW9,hb9⟩:=nA W8 (.cells #[.slice T SH.length c4] 175);have qT9:aa W9 tb 175 #[.slice T SH.length c4]:=by rw[←hW9,←ar];exact aa.new W8 175 _
 have D:=(hsr8.below hb9 (lr _)).more hb9.size;have hokm:∀s∈SH,aE (ab s.ms):=fun s C=>HOKP.out _ (by rw[←HPP.out];exact List.mem_map_of_mem C)
 have a6:Hid (∀V,bX (fun k=>k=gN∨k=gF∨k=gL) W9 V→fQ V V.heap.size T SH):=Lq fun V hV=>by
  refine⟨fun i x hx=>?_,fun s C=>(D.ok s C).kept3 (hokm s C) (ad.keep hb9) (Z.keep hb9) (S.keep hb9) hV⟩
  obtain⟨b',y,e,G,hc⟩:=D.rd i x hx;refine⟨b',y,e,lz G hV.size,hV.cell hc (fun e2=>?_)⟩
  unfold dr at hc;rcases e2 with e2 | e2 | e2
  all_goals
   subst e2
  ·rw[(ad.keep hb9).cell]at hc
   match hoi:y+i,hc with
   | 0,hc=>injection hc with hc;cases hc
   | n+1,hc=>rw[Array.getElem?_eq_none (by show 1≤n+1;omega)]at hc;cases hc
  ·rw[(Z.keep hb9).cell]at hc
   match hoi:y+i,hc with
   | 0,hc=>injection hc with hc;cases hc
   | n+1,hc=>rw[Array.getElem?_eq_none (by show 1≤n+1;omega)]at hc;cases hc
  ·rw[(S.keep hb9).cell]at hc
   match hoi:y+i,hc with
   | 0,hc=>injection hc with hc;cases hc
   | n+1,hc=>rw[Array.getElem?_eq_none (by show 1≤n+1;omega)]at hc;cases hc
 have ap:=ES tb T SH c4 W9 (qT9.c 0) (by unfold maxLen;omega) D (by rw[HALL.out];exact HNM.out) (by rw[HALL.out];exact HNM9.out)
 rw[HALL.out,show fv (PL.flatMap fun l=>l.map ah.name)=gA PL from rfl]at ap
 have a3:=Lq ap;have hgS9:aa W9 gS 175 #[.slice T SH.length c4]:=au.keep hb9;have HS9:Hid (∀V,bX (fun k=>k=gN∨k=gF∨k=gL) W9 V→V.cell? ⟨gS,0,none⟩=some (.slice T SH.length c4)):=Lq fun V hV=>hV.cell (hgS9.c 0) (by have:=HNE.out;omega)
 have a2:Hid (iy W9 gN gF gL (gR PL []) W9):=Lq ⟨rfl,rfl,rfl,bX.refl _ _,ad.keep hb9,Z.keep hb9,by have h:=S.keep hb9;unfold gR;simp only[List.foldl_nil,K.out];exact h⟩
 have aM:gL<W9.heap.size:=(S.keep hb9).lt;have HBW9:Hid (BW w W9):=Lq (bT a0.out hb9);have bf:=hqb.frozen 0;have bc:=hqb.c 0;have bl:=hqb.lt;have e0:=hq7.c 0;have g0:=qL7.c 0;have g1:=qL7.frozen 0;have g2:=qL7.lt;have s8:=au.c 0;have hne3:gN<gF∧gF<gL:=by have:=HNE.out;omega
 have a9:=Lq hgSW;clear aX aO aP t hqb hbb hq7 hb7 hb17 qL7 o8 S ad Z au O hsr8 hb9 qT9 D hokm ap hgS9 hgSW aL
 gi_wp2_with fail
 refine⟨trivial,rfl,(callsIn_wide.2 HLK.out).mono ?_⟩;rintro e bq ⟨rfl,rfl⟩;rw[hW9];clear af af1 ac ac1 al d0 d1 bf bc bl e0 g0 g1 g2 s8 hWa hW5 hg10 hWb hW7 hgS hW8 ar hW9 am hWy hW1 hgN hgF hgL HLK
 gi_wp2_with fail
 refine EO 0 163 #[.pointer (some ⟨tb,0,none⟩)] pL (dG (gA PL)) (fun k=>k=gN∨k=gF∨k=gL) (fun _=>True) rfl a3.out (fun k hk=>⟨trivial,by omega⟩) trivial (fun args w=>enters_of Tryz.func163 (by kernel_rfl) rfl args w)
  (fun R W=>iy W9 gN gF gL (gR PL R) W) ?_ a2.out ?_ ?_
 ·exact fun s X Y hX hb=>hX.below hb (lr _) (by omega) (by omega) (by omega)
 ·intro m l2 R s W hI bb aY;obtain⟨nm,fr⟩:=s;simp only[pL];obtain⟨Wa,Wb,hWa,hWb,hb1,hqa,hba,hq1⟩:=iq W 187 (.string ⟨#[]⟩) (iv 0) (.string nm) (iv fr);obtain⟨g12,hg12⟩:=ex W.heap.size;rw[hg12]at hWb hqa hq1;have HB1:=Lq hb1;have HQ1:=Lq hq1;have hg12':W9.heap.size+2<g12:=by omega
  have af:=hqa.frozen 0;have af1:=hqa.frozen 1;have ac:=hqa.c 0;have ac1:=hqa.c 1;have al:=hqa.lt;clear hb1 hqa hba hq1 aY
  gi_wp2_with fail
  refine⟨HB1.out, ?_⟩;rintro W2 hF aK a8;have HF:=Lq hF;have hq2:aa W2 g12 187 #[.string nm,iv fr]:=HQ1.out.grown aK (fun e=>by injection e with e;omega)
  have aB:=Lq hq2;have hk2:=hF.keep;have HK2:=Lq hk2;obtain⟨W3,hW3,hb3⟩:=nA W2 (.cells #[iv 0,iv 0,iv 0,iv 0,iv 0,iv 0] 188);have hq3:aa W3 W2.heap.size 188 #[iv 0,iv 0,iv 0,iv 0,iv 0,iv 0]:=by rw[←hW3];exact aa.new W2 188 _
  obtain⟨d,B⟩:=ex W2.heap.size;rw[B]at hq3;have HQ3:=Lq hq3;have HB3:=Lq hb3;have HG13:Hid (W2.heap.size=d):=Lq B;have s0:=HS9.out W3 (HK2.out.trans (bX.of_below hb3));have h213:W9.heap.size≤d:=by rw[←B];exact hk2.size
  clear hI hF aK a8 hq2 hk2 hb3 hq3 af af1 ac ac1 al hWa hWb hg12
  gi_wp2_with fail
  clear s0 hW3 B
  gi_loopw [42] (fun i wr=>∃k:Nat,k≤SH.length∧i=iv k∧Hid (aa wr d 188 (oy (PL.take k) nm fr))∧Hid (ai W3 wr d)) (fun i _=>SH.length-(intOf i).toNat)
  case atStart=>exact⟨0,Nat.zero_le _,rfl,HQ3,Lq (ai.of_below (bR _) _)⟩
  case round =>
   obtain⟨k,hk,rfl,aj,az⟩:=hrel;have hk0:=nn k;have hbw2:BW W2 wr:=az.out.below HB3.out (Nat.le_of_eq HG13.out);have HKW:Hid (bX (fun k=>k=gN∨k=gF∨k=gL) W9 wr):=Lq (HK2.out.trans (bX.of_below hbw2))
   have z:=Lq hbw2;by_cases G:k<SH.length
   ·obtain⟨s,C⟩:=gX (l:=SH) (i:=k) G;have J:=a6.out wr HKW.out;obtain⟨b3,y,rfl,_,c0⟩:=J.rd k s C;have hslk:=J.ok s (mG ⟨k,C⟩);have hpk:PL[k]?=some (ab s.ms):=by rw[←HPP.out,List.getElem?_map,C];rfl
    have a7:=EY (HOKP.out _ (mG ⟨k,hpk⟩)) nm fr;obtain⟨sn,hsn⟩:∃n:Nat,fG (ab s.ms) nm fr=(n:Int):=⟨(fG (ab s.ms) nm fr).toNat,by omega⟩
    have be:sn<6:=by omega
    have E:Hid (∀j:Nat,dQ (PL.take (k+1)) nm fr j=dQ (PL.take k) nm fr j+(if sn=j then 1 else 0)):=Lq fun j=>by
     rw[EW hpk,hsn];by_cases hj:sn=j
     ·simp[hj]
     ·rw[if_neg (by omega),if_neg hj]
    obtain⟨aZ,sA,ae⟩:=s;simp only[dr]at c0 hslk hsn;obtain⟨Wc,W6,hWc,hW6,t,hqc,hbc,hq6⟩:=gg wr 62 (.slice none 0 0) (.slice sA aZ.length ae);obtain⟨g15,hg15⟩:=ex wr.heap.size;rw[hg15]at hW6 hqc hq6;have HSE:Hid (Cs 102 #[.pointer (some ⟨g15,0,none⟩),.agg #[.string nm,iv fr]] W6 (Rt W6 (iv sn))):=Lq (hsn▸vQ sA aZ ae g15 0 nm fr W6 ((hslk.below t (lr _)).more t.size) (hq6.c 0));have HB6:=Lq t;have q2:=aB.out.keep (bT hbw2 t);have l0:=q2.c 0;have l1:=q2.c 1;have ccf:∀V,BW wr V→V.cell? ⟨d,sn,none⟩=some (iv (dQ (PL.take k) nm fr sn))∧V.frozen? ⟨d,sn,none⟩=false∧d<V.heap.size:=fun V hV=>by have kk:=aj.out.keep hV;refine⟨?_,kk.frozen sn,kk.lt⟩;rw[kk.cell];unfold oy;rcases(show sn=0∨sn=1∨sn=2∨sn=3∨sn=4∨sn=5 by omega)with rfl | rfl | rfl | rfl | rfl | rfl<;>rfl
    have a1:=Lq ccf;have hcb:=EX (PL.take k) nm fr sn;have hpl2:(PL.take k).length≤2:=by rw[List.length_take];have:=K.out;omega
    have af:=hqc.frozen 0;have ac:=hqc.c 0;have al:=hqc.lt;have hs0:=nn sn;have hs6:(sn:Int)<6:=by omega
    clear C J hslk hpk a7 hsn t hqc hbc hq6 q2 ccf hbw2
    gi_wp2_with fail
    refine⟨trivial,hdd _,(CallsIn.inRound l2 (callsIn_wide.2 HSE.out)).mono ?_⟩;rintro e w7 ⟨rfl,hb⟩;have HB7:=Lq (bT HB6.out hb);obtain⟨d0,d1,d2⟩:=a1.out w7 HB7.out;obtain⟨cv,hcv⟩:=ex (dQ (PL.take k) nm fr sn);rw[hcv]at d0 hcb;have HCV:=Lq hcv;have hcvw:cv≤2:=by omega
    clear hb c0 l0 l1 af ac al hWc hW6 hg15 hcv
    gi_wp2_with fail
    have aU:oy (PL.take (k+1)) nm fr=(oy (PL.take k) nm fr).setIfInBounds sn (iv (cv+1)):=by unfold oy;simp only[E.out 0,E.out 1,E.out 2,E.out 3,E.out 4,E.out 5];have hv:=HCV.out;rcases(show sn=0∨sn=1∨sn=2∨sn=3∨sn=4∨sn=5 by omega)with rfl | rfl | rfl | rfl | rfl | rfl<;>simp[hv]
    go_roundw
    case measure=>simp[intOf];omega
    case rel =>
     refine⟨k+1,by omega,by go_num,Lq ?_,Lq ?_⟩
     ·rw[aU];exact(aj.out.keep HB7.out).set_ sn (iv (cv+1))
     ·exact(az.out.join (ai.of_below HB7.out d)).join (ai.of_set (bR _) d sn _)
   ·obtain rfl:k=SH.length:=by omega
    have hq:=aj.out;rw[List.take_of_length_le (Nat.le_of_eq K.out)]at hq;have HQ13:=Lq hq;have M:=Tryz.slices_Max_int d 0 6 6 (sd PL nm fr) wr (by decide) (lr 6) (by decide) (fun j hj=>by have hj6:j<6:=hj;rw[Nat.zero_add,HQ13.out.cell];rcases(show j=0∨j=1∨j=2∨j=3∨j=4∨j=5 by omega)with rfl | rfl | rfl | rfl | rfl | rfl<;>rfl)
    rw[show Lib.maxOf ((sd PL nm fr).take 6)=pM PL nm fr from rfl]at M
    have a5:=Lq M;clear hq M
    gi_wp2_with fail
    refine⟨trivial,hdd _,(CallsIn.inRound l2 (callsIn_wide.2 a5.out)).mono ?_⟩;rintro e w8 ⟨rfl,rfl⟩;obtain⟨⟨bn,bf,bl⟩,hbb⟩:=ex (gR PL R);have hf:=HF.out;rw[hbb]at hf;have HBB:=Lq hbb;have hz9:=hf.keep.size;have HFR:Hid (iy W9 gN gF gL (bn,bf,bl) w8):=Lq (hf.below z.out hf.keep.size (by omega) (by omega) (by omega))
    have c0:=HFR.out.l.c 0;obtain⟨wv,hwv⟩:=ex (pM PL nm fr);rw[hwv];have HWV:=Lq hwv;clear hf hbb hwv G hk hk0;by_cases hw:wv<bl
    ·gi_wp2_with fail
     refine ET (show gN≠gF∧gN≠gL∧gF≠gL∧g12≠gN∧g12≠gF∧g12≠gL by omega) HFR.out.n HFR.out.f HFR.out.l (aB.out.keep z.out) ?_
     rintro bg bh bi bj bk wx ⟨V0,F,rfl⟩;have HFX:=Lq (HFR.out.put3 F (show gN≠gF∧gN≠gL∧gF≠gL by omega) nm fr wv)
     have a4:Hid (bX (fun k=>k=gN∨k=gF∨k=gL) W2 (((V0.setCell ⟨gN,0,none⟩ (.string nm)).setCell ⟨gF,0,none⟩ (iv fr)).setCell ⟨gL,0,none⟩ (iv wv))):=Lq ((bX.of_below (bT z.out F)).trans (by
      refine⟨by simp,fun i r hl=>?_⟩
      rw[Below.heap_setCell _ _ _ _ (fun e=>r (.inr (.inr e))),Below.heap_setCell _ _ _ _ (fun e=>r (.inr (.inl e))),Below.heap_setCell _ _ _ _ (fun e=>r (.inl e))]))
     gi_wp2_with fail
     refine⟨a4.out, ?_⟩;show iy W9 gN gF gL (gR PL (R++[(nm,fr)])) _
     rw[xe,HBB.out,show m6 PL (bn,bf,bl) (nm,fr)=(nm,fr,wv)by unfold m6;simp only[HWV.out,if_pos hw]]
     exact HFX.out
    ·gi_wp2_with fail
     refine⟨bX.of_below z.out, ?_⟩;show iy W9 gN gF gL (gR PL (R++[(nm,fr)])) _
     rw[xe,HBB.out,show m6 PL (bn,bf,bl) (nm,fr)=(bn,bf,bl)by unfold m6;simp only[HWV.out,if_neg (show ¬wv<bl by omega)]]
     exact HFR.out
 ·intro W hI aY hD;have HD:=Lq hD;obtain⟨⟨bn,bf,bl⟩,hbb⟩:=ex (gR PL (dG (gA PL)));have hfd:=HFD.out;rw[hbb]at hI hfd;have HBB:=Lq hbb;have HI:=Lq hI;have c0:=hI.n.c 0;have hfe:bn.toList.isEmpty=false:=hfd;clear hI hD hbb hfd
  gi_wp2_with fail
  refine(wpIn_wide).2 ?_;refine EV (show gN≠gF∧gN≠gL∧gF≠gL by omega) HI.out.n HI.out.f HI.out.l ?_
  rintro bm bo bp wx ⟨V0,F,rfl⟩;have HFX:=Lq (HI.out.put3 F (show gN≠gF∧gN≠gL∧gF≠gL by omega) bn bf bl)
  have aw:Hid (V0.heap[W9.heap.size]?=some (.deferred (some []))):=Lq ((F.block _ (by omega)).trans HD.out)
  have ax:Hid ((((V0.setCell ⟨gN,0,none⟩ (.string bn)).setCell ⟨gF,0,none⟩ (iv bf)).setCell ⟨gL,0,none⟩ (iv bl)).heap[W9.heap.size]?=some (.deferred (some []))):=Lq (by
   rw[Below.heap_setCell _ _ _ _ (by show _≠gL;omega),Below.heap_setCell _ _ _ _ (by show _≠gF;omega),Below.heap_setCell _ _ _ _ (by show _≠gN;omega)]
   exact aw.out)
  obtain⟨WX,aI⟩:=ex (((V0.setCell ⟨gN,0,none⟩ (.string bn)).setCell ⟨gF,0,none⟩ (iv bf)).setCell ⟨gL,0,none⟩ (iv bl));rw[aI]at HFX ax ⊢;clear aI F aw c0
  gi_wp2_with fail
  refine⟨by simp,.inl ⟨_,_,rfl,run_takeDeferred ax.out, ?_⟩⟩
  have U:=HFX.out.below (oZ WX (lr W9.heap.size) (.deferred none)) (lr _) (by omega) (by omega) aM
  have y0:=U.n.c 0;have y1:=U.f.c 0;have y2:=U.l.c 0;refine⟨.tuple #[.string bn,iv bf,iv bl,iv 0],by simp[results,Tryz.results47,go_sem,y0,y1,y2], ?_,U.fin HBW9.out ?_ ?_ ?_⟩
  ·rw[HBB.out]
  ·have:=HNE.out;omega
  ·have:=HNE.out;omega
  ·have:=HNE.out;omega
end
attribute [local go_sem] Oper.semAt_some
theorem pN(A B:Option Addr)(l:List ByteArray)(c v:Nat)(w:World)(t:am .string w w.heap.size A l)(u:am .string w w.heap.size B l)(z:l.length≤1000000) :
  Cs 55 #[.slice A l.length c,.slice B l.length v] w (Rt w (.bool true)):=by
 have p:Hid (∀W,BW w W→am .string W w.heap.size A l):=Lq fun W hb=>t.below hb (lr _)
 have q:Hid (∀W,BW w W→am .string W w.heap.size B l):=Lq fun W hb=>u.below hb (lr _)
 clear t u;go_enter Tryz.func55,Tryz.ntmps55
 go_wp2_with fail;go_loopw [5,6] (fun b i wr=>∃k:Nat,k≤l.length∧i=iv k∧b=.bool true∧Hid (BW w wr)) (fun _ i _=>l.length-(intOf i).toNat)
 case atStart=>exact⟨0,Nat.zero_le _,rfl,rfl,Lq (bR _)⟩
 case round =>
  obtain⟨k,y,rfl,rfl,a⟩:=hrel;have hk0:=nn k;have hkw:IntKind.i64.wrap ((k:Int)+1)=(k:Int)+1:=by rw[IntKind.wrap_i64];omega
  by_cases hlt:k<l.length
  ·obtain⟨x,hx⟩:=gX (l:=l) (i:=k) hlt;have HS:Hid (∀W,BW wr W→(∃b o,A=some ⟨b,o,none⟩∧cA W b (o+k) (.string x))∧(∃b o,B=some ⟨b,o,none⟩∧cA W b (o+k) (.string x))):=Lq fun W hb=>by
    obtain⟨h,m,f,_,r⟩:=p.out W (bT a.out hb) k x hx;obtain⟨j,n,g,_,s⟩:=q.out W (bT a.out hb) k x hx;exact⟨⟨h,m,f,r⟩,⟨j,n,g,s⟩⟩
   obtain⟨⟨h,m,rfl,_⟩,⟨j,n,rfl,_⟩⟩:=HS.out wr (bR _);have HS2:Hid (∀W,BW wr W→cA W h (m+k) (.string x)∧cA W j (n+k) (.string x)):=Lq fun W hb=>by
    obtain⟨⟨_,_,f,r⟩,⟨_,_,g,s⟩⟩:=HS.out W hb;injection f with f
    injection f with e11 e12
    injection g with g
    injection g with e21 e22
    subst e11 e12 e21 e22;exact⟨r,s⟩
   clear hx HS;go_wp2_with fail;go_upto_region 5 with fail
   go_region_held3 (fun W=>cA W h (m+k) (.string x)∧cA W j (n+k) (.string x)) (first | exact HS2.out _ (aZ (bR _)) | exact HS2.out _ (fc (bR _))) (first | fail)
   have d:Hid (BW w wr.drew):=Lq (bT a.out (fc (bR wr)));generalize wr.drew=wq at d ⊢;have hkl:k+1≤l.length:=hlt;go_wp2_with fail;go_roundw
   case measure=>simp[intOf];omega
   case rel=>exact⟨k+1,hkl,by go_num,rfl,d⟩
  ·obtain rfl:k=l.length:=by omega
   go_wp2_with fail;go_ret
   exact⟨rfl,a.out⟩
theorem Fb(A B:Option Addr)(l:List Int)(c v:Nat)(w:World)(t:am iv w w.heap.size A l)(u:am iv w w.heap.size B l)(z:l.length≤1000000) :
  Cs 56 #[.slice A l.length c,.slice B l.length v] w (Rt w (.bool true)):=by
 have p:Hid (∀W,BW w W→am iv W w.heap.size A l):=Lq fun W hb=>t.below hb (lr _)
 have q:Hid (∀W,BW w W→am iv W w.heap.size B l):=Lq fun W hb=>u.below hb (lr _)
 clear t u;go_enter Tryz.func56,Tryz.ntmps56
 go_wp2_with fail;go_loopw [5,6] (fun b i wr=>∃k:Nat,k≤l.length∧i=iv k∧b=.bool true∧Hid (BW w wr)) (fun _ i _=>l.length-(intOf i).toNat)
 case atStart=>exact⟨0,Nat.zero_le _,rfl,rfl,Lq (bR _)⟩
 case round =>
  obtain⟨k,y,rfl,rfl,a⟩:=hrel;have hk0:=nn k;have hkw:IntKind.i64.wrap ((k:Int)+1)=(k:Int)+1:=by rw[IntKind.wrap_i64];omega
  by_cases hlt:k<l.length
  ·obtain⟨x,hx⟩:=gX (l:=l) (i:=k) hlt;have HS:Hid (∀W,BW wr W→(∃b o,A=some ⟨b,o,none⟩∧cA W b (o+k) (iv x))∧(∃b o,B=some ⟨b,o,none⟩∧cA W b (o+k) (iv x))):=Lq fun W hb=>by
    obtain⟨h,m,f,_,r⟩:=p.out W (bT a.out hb) k x hx;obtain⟨j,n,g,_,s⟩:=q.out W (bT a.out hb) k x hx;exact⟨⟨h,m,f,r⟩,⟨j,n,g,s⟩⟩
   obtain⟨⟨h,m,rfl,_⟩,⟨j,n,rfl,_⟩⟩:=HS.out wr (bR _);have HS2:Hid (∀W,BW wr W→cA W h (m+k) (iv x)∧cA W j (n+k) (iv x)):=Lq fun W hb=>by
    obtain⟨⟨_,_,f,r⟩,⟨_,_,g,s⟩⟩:=HS.out W hb;injection f with f
    injection f with e11 e12
    injection g with g
    injection g with e21 e22
    subst e11 e12 e21 e22;exact⟨r,s⟩
   clear hx HS;go_wp2_with fail;go_upto_region 5 with fail
   go_region_held3 (fun W=>cA W h (m+k) (iv x)∧cA W j (n+k) (iv x)) (first | exact HS2.out _ (aZ (bR _)) | exact HS2.out _ (fc (bR _))) (first | fail)
   have d:Hid (BW w wr.drew):=Lq (bT a.out (fc (bR wr)));generalize wr.drew=wq at d ⊢;have hkl:k+1≤l.length:=hlt;go_wp2_with fail;go_roundw
   case measure=>simp[intOf];omega
   case rel=>exact⟨k+1,hkl,by go_num,rfl,d⟩
  ·obtain rfl:k=l.length:=by omega
   go_wp2_with fail;go_ret
   exact⟨rfl,a.out⟩
end Go.Proofs.YtbillnhcmkpohaaGreatDoor
namespace Go.Proofs.YtbillnhcmkpohaaGreatDoor
open Go.RowKit
theorem Fc(L:Option Addr)(l:List Int)(B cap:Nat)(n:Int)(w:World)(g:B≤w.heap.size)(q:l.length≤maxLen)(j:am iv w B L l) :
  Cs 28 #[.slice L l.length cap,iv n] w (Rt w (.bool (l.contains n))):=by
 have p:=Lq j;have HZ:=Lq g;unfold maxLen at q;clear j g;go_enter Tryz.func28,Tryz.ntmps28
 go_wp2_with fail;go_loopw [5] (fun i wr=>∃k:Nat,k≤l.length∧i=iv k∧Hid (∀x∈l.take k,x≠n)∧Hid (BW w wr)) (fun i _=>l.length-(intOf i).toNat)
 case atStart=>exact⟨0,Nat.zero_le _,rfl,Lq (by simp),Lq (bR w)⟩
 case round =>
  obtain⟨k,s,rfl,d,c⟩:=hrel;have hk0:=nn k;by_cases hlt:k<l.length
  ·obtain⟨x,hx⟩:=gX (l:=l) (i:=k) hlt;obtain⟨b,off,hA, -,hc⟩:=p.out.below c.out HZ.out k x hx;subst hA;have HX:=Lq hx;clear hx;by_cases he:x=n
   ·subst he;go_wp2_with fail;go_ret
    refine⟨?_,c.out⟩;have:l.contains x=true:=List.contains_iff_mem.2 (mG ⟨k,HX.out⟩);rw[this];rfl
   ·have r:decide (x=n)=false:=decide_eq_false he;go_wp2_with fail;go_roundw
    case measure=>simp[intOf];omega
    case rel =>
     refine⟨k+1,by omega,by go_num,Lq fun z a=>?_,c⟩
     rw[List.take_add_one,HX.out]at a;simp only[Option.toList_some,List.mem_append,List.mem_singleton]at a;rcases a with a | rfl
     ·exact d.out z a
     ·exact he
  ·obtain rfl:k=l.length:=by omega
   have m:l.contains n=false:=by
    rw[List.contains_eq_mem];refine decide_eq_false fun h=>?_
    have f:=d.out;rw[List.take_of_length_le (lr _)]at f;exact f n h rfl
   have o:=Lq m;clear m;go_wp2_with fail;go_ret
   exact⟨by rw[o.out];rfl,c.out⟩
def dh(f:ah→Int)(l:List Int)(ps:List ah)(k:Nat):Int:=((List.range k).map fun(i:Nat)=>if l.contains (i:Int)=true then(ps[i]?.map f).getD 0 else 0).sum
theorem mu{f:ah→Int}{l:List Int}{a:List ah}{k:Nat}{p:ah}(h:a[k]?=some p):dh f l a (k+1)=dh f l a k+if l.contains (k:Int)=true then f p else 0:=by unfold dh;rw[List.range_succ,List.map_append,List.sum_append];simp[h]
theorem se{f:ah→Int}{l:List Int}{a:List ah}(h:∀p∈a,0≤f p∧f p≤1000000):∀k:Nat,k≤a.length→0≤dh f l a k∧dh f l a k≤1000000*(k:Int)
 | 0,_=>by simp[dh]
 | k+1,hk=>by
  obtain⟨p,b⟩:=gX (l:=a) (i:=k) (by omega)
  have c:=se (l:=l) h k (by omega)
  have d:=h p (mG ⟨k,b⟩);rw[mu b];split<;>omega
noncomputable def Fd:Array Oper:=aU (aF Tryz.f11 6)
theorem Fe(A L:Option Addr)(ms:List aj)(l:List Int)(B cap s:Nat)(w:World)(I:B≤w.heap.size)(H:az w B A cap ms)(J:am iv w B L l)(M:l.length≤maxLen)(G:aE (ab ms)) :
  Cs 11 #[.slice A ms.length cap,.slice L l.length s,.bool true] w (Rt w (.agg #[iv (dh ah.wlo l (ab ms) ms.length),iv (dh ah.whi l (ab ms) ms.length)])):=by
 have u:∀p∈ab ms,(0≤p.wlo∧p.wlo≤1000000)∧(0≤p.whi∧p.whi≤1000000):=fun p hp=>by obtain⟨i,hi⟩:=List.mem_iff_getElem?.1 hp;have:=(G.part i p hi).wt;omega
 have K:ms.length≤12:=by have:=G.len;simpa using this
 have E:=Lq fun k (z:k≤ms.length)=>se (f:=ah.wlo) (l:=l) (fun p hp=>(u p hp).1) k (by simpa using z)
 have F:=Lq fun k (z:k≤ms.length)=>se (f:=ah.whi) (l:=l) (fun p hp=>(u p hp).2) k (by simpa using z)
 have D:=Lq u;obtain⟨W1,hW1,b1⟩:=nA w (.cells #[iv 0,iv 0] 33);obtain⟨W2,hW2,b2⟩:=nA W1 (.cells #[iv 0,iv 0] 33);obtain⟨g6,hg6⟩:=ex w.heap.size;obtain⟨g7,hg7⟩:=ex W1.heap.size;have HG:Hid (w.heap.size≤g6∧g6<g7):=Lq (by
  have:W1.heap.size=w.heap.size+1:=by rw[←hW1];simp
  omega)
 have a:Hid (aa W2 g6 33 #[iv 0,iv 0]):=Lq (by rw[←hW2];exact aa.alloc (by rw[←hW1,←hg6];exact aa.new w 33 _) _)
 have d:Hid (aa W2 g7 33 #[iv (dh ah.wlo l (ab ms) 0),iv (dh ah.whi l (ab ms) 0)]):=Lq (by rw[show dh ah.wlo l (ab ms) 0=0 from rfl,show dh ah.whi l (ab ms) 0=0 from rfl,←hW2,←hg7];exact aa.new W1 33 _)
 have C:=Lq (bT b1 b2);have HH:=Lq H;have HLR:=Lq J;have HZ:=Lq I;have HML:=Lq M;have hca:ms.length≤cap:=H.le;have hcb:=H.max;unfold maxLen at hcb;clear H J I M G u b1 b2;go_enter Tryz.func11,Tryz.ntmps11
 go_wp2_with fail;clear hW1 hW2 hg6 hg7;go_loopw [8] (fun i wr=>∃k:Nat,k≤ms.length∧i=iv k∧Hid (aa wr g6 33 #[iv 0,iv 0])∧Hid (aa wr g7 33 #[iv (dh ah.wlo l (ab ms) k),iv (dh ah.whi l (ab ms) k)])∧Hid (BW w wr)) (fun i _=>ms.length-(intOf i).toNat)
 case atStart=>exact⟨0,Nat.zero_le _,rfl,a,d,C⟩
 case round =>
  clear a d C;obtain⟨k,z,rfl,a,d,y⟩:=hrel;have hk0:=nn k;obtain⟨a1,a2⟩:=E.out k z;obtain⟨a3,a4⟩:=F.out k z;by_cases hlt:k<ms.length
  ·obtain⟨m,t⟩:=gX (l:=ms) (i:=k) hlt;have hbp:=D.out m.p (mG ⟨k,bN t⟩);have g:=mu (f:=ah.wlo) (l:=l) (bN t);have hs2:=mu (f:=ah.whi) (l:=l) (bN t);obtain⟨b,off,hA,hbB,hMy,c0,c1,c2,c3,c4,c5,c6⟩:=(HH.out.rd.below y.out HZ.out).at t;obtain⟨⟨yn,yk,yf,yl,yon,yw,yz⟩,yA,yc⟩:=m;subst hA;simp only at c5 c6 hbp g hs2;obtain⟨bc,hbc⟩:=ex (l.contains (k:Int));have HD:Hid (Cs 28 #[.slice L l.length s,iv k] wr (Rt wr (.bool bc))):=Lq (hbc▸Fc L l B s k wr (lT HZ.out y.out.size) HML.out (HLR.out.below y.out HZ.out));rw[hbc]at g hs2;obtain⟨h,hs1'⟩:=ex (dh ah.wlo l (ab ms) k);obtain⟨s2,hs2'⟩:=ex (dh ah.whi l (ab ms) k);rw[hs1']at a1 a2 g d;rw[hs2']at a3 a4 hs2 d;have HS12:=Lq (And.intro g hs2);have HC5:=Lq c5;have HC6:=Lq c6;clear t hMy c0 c1 c2 c3 c4 c5 c6 g hs2 hs1' hs2' hbc;go_wp2_with fail;refine HD.out.mono ?_;rintro e w3 ⟨rfl,(HB3:Hid _)⟩;cases bc
   ·go_wp2_with fail;go_roundw
    case measure=>simp[intOf];omega
    case rel =>
     refine⟨k+1,by omega,by go_num,Lq (a.out.keep HB3.out),Lq ?_,Lq (bT y.out HB3.out)⟩
     rw[HS12.out.1,HS12.out.2];simp only[Bool.false_eq_true,if_false,Int.add_zero];exact d.out.keep HB3.out
   ·have o:=Lq (d.out.keep HB3.out);have HSA:Hid (∀W,BW w3 W→cA W g7 0 (iv h)∧cA W g7 1 (iv s2)∧cA W b (off+k*7+5) (iv yw)∧cA W b (off+k*7+6) (iv yz)):=Lq fun W hb=>⟨(o.out.keep hb).c 0,(o.out.keep hb).c 1,kC (bT HB3.out hb) HC5.out,kC (bT HB3.out hb) HC6.out⟩
    have N:IntKind.i64.wrap (h+yw)=h+yw:=by rw[IntKind.wrap_i64];omega
    have O:IntKind.i64.wrap (s2+yz)=s2+yz:=by rw[IntKind.wrap_i64];omega
    go_upto_region 6 with fail
    refine cJ (late:=fun j=>j==19) (ops:=Fd) (r:=6) (n:=20) (S:=fun W=>cA W g7 0 (iv h)∧cA W g7 1 (iv s2)∧cA W b (off+k*7+5) (iv yw)∧cA W b (off+k*7+6) (iv yz)) HSA.out fun V0 HB0 hHeld=>?_
    refine ae 0 (pT g7 0) ?_;refine ae 1 (iv h) ?_;refine ae 2 (.slice (some ⟨b,off,none⟩) ms.length cap) ?_;refine ae 3 (iv k) ?_;refine ae 4 (pT b (off+k*7)) ?_;refine ae 5 (pT b (off+k*7+5)) ?_;refine ae 6 (pT b (off+k*7+5)) ?_;refine ae 7 (iv yw) ?_;refine ae 8 (iv (h+yw)) ?_;refine ae 9 (pT g7 1) ?_;refine ae 10 (iv s2) ?_;refine ae 11 (.slice (some ⟨b,off,none⟩) ms.length cap) ?_;refine ae 12 (iv k) ?_;refine ae 13 (pT b (off+k*7)) ?_;refine ae 14 (pT b (off+k*7+5)) ?_;refine ae 15 (pT b (off+k*7+6)) ?_;refine ae 16 (iv yz) ?_;refine ae 17 (iv (s2+yz)) ?_;refine ae 18 (.agg #[iv (h+yw),iv (s2+yz)]) ?_;have q:=o.out.keep HB0.out;obtain⟨f0,f1⟩:=q.f2;obtain⟨e0,e1⟩:=q.c2;have el:=q.lt;have qb:=(q.set_ 0 (iv (h+yw))).set_ 1 (iv (s2+yz));simp only[List.setIfInBounds_toArray,List.set_cons_zero,List.set_cons_succ]at qb;have HQB:=Lq qb;have HQ6B:=Lq (((a.out.keep (bT HB3.out HB0.out)).far (p:=⟨g7,0,none⟩) (by have:=HG.out;show g6≠g7;omega) (iv (h+yw))).far (p:=⟨g7,1,none⟩) (by have:=HG.out;show g6≠g7;omega) (iv (s2+yz)))
    have x:=Lq (aH (aH (bT y.out (bT HB3.out HB0.out)) (by have:=HG.out;show w.heap.size≤g7;omega) (p:=⟨g7,0,none⟩) (iv (h+yw))) (by have:=HG.out;show w.heap.size≤g7;omega) (p:=⟨g7,1,none⟩) (iv (s2+yz)))
    clear q qb;refine bO 19 fun R hK=>?_
    go_simp;refine hK.out _ _ ?_;clear hK;refine dL ?_;clear hHeld f0 f1 e0 e1 el;go_wp2_with fail;go_roundw
    case measure=>simp[intOf];omega
    case rel =>
     refine⟨k+1,by omega,by go_num,HQ6B,Lq ?_,x⟩
     rw[HS12.out.1,HS12.out.2];simp only[if_true];exact HQB.out
  ·obtain rfl:k=ms.length:=by omega
   obtain⟨h,g⟩:=ex (dh ah.wlo l (ab ms) ms.length);obtain⟨s2,hs2⟩:=ex (dh ah.whi l (ab ms) ms.length);rw[g,hs2]at d;have HE:=Lq (And.intro g hs2);obtain⟨e0,e1⟩:=d.out.c2;obtain⟨f0,f1⟩:=a.out.f2;obtain⟨h0,h1⟩:=a.out.c2;have el:=a.out.lt;have qb:=(a.out.set_ 0 (iv h)).set_ 1 (iv s2);simp only[List.setIfInBounds_toArray,List.set_cons_zero,List.set_cons_succ]at qb;obtain⟨d0,d1⟩:=qb.c2;have x:=Lq (aH (aH y.out HG.out.1 (p:=⟨g6,0,none⟩) (iv h)) HG.out.1 (p:=⟨g6,1,none⟩) (iv s2));clear qb g hs2;go_wp2_with fail;exact bodyPost_ret (v:=.agg #[iv h,iv s2]) (by simp[results,Tryz.results11,go_sem,d0,d1]) rfl ⟨by rw[HE.out.1,HE.out.2],x.out⟩
end Go.Proofs.YtbillnhcmkpohaaGreatDoor
namespace Go.Proofs.YtbillnhcmkpohaaGreatDoor
open Go.RowKit Go.Shelf
section
variable{Q:Exit→Act→World→Prop}{j:Nat}{w:World}
attribute [local go_sem] Oper.semAt_some
theorem Ff(B b:Nat)(bs:List Value)(s:ByteArray)(w:World)(h:Lib.IsBuilder 233 5 B b bs w)(a:bs.length+s.size≤140737488355328)(c:B≤w.heap.size) :
  Cs 165 #[pT b 0,.string s] w fun e w'=>e=.returned (.tuple #[iv s.size,.nilIface])∧(Lib.BuilderAt 233 5 B b (pT b 0) (bs++Lib.strCells s) w'∧Below B w w'):=Any.Builder_WriteString { Tryz.lays156 with } Tryz.Builder_Extra_156 B b bs s w h a c
theorem Fg(base:Nat)(d:TypeId)(i:TypeInfo)(b:Tryz.prog.info? 9=some i)(v:Value)(n c:Nat)(xs:List Value)(a:w.ownsRow base 9 1 v n xs) :
  (Builtin.append_ #[40,40] d #[v,.slice none 0 c]).run Tryz.prog w=.ok v w:=by
 rcases a.2 with⟨rfl,rfl⟩ | ⟨g,cap,cur,rfl,_,_,hnc,_⟩
 ·simp[Builtin.append_,run_underlying Tryz.underlying40,sizeOf,typeInfo,b,Builtin.lenOf,Builtin.firstCells]
 ·simp[Builtin.append_,run_underlying Tryz.underlying40,sizeOf,typeInfo,b,Builtin.lenOf,Builtin.firstCells,hnc,storeCells]
theorem sf{ops:Array Oper}{rest:List Oper}{o:Oper}{a:Act}(g:o.guard=none)(s x:Operand)(u:o.op=.call { callee:=.builtin .append,args:=#[s,x],argTypes:=#[40,40] })(base:Nat)(v:Value)(n:Nat)(xs:List Value)(y:a.eval s=v)(c:w.ownsRow base 9 1 v n xs)(A:Option Addr)(cap B:Nat)(l:List ByteArray)(hx:a.eval x=.slice A l.length cap)(k:am .string w B A l)(r:n+l.length≤maxLen)(d:(n+l.length)*16≤140737488355328)(f:base≤w.heap.size)(h:∀v' w',w'.ownsRow base 9 1 v' (n+l.length) (xs++l.map .string)→w.grownBy w' v.ownBlock→wpList Tryz.prog ops Q rest (a.put o.dst v') w') :
  wpList Tryz.prog ops Q (o::rest) a w:=by
 obtain⟨z,i,m,p,q⟩:=info_parts Tryz.info9;cases A with
 | none =>
  have C:l=[]:=by
   cases l with
   | nil=>rfl
   | cons x t =>
    obtain⟨_,_,h,_⟩:=k 0 x rfl;cases h
  subst C;refine wpList_plain g fun K hK=>?_
  have D:=Fg (w:=w) base o.type z i v n cap xs c;unfold Oper.wp execOp;simp only[List.length_nil]at hx;simp only[u,resolve,invoke,builtin,Sem.run_bind,Sem.run_pure,Result.andThen_ok,List.map_toArray,List.map_cons,List.map_nil,y,hx,D];exact hK _ _ (h v w (by simpa using c) (oY _ _))
 | some ad =>
  exact qR g s x 40 u base 9 z (.string ⟨#[]⟩) 1 16 Tryz.underlying40 i m p q rfl (by decide) v n xs y c (.slice (some ad) l.length cap) l.length _ hx (nZ k) r d f fun v' w' a b _=>h v' w' a b
def iW:List ByteArray:=[⟨#[112,108,97,116,101]⟩,⟨#[98,101,97,109]⟩,⟨#[101,110,103,105,110,101]⟩,⟨#[116,97,110,107]⟩,⟨#[112,105,112,101]⟩]
def Fh(w:World)(e:Ending)(w':World):Prop:=e=.returned (.slice (some ⟨w.heap.size,0,none⟩) 5 5)∧w'=w.alloc (.cells (iW.map .string).toArray 9)
theorem xg(w:World):Cs 173 #[] w (Fh w):=by
 go_enter Tryz.func173,Tryz.ntmps173
 go_wp2_with fail;go_ret
 exact⟨rfl,rfl⟩
def m7(k:Nat):ByteArray:=iW.getD k ⟨#[]⟩
noncomputable def Fi:Array Oper:=aU (aF Tryz.f167 1)
theorem Fj{V:World}{g:Nat}{f:ByteArray}{c:Int}{q s zD t u zG zH zI zJ zK zL zM zN zO v x y z A B C D E F G H I J K L M N O R T U X Y Z zo:Value}(hk:1≤c∧c≤5)(hc:∀W,BW V W→cA W g 0 (.string f)∧cA W g 1 (iv c))(o:∀u6 u7 u8 u9 u10 u11 u12 u13 u14 wx,(∃gl,BW V wx∧wx.ownsRow V.heap.size 9 1 (.slice (some ⟨gl,0,none⟩) 2 2) 2 [.string f,.string (m7 (c-1).toNat)]∧u14=.slice (some ⟨gl,0,none⟩) 2 2)→Q .normal ⟨#[q,pT g 0,s,u14,t,u,u6,u7,u8,u9,u10,u11,u12,u13,u14,v,x,y,z,A,B,C,D,E,F,G,H,I,J,K,L,M,N,O,R,T,U,X,Y,Z,zo],[]⟩ wx) :
  (aF Tryz.f167 1).wp Tryz.prog Q ⟨#[q,pT g 0,s,zD,t,u,zG,zH,zI,zJ,zK,zL,zM,zN,zO,v,x,y,z,A,B,C,D,E,F,G,H,I,J,K,L,M,N,O,R,T,U,X,Y,Z,zo],[]⟩ V:=by
 have h:=Lq hc;have HQ:=Lq o;clear hc o;have hkw:IntKind.i64.wrap (c-1)=c-1:=by rw[IntKind.wrap_i64];omega
 have l:0≤c-1:=by omega
 have m:c-1<5:=by omega
 obtain⟨d,i⟩:∃n:Nat,c-1=(n:Int):=⟨(c-1).toNat,by omega⟩
 rw[i]at hkw l m HQ;rw[Int.toNat_natCast]at HQ;have ab:=Lq i;refine gd (ops:=Fi) (r:=1) (n:=10) (S:=fun W=>cA W g 0 (.string f)∧cA W g 1 (iv c)) (fun W hb=>h.out W hb) fun V0 HB0 a=>?_
 refine tk 0 (pT g 0) ?_;refine tk 1 (.string f) ?_;refine tk 3 (pT g 1) ?_;refine tk 4 (iv c) ?_;refine tk 5 (iv d) ?_;refine rd1 2 fun k hK=>?_
 go_simp;refine(xg _).mono ?_;rintro e w1 ⟨rfl,rfl⟩;have hb1:BW V0 (V0.alloc (.cells (iW.map .string).toArray 9)):=bA (bR V0) _;have hq1:=aa.new V0 9 (iW.map .string).toArray;have ck:(V0.alloc (.cells (iW.map .string).toArray 9)).cell? ⟨V0.heap.size,d,none⟩=some (.string (m7 d)):=by rw[hq1.cell];rcases(show d=0∨d=1∨d=2∨d=3∨d=4 by omega)with rfl | rfl | rfl | rfl | rfl<;>rfl
 have b:=Lq (bT HB0.out hb1);obtain⟨W1,hW1⟩:=ex (V0.alloc (.cells (iW.map .string).toArray 9));obtain⟨gk,hgk⟩:=ex V0.heap.size;rw[hW1]at ck b;rw[hgk]at ck;simp only[hW1,hgk];refine hK.out _ _ (h.out _ b.out) (fun a=>?_)
 clear hK hb1 hq1;refine rd1 6 fun k hK=>?_
 go_simp;refine hK.out _ _ (h.out _ b.out) (fun a=>?_)
 clear hK;refine rd1 7 fun k hK=>?_
 go_simp;refine hK.out _ _ (h.out _ b.out) (fun a=>?_)
 clear hK;refine rd1 8 fun k hK=>?_
 go_simp;have p:=World.ownsRow_lit (base:=V.heap.size) (e:=9) (size:=1) W1 #[.string f,.string (m7 d)] 2 b.out.size (by decide) rfl
 have HR:=Lq p;have HB2:=Lq (bT b.out (bA (bR W1) (.cells #[.string f,.string (m7 d)] 9)));refine hK.out _ _ (h.out _ HB2.out) (fun a=>?_)
 clear hK p;refine tk 9 (.slice (some ⟨W1.heap.size,0,none⟩) 2 2) ?_;exact dn (HQ.out _ _ _ _ _ _ _ _ _ _ ⟨_,HB2.out,HR.out,rfl⟩)
def aW(n:Int):ByteArray:=⟨(Lib.itoa n).toArray⟩
def kK(p:ah):List Int:=[p.first,p.last,p.wlo,p.whi]
def gB(p:ah):List ByteArray:=[p.name,m7 (p.kind-1).toNat]++(kK p).map aW++p.on
def mv(p:ah)(j:Nat):List ByteArray:=[p.name,m7 (p.kind-1).toNat]++((kK p).take j).map aW
theorem xh{p:ah}(a:j≤4):(mv p j).length=2+j:=by
 unfold mv;rw[List.length_append,List.length_map,List.length_take];show 2+min j 4=_
 omega
theorem Fk{p:ah}{n:Int}(h:(kK p)[j]?=some n):mv p (j+1)=mv p j++[aW n]:=by unfold mv;rw[List.take_add_one,h,List.map_append,←List.append_assoc];rfl
theorem xi(p:ah):mv p 4++p.on=gB p:=rfl
def mw(p:ah)(j:Nat):List Value:=(mv p j).map .string
def fe(w:World):Prop:=Lib.TabIs Tryz.prog w "internal/strconv.uint64pow10" .u64 Lib.pow10Tab
theorem fe.below{w':World}{B:Nat}(h:fe w)(b:Below B w w')(a:w.heap.size≤B):fe w':=Go.Joins.tab_stays (g:=_) (show Tryz.prog.globalNamed _=some _ by rfl) h b a
theorem m9(n:Int)(a:-9223372036854775808≤n)(b:n≤9223372036854775807)(w:World)(c:fe w):Cs 168 #[iv n] w (Rt w (.string (aW n))):=by refine(Tryz.strconv_Itoa n a b w c).mono ?_;rintro e w' ⟨rfl,k,os,rfl⟩;exact⟨rfl,Lib.below_grow _ _ (lr _) k os⟩
theorem si(m:aj)(w:World)(K:aR w w.heap.size m)(M:fe w)(T:1≤m.p.kind∧m.p.kind≤5)(L:∀n∈kK m.p, -9223372036854775808≤n∧n≤9223372036854775807)(t:m.p.on.length≤1000) :
  Cs 167 #[mV m] w (pq (gB m.p) w):=by
 obtain⟨X,F,z,B,C⟩:=info_parts Tryz.info9;obtain⟨⟨nm,kd,fi,la,on,lo,hi⟩,A,c⟩:=m;obtain⟨W1,hW1,b1⟩:=nA w (.cells #[.string nm,iv kd,iv fi,iv la,.slice A on.length c,iv lo,iv hi] 50);have q1:aa W1 w.heap.size 50 #[.string nm,iv kd,iv fi,iv la,.slice A on.length c,iv lo,iv hi]:=by rw[←hW1];exact aa.new w 50 _
 obtain⟨g,J⟩:=ex w.heap.size;rw[J]at q1;have HQ1:=Lq q1;have HB1:=Lq b1;have HG:Hid (w.heap.size=g):=Lq J;have HM:Hid (aR w w.heap.size ⟨⟨nm,kd,fi,la,on,lo,hi⟩,A,c⟩):=Lq K;have HT:=Lq M;have HN:=Lq L;have HON:Hid (on.length≤1000):=Lq t;clear q1 b1 K M L t;go_enter Tryz.func167,Tryz.ntmps167
 go_upto_region 1 with fail
 refine Fj T (fun W I=>⟨(HQ1.out.keep I).c 0,(HQ1.out.keep I).c 1⟩) ?_
 rintro u6 u7 u8 u9 Y Z ab ac ad x ⟨S,r,k,rfl⟩;have HBX:=Lq (bT HB1.out r);have hqx:=HQ1.out.keep r;obtain⟨d0,d1,d2,d3,d4,d5,d6⟩:=hqx.c7;have hlx:=hqx.lt;obtain⟨W3,hW3⟩:=ex (x.alloc (.cells #[iv fi,iv la,iv lo,iv hi] 3));have HB3:Hid (BW w W3):=Lq (bT HBX.out (by rw[←hW3];exact bA (bR x) _))
 have u:aa W3 x.heap.size 3 #[iv fi,iv la,iv lo,iv hi]:=by rw[←hW3];exact aa.new x 3 _
 obtain⟨H,y⟩:=ex x.heap.size;rw[y]at u;have hqg3:aa W3 g 50 #[.string nm,iv kd,iv fi,iv la,.slice A on.length c,iv lo,iv hi]:=hqx.keep (by rw[←hW3];exact bA (bR x) _)
 have E:=Lq (And.intro u hqg3);have HOW3:Hid (W3.ownsRow w.heap.size 9 1 (.slice (some ⟨S,0,none⟩) 2 2) (2+0) (mw ⟨nm,kd,fi,la,on,lo,hi⟩ 0)):=Lq (by rw[←hW3];exact dv (aN k (bA (bR x) _)) HB1.out.size)
 clear r k u hqx hqg3;go_wp2_with fail;clear d0 d1 d2 d3 d4 d5 d6 hW3 y hlx;go_loopw [3,27] (fun v i wr=>∃j:Nat,j≤4∧i=iv j∧Hid (wr.ownsRow w.heap.size 9 1 v (2+j) (mw ⟨nm,kd,fi,la,on,lo,hi⟩ j))∧Hid (BW w wr)∧Hid (aa wr H 3 #[iv fi,iv la,iv lo,iv hi]∧aa wr g 50 #[.string nm,iv kd,iv fi,iv la,.slice A on.length c,iv lo,iv hi])) (fun _ i _=>4-(intOf i).toNat)
 case atStart=>exact⟨0,Nat.zero_le _,rfl,HOW3,HB3,E⟩
 case round =>
  obtain⟨j,hj,rfl,o,d,D⟩:=hrel;have hj0:=nn j;by_cases hlt:j<4
  ·obtain⟨n,f⟩:∃n,(kK ⟨nm,kd,fi,la,on,lo,hi⟩)[j]?=some n:=⟨_,gE (by show j<4;exact hlt)⟩
   have s:=HN.out n (mG ⟨j,f⟩);have cn:wr.cell? ⟨H,j,none⟩=some (iv n):=by rw[D.out.1.cell];unfold kK at f;rcases(show j=0∨j=1∨j=2∨j=3 by omega)with rfl | rfl | rfl | rfl<;>(injection f with e;subst e;rfl)
   have R:=Lq (m9 n s.1 s.2 wr (HT.out.below d.out (lr _)));have HTK:Hid (mw ⟨nm,kd,fi,la,on,lo,hi⟩ (j+1)=mw ⟨nm,kd,fi,la,on,lo,hi⟩ j++[.string (aW n)]):=Lq (by unfold mw;rw[Fk f,List.map_append];rfl)
   clear f s;go_wp2_with fail;refine R.out.mono ?_;rintro e O ⟨rfl,(h:Hid _)⟩;clear cn;obtain⟨sn,hsn⟩:=ex (aW n);rw[hsn];have HSN:=Lq hsn;have HAL:=Lq ((aN o.out h.out).alloc (.cells #[.string sn] 9));clear hsn;go_wp2_with (at_builtin;refine wpList_append_own _ rfl _ _ 40 rfl w.heap.size 9 X (.string ⟨#[]⟩) 1 16 Tryz.underlying40 F z B C rfl (by decide) _ _ _ rfl HAL.out ⟨O.heap.size,0,none⟩ 1 1 [.string sn] rfl rfl (fK _ _ _) ?d2 ?d3 ?d4 ?d5 ?_)
   case d2=>simp[Value.oneCell']
   case d3=>unfold maxLen;omega
   case d4=>omega
   case d5=>have:=d.out.size;have:=h.out.size;(try simp only[World.size_alloc]);omega
   intro N G a b _;have hb9:BW w G:=cC HAL.out b (by first | exact lr _ | exact Nat.le_of_eq HG.out) (bA (bT d.out h.out) _)
   have q:BW wr (O.alloc (.cells #[.string sn] 9)):=bA h.out _;have q1:=D.out.1.keep q;have q2:=D.out.2.keep q;have HQ9:=Lq (And.intro (q1.grown b (ax HAL.out q1 (by decide))) (q2.grown b (ax HAL.out q2 (by decide))))
   have l:=Lq hb9;have HO9:=Lq a;clear a b hb9 q q1 q2;go_wp2_with fail;go_roundw
   case measure=>simp[intOf];omega
   case rel =>
    refine⟨j+1,by omega,by go_num,Lq ?_,l,HQ9⟩
    rw[HTK.out,HSN.out]
    (try rw[HG.out])
    exact HO9.out
  ·obtain rfl:j=4:=by omega
   have c4:=D.out.2.c 4;have t:=HON.out;have HRD:=Lq ((HM.out.below d.out (lr _)).on);go_wp2_with (at_builtin;refine sf rfl _ _ rfl w.heap.size _ _ _ rfl o.out A c w.heap.size on rfl HRD.out (by unfold maxLen;omega) (by omega) (by have:=d.out.size;omega) ?_)
   intro N G a b;have hb9:BW w G:=cC o.out b (lr _) d.out;have l:=Lq hb9;have HO9:=Lq a;clear a b hb9;go_wp2_with fail;go_ret
   refine⟨N,rfl, ?_,l.out⟩;have V:mw ⟨nm,kd,fi,la,on,lo,hi⟩ 4++on.map .string=(gB ⟨nm,kd,fi,la,on,lo,hi⟩).map .string:=by unfold mw;rw[←List.map_append];rfl
   have U:(gB ⟨nm,kd,fi,la,on,lo,hi⟩).length=6+on.length:=by rw[←xi,List.length_append,xh (lr 4)]
   rw[←V,U]
   (try rw[HG.out])
   exact HO9.out
end
section
variable{B b:Nat}{W w:World}
attribute [local go_sem] Oper.semAt_some
theorem nc{bs:List Value}(h:Lib.IsBuilder 233 5 B b bs w)(a:BW w W):Lib.IsBuilder 233 5 B b bs W:=by
 rcases h with⟨h1,v,h2,h3,h4⟩ | ⟨h1,v,h2,h3,h4⟩
 ·exact .inl ⟨h1,v,(a.block b (aa.lt h2)).trans h2,aN h3 a,h4⟩
 ·exact .inr ⟨h1,v,(a.block b (aa.lt h2)).trans h2,aN h3 a,h4⟩
theorem so{base n:Nat}{v:Value}{xs:List Value}{bs:List Value}(h:Lib.IsBuilder 233 5 B b bs w)(c:w.ownsRow base 9 1 v n xs)(a:w.grownBy W v.ownBlock):Lib.IsBuilder 233 5 B b bs W:=by
 rcases h with⟨h1,v',h2,h3,h4⟩ | ⟨h1,v',h2,h3,h4⟩
 ·exact .inl ⟨h1,v',aa.grown h2 a (ax c h2 (by decide)),kA h3 c (by decide) a,h4⟩
 ·exact .inr ⟨h1,v',aa.grown h2 a (ax c h2 (by decide)),kA h3 c (by decide) a,h4⟩
def aM(l:List ByteArray):List UInt8:=Lib.join (l.map (·.data.toList)) [32]++[10]
def hZ:ByteArray:=⟨#[32]⟩
def pO:ByteArray:=⟨#[10]⟩
def xj(B b:Nat)(bs:List UInt8)(l:List ByteArray)(w:World)(e:Ending)(w':World):Prop:=e=.returned (.tuple #[])∧Lib.IsBuilder 233 5 B b (Lib.byteCells (bs++aM l)) w'∧Below B w w'
theorem pP(B b c:Nat)(A:Option Addr)(xs:List ByteArray)(bs:List UInt8)(w:World)(h:Lib.IsBuilder 233 5 B b (Lib.byteCells bs) w)(hx:0<xs.length)(a:am .string w w.heap.size A xs)(hc:xs.length≤c)(C:xs.length≤2000)(z:(aM xs).length≤100000)(t:bs.length≤1000000000)(n:B≤w.heap.size) :
  Cs 164 #[.slice A xs.length c,pT b 0] w (xj B b bs xs w):=by
 obtain⟨y,f⟩:=gX (l:=xs) (i:=0) hx;obtain⟨bk,o,rfl,hbk,_⟩:=a 0 y f;have hcells:∀(j:Nat) x,xs[j]?=some x→cA w bk (o+j) (.string x):=by
  intro j x d;obtain⟨b',o',e,_,hc'⟩:=a j x d;injection e with e
  injection e with e1 e2
  subst e1 e2;exact hc'
 have d:(Lib.join (xs.map (·.data.toList)) [32]).length+1=(aM xs).length:=by unfold aM;rw[List.length_append];rfl
 have q:=Lq (Tryz.strings_Join bk o c xs hZ w hcells hbk (by omega) hc (by show(Lib.join (xs.map (·.data.toList)) [32]).length≤_;omega))
 obtain⟨J,g⟩:=ex (Lib.join (xs.map (·.data.toList)) [32]);have hJ2:Lib.join (xs.map (·.data.toList)) hZ.data.toList=J:=g;rw[hJ2]at q;have hln:aM xs=J++[10]:=by unfold aM;rw[g]
 rw[g]at d;have m:=Lq hln;have HH:=Lq h;have HJL:Hid (J.length+1=(aM xs).length):=Lq d;clear h a hcells d g hJ2 hln f hbk;go_enter Tryz.func164,Tryz.ntmps164
 go_wp2_with fail;refine q.out.mono ?_;rintro e v ⟨rfl,k⟩;have HB1:=Lq k;have h1:=nc HH.out k;have hsz:=k.size;obtain⟨S,hS⟩:=ex ((⟨J.toArray⟩:ByteArray)++⟨#[10]⟩);have hS1:S.data.toList=J++[10]:=by rw[←hS];simp[ByteArray.data_append]
 have p:S.size=J.length+1:=by rw[←ByteArray.size_data,←Array.length_toList,hS1,List.length_append];rfl
 have r:=Lq (Ff B b (Lib.byteCells bs) S v h1 (by rw[Lib.byteCells_length,p];have:=HJL.out;omega) (by omega))
 rw[Lib.strCells_eq,hS1,←Lib.byteCells_append,←m.out]at r;have u:¬(9223372036854775807<J.length+1):=by have:=HJL.out;omega
 have s:=Lq hS;clear k h1 hS hS1;go_wp2_with fail;rw[s.out];refine r.out.mono ?_;rintro e w2 ⟨rfl,hbl,hb2⟩;have HP:Hid (xj B b bs xs w (.returned (.tuple #[])) w2):=Lq ⟨rfl,.inr hbl,(HB1.out.mono n).trans hb2⟩;clear hbl hb2;go_wp2_with fail;exact⟨rfl,.tuple #[],by simp[results,Tryz.results164,go_sem],HP.out⟩
abbrev jO:ByteArray:=⟨#[112,97,114,116]⟩
abbrev iX:ByteArray:=⟨#[97,100,100]⟩
abbrev iY:ByteArray:=⟨#[116,97,107,101]⟩
abbrev dR:ByteArray:=⟨#[115,119,97,112]⟩
def jP(p:ah):List ByteArray:=jO::gB p
def ic(c:bQ):List ByteArray:=if c.what=1 then aW c.day::iX::gB c.part else if c.what=2 then[aW c.day,iY,c.name]else aW c.day::dR::c.name::gB c.part
def fx(ps:List ah):List UInt8:=ps.flatMap fun p=>aM (jP p)
def iZ(cs:List bQ):List UInt8:=cs.flatMap fun c=>aM (ic c)
def lF(ps:List ah)(cs:List bQ):List UInt8:=fx ps++iZ cs
theorem lH{α:Type}{f:α→List UInt8}{k:Nat}:∀(l:List α),(∀x∈l,(f x).length≤k)→(l.flatMap f).length≤l.length*k
 | [],_=>by simp
 | x::l,h=>by
  rw[List.flatMap_cons,List.length_append,List.length_cons,Nat.add_mul];have a:=h x (List.mem_cons_self ..);have h2:=lH l fun y hy=>h y (List.mem_cons_of_mem _ hy)
  omega
structure lI(p:ah):Prop where
 kind:1≤p.kind∧p.kind≤5
 nums:∀n∈kK p, -9223372036854775808≤n∧n≤9223372036854775807
 on:p.on.length≤1000
theorem sq(p:ah):(gB p).length=6+p.on.length:=by rw[←xi,List.length_append,xh (lr 4)]
end
section
variable{B b:Nat}{W w w':World}
attribute [local go_sem] Oper.semAt_some
def BK(b:Nat)(w w':World):Prop:=Below b w w'∧Lib.OthersKept 5 (some b) w w'
theorem BK.rf(b:Nat)(w:World):BK b w w:=⟨Below.refl b w,Lib.OthersKept.refl _ _ w⟩
theorem BK.tr{u v:World}(h:BK b u v)(k:BK b v w):BK b u w:=⟨h.1.trans k.1,h.2.trans k.2⟩
theorem BK.bw(a:BW w w')(h:b≤w.heap.size):BK b w w':=⟨a.mono h,fun k _ c _ _=>(a.block k (Array.getElem?_eq_some_iff.1 c).1).trans c⟩
theorem BK.blk{g:Nat}{t:TypeId}{cs:Array Value}(h:BK b w w')(d:aa w g t cs)(a:g≠b)(f:t≠5):aa w' g t cs:=h.2 g _ d (fun e=>a (Option.some.inj e)) (fun c fz e=>by
 injection e with _ e2 _
 exact f e2)
theorem xq{bs:List Value}(h:Lib.IsBuilderF 233 5 B b bs w):∃cs,aa w b 233 cs:=by
 rcases h with⟨_,v,h2,_⟩ | ⟨_,v,h2,_⟩
 ·exact⟨_,h2⟩
 ·exact⟨_,h2⟩
theorem my{bs:List Value}(h:Lib.IsBuilderF 233 5 B b bs w):b<w.heap.size:=by obtain⟨cs,a⟩:=xq h;exact a.lt
theorem xr{n:Nat}{e:TypeId}{v:Value}{xs:List Value}(h:w.ownsRowF B e 1 v n xs)(a:BW w W):W.ownsRowF B e 1 v n xs:=by
 refine⟨h.1, ?_⟩;rcases h.2 with hn | ⟨g,cap,cur,fz,rfl,hB,hgg,rest⟩
 ·exact .inl hn
 ·exact .inr ⟨g,cap,cur,fz,rfl,hB,(a.block g (Array.getElem?_eq_some_iff.1 hgg).1).trans hgg,rest⟩
theorem jQ{bs:List Value}(h:Lib.IsBuilderF 233 5 B b bs w)(a:BW w W):Lib.IsBuilderF 233 5 B b bs W:=by
 rcases h with⟨h1,v,h2,h3,h4⟩ | ⟨h1,v,h2,h3,h4⟩
 ·exact .inl ⟨h1,v,(a.block b (Array.getElem?_eq_some_iff.1 h2).1).trans h2,xr h3 a,h4⟩
 ·exact .inr ⟨h1,v,(a.block b (Array.getElem?_eq_some_iff.1 h2).1).trans h2,xr h3 a,h4⟩
def xt(b:Nat)(bs:List UInt8)(l:List ByteArray)(w:World)(e:Ending)(w':World):Prop:=e=.returned (.tuple #[])∧Lib.IsBuilderF 233 5 b b (Lib.byteCells (bs++aM l)) w'∧BK b w w'
theorem oz(b c:Nat)(A:Option Addr)(xs:List ByteArray)(bs:List UInt8)(w:World)(h:Lib.IsBuilderF 233 5 b b (Lib.byteCells bs) w)(hx:0<xs.length)(a:am .string w w.heap.size A xs)(hc:xs.length≤c)(y:xs.length≤2000)(v:(aM xs).length≤100000)(s:bs.length≤1000000000) :
  Cs 181 #[.slice A xs.length c,pT b 0] w (xt b bs xs w):=by
 have m:b≤w.heap.size:=Nat.le_of_lt (my h);obtain⟨x0,hx0⟩:=gX (l:=xs) (i:=0) hx;obtain⟨bk,o,rfl,hbk,_⟩:=a 0 x0 hx0;have hcells:∀(j:Nat) x,xs[j]?=some x→cA w bk (o+j) (.string x):=by
  intro j x d;obtain⟨b',o',e,_,hc'⟩:=a j x d;injection e with e
  injection e with e1 e2
  subst e1 e2;exact hc'
 have d:(Lib.join (xs.map (·.data.toList)) [32]).length+1=(aM xs).length:=by unfold aM;rw[List.length_append];rfl
 have p:=Lq (Tryz.strings_Join bk o c xs hZ w hcells hbk (by omega) hc (by show(Lib.join (xs.map (·.data.toList)) [32]).length≤_;omega))
 obtain⟨J,f⟩:=ex (Lib.join (xs.map (·.data.toList)) [32]);have hJ2:Lib.join (xs.map (·.data.toList)) hZ.data.toList=J:=f;rw[hJ2]at p;have hln:aM xs=J++[10]:=by unfold aM;rw[f]
 rw[f]at d;have k:=Lq hln;have HH:=Lq h;have HJL:Hid (J.length+1=(aM xs).length):=Lq d;clear h a hcells d f hJ2 hln hx0 hbk;go_enter Tryz.func181,Tryz.ntmps181
 go_wp2_with fail;refine p.out.mono ?_;rintro e u ⟨rfl,g⟩;have HB1:=Lq g;have h1:=jQ HH.out g;have hsz:=g.size;obtain⟨S,hS⟩:=ex ((⟨J.toArray⟩:ByteArray)++⟨#[10]⟩);have hS1:S.data.toList=J++[10]:=by rw[←hS];simp[ByteArray.data_append]
 have n:S.size=J.length+1:=by rw[←ByteArray.size_data,←Array.length_toList,hS1,List.length_append];rfl
 have q:=Lq (Any.Builder_WriteString_k { Tryz.lays156 with } Tryz.Builder_Extra_156 b b (Lib.byteCells bs) S u h1 (by rw[Lib.byteCells_length,n];have:=HJL.out;omega) (by omega))
 rw[Lib.strCells_eq,hS1,←Lib.byteCells_append,←k.out]at q;have t:¬(9223372036854775807<J.length+1):=by have:=HJL.out;omega
 have r:=Lq hS;clear g h1 hS hS1;go_wp2_with fail;rw[r.out];refine q.out.mono ?_;rintro e w2 ⟨rfl,hbl,hb2⟩;have HP:Hid (xt b bs xs w (.returned (.tuple #[])) w2):=Lq ⟨rfl,.inr hbl,(BK.bw HB1.out m).tr hb2⟩;clear hbl hb2;go_wp2_with fail;exact⟨rfl,.tuple #[],by simp[results,Tryz.results181,go_sem],HP.out⟩
end
end Go.Proofs.YtbillnhcmkpohaaGreatDoor
namespace Go.Proofs.YtbillnhcmkpohaaGreatDoor
open Go.RowKit
section
variable{base:Nat}{v:Value}{w w':World}
theorem Tryz.info3q:(Tryz.prog.info? 3).map (fun i=>(i.zero,i.size,i.bytes))=some (some (iv 0),1,8):=by kernel_rfl
def dH(base:Nat)(w:World)(v:Value)(xs:List Nat):Prop :=
 ∃g off cap cur,v=.slice (some ⟨g,off,none⟩) xs.length cap∧base≤g∧aa w g 3 cur∧xs.length≤cap∧off+cap≤cur.size∧cap≤maxLen∧∀(j x:Nat),xs[j]?=some x→cur[off+j]?=some (iv x)
theorem dH.same{xs:List Nat}(h:dH base w v xs)(f:∀k,v.ownBlock=some k→w'.heap[k]?=w.heap[k]?):dH base w' v xs:=by obtain⟨g,b,cap,a,rfl,c,d,r⟩:=h;exact⟨g,b,cap,a,rfl,c,d.same (f g rfl),r⟩
theorem dH.lt{xs:List Nat}(h:dH base w v xs):∀k,v.ownBlock=some k→base≤k∧k<w.heap.size:=by
 obtain⟨g,d,cap,a,rfl,b,c,r⟩:=h;intro k hk;injection hk with hk
 subst hk;exact⟨b,c.lt⟩
theorem dH.below{xs:List Nat}(h:dH base w v xs)(a:BW w w'):dH base w' v xs:=h.same fun k b=>a.block k (h.lt k b).2
theorem dH.one(w:World)(x base:Nat)(b:base≤w.heap.size):dH base (w.alloc (.cells #[iv x] 3)) (.slice (some ⟨w.heap.size,0,none⟩) 1 1) [x]:=by
 refine⟨w.heap.size,0,1,_,rfl,b,aa.new w 3 _,lr _,lr _,by unfold maxLen;omega,fun j y a=>?_⟩
 cases j with
 | zero=>simp at a;subst a;rfl
 | succ j=>simp at a
theorem dH.front{a:Nat}{xs:List Nat}(h:dH base w v (a::xs)) :
  ∃g b cap,v=.slice (some ⟨g,b,none⟩) (xs.length+1) cap∧base≤g∧xs.length+1≤cap∧cap≤maxLen∧w.cell? ⟨g,b,none⟩=some (iv a) ∧
   (cap=1→dH base w (.slice (some ⟨g,b,none⟩) xs.length (cap-1)) xs)∧dH base w (.slice (some ⟨g,b+1,none⟩) xs.length (cap-1)) xs:=by
 obtain⟨g,b,cap,c,rfl,d,f,i,m,l,k⟩:=h;rw[List.length_cons]at i;refine⟨g,b,cap,rfl,d,i,l, ?_,fun hc=>?_, ?_⟩
 ·rw[f.cell];exact k 0 a rfl
 ·subst hc;have hx:xs=[]:=List.eq_nil_of_length_eq_zero (by omega)
  subst hx;exact⟨g,b,0,c,rfl,d,f,lr _,by omega,Nat.zero_le _,fun j x hx=>by simp at hx⟩
 ·exact⟨g,b+1,cap-1,c,rfl,d,f,by omega,by omega,by omega,fun j x hx=>by rw[show b+1+j=b+(j+1)by omega];exact k (j+1) x hx⟩
theorem Fl(w:World)(c k:Nat)(u:Value):w.grownBy (w.setCell ⟨c,k,none⟩ u) (some c):=by have h:=ai.of_set (bR w) c k u;exact⟨h.os,h.tape,h.output,h.size,fun j hj hne=>h.block j hj fun e=>hne (by rw[e])⟩
theorem Fm(w:World)(base:Nat)(z:TypeId)(v:Value)(xs:List Nat)(h:dH base w v xs)(E:base≤w.heap.size)(b:Addr)(c x:Nat)(hx:w.cell? b=some (iv x))(G:xs.length≤10000) :
  ∃v' w',(Builtin.append_ #[48,48] z #[v,.slice (some b) 1 c]).run Tryz.prog w=.ok v' w'∧dH base w' v' (xs++[x])∧w.grownBy w' v.ownBlock∧(v'.ownBlock=v.ownBlock∨v'.ownBlock=some w.heap.size):=by
 obtain⟨g,a,cap,q,rfl,r,n,F,C,D,A⟩:=h;obtain⟨i3,hi3,hz0,hz1,hz2⟩:=info_parts Tryz.info3q;have hcell:∀j u,[iv x][j]?=some u→w.cell? (b.add j)=some u:=fun j u f=>by
  cases j with
  | zero =>
   simp at f;subst f;rw[show b.add 0=b by cases b;rfl]
   exact hx
  | succ j=>simp at f
 have i:∀u∈[iv x],u.oneCell'=true:=fun u f=>by simp at f;subst f;rfl
 by_cases hroom:xs.length+1≤cap
 ·have t:Src Tryz.prog i3.size 48 (.slice (some b) 1 c) 1 [iv x] w:=Src.ofSlice w Tryz.underlying48 b 1 c [iv x] (by rw[hz1];rfl) hcell i
  have p:=run_append_room_src (P:=Tryz.prog) w 48 48 z 3 i3 Tryz.underlying48 hi3 g a xs.length cap (.slice (some b) 1 c) 1 [iv x] t hroom
   (fun j o=>by
    simp at o;subst o;rw[hz1,n.cell,show a+xs.length*1+0=a+xs.length by omega,Array.getElem?_eq_getElem (by omega)]
    rfl) (fun j _=>n.frozen _)
  rw[hz1,show a+xs.length*1=a+xs.length by omega]at p
  refine⟨_,_,p,⟨g,a,cap,q.setIfInBounds (a+xs.length) (iv x),by simp,r,n.set_ _ _,by simpa using hroom,by simpa using C,D,fun j y d=>?_⟩,Fl w g (a+xs.length) (iv x),.inl rfl⟩
  by_cases o:j<xs.length
  ·rw[List.getElem?_append_left o]at d;rw[Array.getElem?_setIfInBounds_ne (by omega)]
   exact A j y d
  ·have l:j=xs.length:=by
    have:=(lG d);simp at this;omega
   subst l;simp at d;subst d;rw[Array.getElem?_setIfInBounds_self_of_lt (by omega)]
 ·have B:xs.length=cap:=by omega
  have t:Src Tryz.prog i3.size 48 (.slice (some b) 1 c) 1 [iv x] w:=Src.ofSlice w Tryz.underlying48 b 1 c [iv x] (by rw[hz1];rfl) hcell i
  have m:(Builtin.firstCells i3.size xs.length (.slice (some ⟨g,a,none⟩) xs.length cap)).run Tryz.prog w.drew=.ok (xs.map nv).toArray w.drew:=by
   refine run_firstCells_some w.drew i3.size xs.length ⟨g,a,none⟩ xs.length cap (xs.map nv) (by rw[hz1];simp) fun j u f=>?_
   rw[List.getElem?_map]at f;obtain⟨y,d,rfl⟩:=Option.map_eq_some_iff.1 f;rw[lX];show w.cell? _=_
   rw[n.cell];exact A j y d
  have p:=run_append_grow_src (P:=Tryz.prog) w 48 48 z 3 i3 (iv 0) Tryz.underlying48 hi3 hz0 (some ⟨g,a,none⟩) xs.length cap (xs.map nv) m (.slice (some b) 1 c) 1 [iv x] t (by omega) (by omega) (growslice_fits (by omega) (by rw[hz2];omega))
  have s:=grownCap_ge w (xs.length+1) cap 3;have hcm:=grownCap_le_maxLen w (xs.length+1) cap 3 (by unfold maxLen;omega)
  refine⟨_,_,p,⟨w.heap.size,0,_,_,by simp,E,aa.new w.drew 3 _,by simpa using s, ?_,hcm,fun j y d=>?_⟩,⟨rfl,rfl,rfl,by simp,fun k hk _=>Below.heap_alloc w.drew _ k hk⟩,.inr rfl⟩
  ·simp[size_zeroCells];show _≤_
   simp[Value.cells];omega
  ·have l:=(lG d);rw[Nat.zero_add,Array.getElem?_append_left (by simp at l ⊢;omega),List.getElem?_toArray]
   have e:xs.map nv++[iv x]=(xs++[x]).map nv:=by simp
   rw[e,List.getElem?_map,d];rfl
theorem xu{ops:Array Oper}{rest:List Oper}{o:Oper}{a:Act}{Q:Exit→Act→World→Prop}(d:o.guard=none)(s y:Operand)(m:o.op=.call { callee:=.builtin .append,args:=#[s,y],argTypes:=#[48,48] })(base:Nat)(v:Value)(xs:List Nat)(p:a.eval s=v)(h:dH base w v xs)(j:base≤w.heap.size)(b:Addr)(c x:Nat)(q:a.eval y=.slice (some b) 1 c)(hx:w.cell? b=some (iv x))(l:xs.length≤10000)(k:∀v' w',dH base w' v' (xs++[x])→w.grownBy w' v.ownBlock→(v'.ownBlock=v.ownBlock∨v'.ownBlock=some w.heap.size)→wpList Tryz.prog ops Q rest (a.put o.dst v') w'):wpList Tryz.prog ops Q (o::rest) a w:=by
 refine wpList_plain d fun K hK=>?_
 obtain⟨v',w',n,f,g,i⟩:=Fm w base o.type v xs h j b c x hx l;unfold Oper.wp execOp;simp only[m,resolve,invoke,builtin,Sem.run_bind,Sem.run_pure,Result.andThen_ok,List.map_toArray,List.map_cons,List.map_nil,p,q,n];exact hK _ _ (k v' w' f g i)
end
section
variable{out:Int}{b base cap d g gb gy n nodes t:Nat}{js v v':Value}{w w' wr:World}
structure cx(base:Nat)(w:World)(b cap:Nat)(es:List Ed):Prop where
 row:w.ownsRow base 154 5 (.slice (some ⟨b,0,none⟩) es.length cap) es.length (es.flatMap iR)
theorem cx.le{a:List Ed}(h:cx base w b cap a):a.length≤cap∧cap≤maxLen:=by
 rcases h.row.2 with⟨h1,_⟩ | ⟨g,c,cur,h1,_,_,h2,h3,_⟩
 ·cases h1
 ·injection h1 with _ _ h1
  subst h1;exact⟨h2,h3⟩
theorem cx.lt{a:List Ed}(h:cx base w b cap a):b<w.heap.size:=(h.row.lt b rfl).2
theorem cx.below{a:List Ed}(h:cx base w b cap a)(c:BW w w'):cx base w' b cap a:=⟨aN h.row c⟩
theorem cx.rd{a:List Ed}(h:cx base w b cap a):aG 5 iR w w.heap.size (some ⟨b,0,none⟩) a:=fun i x hx=>by
 refine⟨b,0,rfl,h.lt,fun j v c=>?_⟩
 have k:j<5:=by have:=(lG c);simpa[iR]using this
 have f:=(lG hx);rw[Nat.zero_add,h.row.cellAt (i*5+j) (by omega)]
 exact jo uU a i x hx j v c
theorem Fo:∀(L:List Ed) (d:Nat) (x:Ed) (v:Int),L[d]?=some x→(L.flatMap iR).set (d*5+4) (iv v)=(L.set d { x with now:=v }).flatMap iR:=by
 intro L;induction L with
 | nil=>intro d x v h;simp at h
 | cons a L ih =>
  intro d x v h;cases d with
  | zero=>simp at h;subst h;simp[iR]
  | succ d =>
   have:=ih d x v (by simpa using h)
   simp only[List.flatMap_cons,List.set_cons_succ,←this];rw[show(d+1)*5+4=(iR a).length+(d*5+4)by rw[uU];omega,List.set_append_right _ _ (Nat.le_add_right _ _),Nat.add_sub_cancel_left]
theorem cx.put{a:List Ed}(h:cx base w b cap a){x:Ed}(hx:a[d]?=some x)(v:Int):cx base (w.setCell ⟨b,d*5+4,none⟩ (iv v)) b cap (a.set d { x with now:=v }):=by
 refine⟨?_⟩;have:=(h.row.stored (d*5+4) (iv v)).1;rw[Fo a d x v hx]at this
 simpa using this
theorem cx.frozen{a:List Ed}(h:cx base w b cap a)(j:Nat):w.frozen? ⟨b,j,none⟩=false:=h.row.frozenAt j
theorem cx.web{a:List Ed}(h:cx base w b cap a)(f:aa w gb 82 #[pT g 0])(i:aa w g 89 #[.slice (some ⟨b,0,none⟩) a.length cap,iv nodes,js,iv out]):lA w gb g b cap nodes js out a :=
 ⟨f.c 0,i,h.rd,h.le⟩
structure dI(w:World)(gb gy g nodes:Nat)(wr:World)(y:List Int)(l:List Nat)(v:Value):Prop where
 row:wr.ownsRow w.heap.size 3 1 (.slice (some ⟨gy,0,none⟩) nodes nodes) nodes (y.map iv)
 q:dH w.heap.size wr v l
 ap:v.ownBlock≠some gy
 bx:aa wr gb 82 #[pT g 0]
 bw:BW w wr
 len:y.length=nodes
 lt:∀x∈l,x<nodes
theorem dI.below{y:List Int}{l:List Nat}(h:dI w gb gy g nodes wr y l v)(a:BW wr w'):dI w gb gy g nodes w' y l v :=
 ⟨aN h.row a,h.q.below a,h.ap,h.bx.keep a,bT h.bw a,h.len,h.lt⟩
theorem dI.by_at{y:List Int}{l:List Nat}(h:dI w gb gy g nodes wr y l v)(a:n<nodes):wr.cell? ⟨gy,n,none⟩=some (iv (y.getD n 0)):=by
 rw[h.row.cellAt n (by omega),List.getElem?_map,List.getD_eq_getElem?_getD,gE (by rw[h.len];exact a)]
 rfl
theorem Fp{l:List Nat}{cs:Array Value}(h:dH base w v l)(a:aa w g t cs)(i:t≠3):v.ownBlock≠some g:=fun e=>by
 obtain⟨k,j,cap,f,rfl,_,c,_⟩:=h;injection e with e
 subst e;unfold aa at c a;rw[c]at a;injection a with a
 injection a with _ a
 exact i a.symm
theorem dI.mark{y:List Int}{l:List Nat}(h:dI w gb gy g nodes wr y l v)(n:Nat)(x:Int):dI w gb gy g nodes (wr.setCell ⟨gy,n,none⟩ (iv x)) (y.set n x) l v:=by
 have c:=(h.row.lt gy rfl).1;have ho:=ai.of_set (bR wr) gy n (iv x);have hgb:gb≠gy:=fun e=>by
  have:=ax h.row h.bx (by decide)
  exact this (by rw[e];rfl)
 refine⟨?_,h.q.same fun k a=>ho.block k (h.q.lt k a).2 (fun e=>h.ap (by rw[a,e])),h.ap,h.bx.same (ho.block gb h.bx.lt hgb),ho.below h.bw c,by simpa using h.len,h.lt⟩
 have:=(h.row.stored n (iv x)).1
 rwa [←List.map_set]at this
theorem dI.push{y:List Int}{l:List Nat}{x:Nat}(h:dI w gb gy g nodes wr y l v)(j:dH w.heap.size w' v' (l++[x]))(a:wr.grownBy w' v.ownBlock)(f:v'.ownBlock=v.ownBlock∨v'.ownBlock=some wr.heap.size)(hx:x<nodes):dI w gb gy g nodes w' y (l++[x]) v':=by
 have i:=(h.row.lt gy rfl).2;refine⟨kz h.row fun k hk=>?_,j,fun e=>?_,h.bx.grown a (fun e=>Fp h.q h.bx (by decide) e.symm), ?_,h.len,fun z hz=>?_⟩
 ·injection hk with hk
  subst hk;exact a.block _ i (fun e=>h.ap e.symm)
 ·rcases f with f | f
  ·exact h.ap (f.symm.trans e)
  ·rw[f]at e;injection e with e
   omega
 ·have c:=h.bw;exact⟨a.os.trans c.os,a.tape.trans c.tape,a.output.trans c.output,lT c.size a.size,fun k hk=>(a.block k (lz hk c.size) fun e=>by have:=(h.q.lt k e.symm).1;omega).trans (c.block k hk)⟩
 ·rcases List.mem_append.1 hz with h1 | h1
  ·exact h.lt z h1
  ·simp at h1;omega
theorem dI.pop{a:Nat}{y:List Int}{l:List Nat}(h:dI w gb gy g nodes wr y (a::l) v)(c:dH w.heap.size wr v' l)(f:v'.ownBlock=v.ownBlock):dI w gb gy g nodes wr y l v' :=
 ⟨h.row,c,by rw[f];exact h.ap,h.bx,h.bw,h.len,fun x hx=>h.lt x (List.mem_cons_of_mem _ hx)⟩
theorem sr(n:Nat):(madeCells #[iv 0] (n*1)).toList=(List.replicate n (0:Int)).map iv:=by
 apply List.ext_getElem?;intro i;rw[Nat.mul_one,List.getElem?_map,List.getElem?_replicate];by_cases h:i<n
 ·rw[if_pos h];simp[madeCells,h,Nat.mod_one]
 ·rw[if_neg h];simp[madeCells,h]
theorem kM{x:Ed}(h:bP nodes x=true)(a:nodes≤8):uT x∧x.fr<nodes∧x.en<nodes:=by unfold bP at h;have h:=of_decide_eq_true h;obtain⟨h1,h2,h3,h4,h5,h6,h7,h8⟩:=h;exact⟨⟨⟨h1,h2⟩,⟨h3,h4⟩,⟨h5,h6⟩,by omega,by omega⟩,h7,h8⟩
def Fq(es:List Ed)(src:Nat)(most:Int)(want:Nat→Int)(nodes:Nat)(k:Int)(t:Nat)(es':List Ed):Option (Nat×List Int)→Prop
 | none=>k=0∧t=0∧es'=es
 | some (a,y)=>∃l,cZ es y src (nodes+1) a=some l∧k=dU es (min most (want a)) l∧t=a∧es'=iu k es l
theorem xv{o:List Ed}{c:Nat}{i j:Int}{f:Nat→Int}{k:Int}{m:List Ed}(h:dV o nodes c i j f=some (k,t,m)) :
  ∃R,cI o j c f (nodes+1) ((List.replicate nodes (0:Int)).set c (-1)) [c]=some R∧Fq o c i f nodes k t m R:=by
 unfold dV at h;split at h
 ·cases h
 ·rename_i p;injection h with h
  injection h with h1 h2
  injection h2 with h2 h3
  exact⟨none,p,h1.symm,h2.symm,h3.symm⟩
 ·rename_i a y p;split at h
  ·cases h
  ·rename_i l q;injection h with h
   injection h with h1 h2
   injection h2 with h2 h3
   subst h1 h2 h3;exact⟨some (a,y),p,l,q,rfl,rfl,rfl⟩
theorem pQ(wr:World)(t:TypeId)(x:Ed)(a c f i j:Value):∃Wa W2,wr.alloc (.cells #[a,c,f,i,j] t)=Wa∧(((((Wa.setCell ⟨wr.heap.size,0,none⟩ (iv x.fr)).setCell ⟨wr.heap.size,1,none⟩ (iv x.en)).setCell ⟨wr.heap.size,2,none⟩ (iv x.lo)).setCell ⟨wr.heap.size,3,none⟩ (iv x.hi)).setCell ⟨wr.heap.size,4,none⟩ (iv x.now))=W2∧BW wr W2∧aa Wa wr.heap.size t #[a,c,f,i,j]∧BW wr Wa∧aa W2 wr.heap.size t #[iv x.fr,iv x.en,iv x.lo,iv x.hi,iv x.now]:=by
 refine⟨_,_,rfl,rfl, ?_,aa.new wr t _,bA (bR _) _, ?_⟩
 ·exact((((((ai.of_below (bR _) wr.heap.size).set 0 _).set 1 _).set 2 _).set 3 _).set 4 _).below (bA (bR _) _) (lr _)
 ·have h:=(((((aa.new wr t #[a,c,f,i,j]).set_ 0 (iv x.fr)).set_ 1 (iv x.en)).set_ 2 (iv x.lo)).set_ 3 (iv x.hi)).set_ 4 (iv x.now)
  simpa using h
theorem ie{W x:World}(h:ai W w g)(a:ai w x g):ai W x g:=⟨a.os.trans h.os,a.tape.trans h.tape,a.output.trans h.output,lT h.size a.size,fun k f c=>(a.block k (lz f h.size) c).trans (h.block k f c)⟩
structure ig(w:World)(base gb gy g b cap nodes:Nat)(js:Value)(out:Int)(y:List Int)(wr:World)(es:List Ed):Prop where
 row:wr.ownsRow w.heap.size 3 1 (.slice (some ⟨gy,0,none⟩) nodes nodes) nodes (y.map iv)
 bx:aa wr gb 82 #[pT g 0]
 wb:aa wr g 89 #[.slice (some ⟨b,0,none⟩) es.length cap,iv nodes,js,iv out]
 ed:cx base wr b cap es
 on:ai w wr b
 len:y.length=nodes
theorem ig.below{y:List Int}{c:List Ed}(h:ig w base gb gy g b cap nodes js out y wr c)(a:BW wr w'):ig w base gb gy g b cap nodes js out y w' c :=
 ⟨aN h.row a,h.bx.keep a,h.wb.keep a,h.ed.below a,ie h.on (ai.of_below a b),h.len⟩
theorem ig.by_at{y:List Int}{a:List Ed}(h:ig w base gb gy g b cap nodes js out y wr a)(c:n<nodes):wr.cell? ⟨gy,n,none⟩=some (iv (y.getD n 0)):=by
 rw[h.row.cellAt n (by omega),List.getElem?_map,List.getD_eq_getElem?_getD,gE (by rw[h.len];exact c)]
 rfl
theorem ig.web{y:List Int}{a:List Ed}(h:ig w base gb gy g b cap nodes js out y wr a):lA wr gb g b cap nodes js out a:=h.ed.web h.bx h.wb
theorem ig.put{y:List Int}{c:List Ed}(h:ig w base gb gy g b cap nodes js out y wr c){x:Ed}(hx:c[d]?=some x)(v:Int):ig w base gb gy g b cap nodes js out y (wr.setCell ⟨b,d*5+4,none⟩ (iv v)) (c.set d { x with now:=v }):=by
 have a:=ai.of_set (bR wr) b (d*5+4) (iv v);have n1:gb≠b:=fun e=>ax h.ed.row h.bx (by decide) (by rw[e];rfl)
 have n2:g≠b:=fun e=>ax h.ed.row h.wb (by decide) (by rw[e];rfl)
 refine⟨a.own h.row (fun e=>?_),h.bx.same (a.block gb h.bx.lt n1), ?_,h.ed.put hx v,ie h.on a,h.len⟩
 ·exact jI h.ed.row h.row (by decide) (g:=b) rfl e
 ·rw[List.length_set];exact h.wb.same (a.block g h.wb.lt n2)
end
end Go.Proofs.YtbillnhcmkpohaaGreatDoor
