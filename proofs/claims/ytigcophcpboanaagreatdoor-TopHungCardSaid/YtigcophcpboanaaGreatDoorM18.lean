/- hull: Ask of two plans (printed by mkHC7.py). hull: a part's words (printed by mkHW1.py). .. -/
import Derived.Lib.SmallJoins
import Derived.Lib.AppendIntMem
import Derived.Test.YtigcophcpboanaaGreatDoorM17
set_option maxRecDepth 1000000
set_option maxHeartbeats 0
namespace Go.Proofs.YtigcophcpboanaaGreatDoor
open Go.RowKit Go.Shelf
section
variable{g gF gL gN:Nat}{W W0 X w:World}
attribute [local go_sem] Oper.semAt_some
def cntV(ls:List (List HuP))(nm:ByteArray)(fr:Int)(k:Nat):Int:=((ls.filter fun l=>seesV l nm fr==(k:Int)).length:Int)
def cntsV(ls:List (List HuP))(nm:ByteArray)(fr:Int):List Int:=[cntV ls nm fr 0,cntV ls nm fr 1,cntV ls nm fr 2,cntV ls nm fr 3,cntV ls nm fr 4,cntV ls nm fr 5]
def cntsA(ls:List (List HuP))(nm:ByteArray)(fr:Int):Array Value:=#[iv (cntV ls nm fr 0),iv (cntV ls nm fr 1),iv (cntV ls nm fr 2),iv (cntV ls nm fr 3),iv (cntV ls nm fr 4),iv (cntV ls nm fr 5)]
def worstV(ls:List (List HuP))(nm:ByteArray)(fr:Int):Int:=Lib.maxOf (cntsV ls nm fr)
def askStep(ls:List (List HuP))(b:ByteArray×Int×Int)(s:ByteArray×Int):ByteArray×Int×Int:=if worstV ls s.1 s.2<b.2.2 then(s.1,s.2,worstV ls s.1 s.2)else b
def askTo(ls:List (List HuP))(l:List (ByteArray×Int)):ByteArray×Int×Int:=l.foldl (askStep ls) (⟨#[]⟩,0,(ls.length:Int))
theorem ask_snoc(ls:List (List HuP))(l:List (ByteArray×Int))(s:ByteArray×Int):askTo ls (l++[s])=askStep ls (askTo ls l) s:=by unfold askTo;rw[List.foldl_append];rfl
theorem cnt_snoc{ls:List (List HuP)}{nm:ByteArray}{fr:Int}{k j:Nat}{l:List HuP}(h:ls[j]?=some l):cntV (ls.take (j+1)) nm fr k=cntV (ls.take j) nm fr k+(if seesV l nm fr=(k:Int)then 1 else 0):=by
 unfold cntV;rw[List.take_add_one,h,List.filter_append,List.length_append];by_cases hk:seesV l nm fr=(k:Int)
 ·simp[hk]
 ·simp[hk]
theorem cnt_bd(ls:List (List HuP))(nm:ByteArray)(fr:Int)(k:Nat):0≤cntV ls nm fr k∧cntV ls nm fr k≤ls.length:=by
 unfold cntV;have:=List.length_filter_le (fun l=>seesV l nm fr==(k:Int)) ls
 omega
theorem sees_bd{l:List HuP}(h:ShipOk l)(nm:ByteArray)(fr:Int):0≤seesV l nm fr∧seesV l nm fr≤5:=by
 unfold seesV;cases hf:l.find? (nmB nm)with
 | none=>simp
 | some p =>
  obtain⟨i,hi⟩:=List.mem_iff_getElem?.1 (List.mem_of_find?_eq_some hf);have:=(h.part i p hi).kind;simp only;split<;>omega
theorem name_pos{s:ByteArray}(h:nameB s=true):s≠⟨#[]⟩:=by
 intro e;subst e
 revert h
 decide
theorem SlM.kept3{cap:Nat}{A:Option Addr}{ms:List HuM}{f0 l0:Int}(h:SlM w w.heap.size A cap ms)(hok:ShipOk (psOf ms))(hN:Blk w gN 9 #[.string ⟨#[]⟩])(hF:Blk w gF 3 #[iv f0])(hL:Blk w gL 3 #[iv l0])(hk:KeepM (fun k=>k=gN∨k=gF∨k=gL) w W):SlM W W.heap.size A cap ms:=by
 have hint:∀g a,Blk w g 3 #[iv a]→∀b o s,w.cell? ⟨b,o,none⟩=some (.string s)→b≠g:=by
  intro g a hg b o s hc e;subst e;rw[hg.cell]at hc
  match o,hc with
  | 0,hc=>injection hc with hc;cases hc
  | o+1,hc=>rw[Array.getElem?_eq_none (by show 1≤o+1;omega)]at hc;cases hc
 refine⟨⟨fun i x hx=>?_,fun m hm=>?_⟩,h.le,h.max,h.nil0,fun a ha=>⟨(h.off a ha).1,lz (h.off a ha).2 hk.size⟩⟩
 ·obtain⟨b,off,e,hlt,hc⟩:=h.rd.rd i x hx;have h1:b≠gF:=hint gF f0 hF _ _ _ (hc 0 (.string x.p.name) rfl);have h2:b≠gL:=hint gL l0 hL _ _ _ (hc 0 (.string x.p.name) rfl);have h3:b≠gN:=by
   intro e;subst e;have:=hc 1 (iv x.p.kind) rfl;rw[hN.cell,Array.getElem?_eq_none (by show 1≤off+i*7+1;omega)]at this
   cases this
  exact⟨b,off,e,lz hlt hk.size,fun j u hu=>hk.cell (hc j u hu) (by rintro(e | e | e);exact h3 e;exact h1 e;exact h2 e)⟩
 ·have hm2:=h.rd.ok m hm;refine⟨fun i x hx=>?_,hm2.le,hm2.cm,hm2.nm,hm2.ons,hm2.sz⟩
  obtain⟨b,off,e,hlt,hc⟩:=hm2.on i x hx;have h1:b≠gF:=hint gF f0 hF _ _ _ hc;have h2:b≠gL:=hint gL l0 hL _ _ _ hc;have h3:b≠gN:=by
   intro e;subst e;rw[hN.cell]at hc;rcases Nat.eq_zero_or_pos (off+i)with h0 | h0
   ·rw[h0]at hc;injection hc with hc
    injection hc with hc
    obtain⟨jm,hjm⟩:=List.mem_iff_getElem?.1 hm;obtain⟨_,y,hy,hyn,_⟩:=hok.below (ps_at hjm) (mG ⟨i,hx⟩);have hnm:=(hok.part _ y hy).nm;rw[←hc]at hyn;exact name_pos hnm (ByteArray.ext (Array.ext' (by rw[←toList_data2,hyn];exact toList_data2 _)))
   ·rw[Array.getElem?_eq_none (by show 1≤off+i;omega)]at hc
    cases hc
  exact⟨b,off,e,lz hlt hk.size,hk.cell hc (by rintro(e | e | e);exact h3 e;exact h1 e;exact h2 e)⟩
theorem int1_ne{t:TypeId}{a:Int}(h:Blk w g t #[iv a]):∀o s,w.cell? ⟨g,o,none⟩≠some (.string s):=by
 intro o s hc;rw[h.cell]at hc
 match o,hc with
 | 0,hc=>injection hc with hc;cases hc
 | o+1,hc=>rw[Array.getElem?_eq_none (by show 1≤o+1;omega)]at hc;cases hc
structure AskI(W0:World)(gN gF gL:Nat)(b:ByteArray×Int×Int)(W:World):Prop where
 os:W.os=W0.os
 tape:W.tape=W0.tape
 output:W.output=W0.output
 keep:KeepM (fun k=>k=gN∨k=gF∨k=gL) W0 W
 n:Blk W gN 9 #[.string b.1]
 f:Blk W gF 3 #[iv b.2.1]
 l:Blk W gL 3 #[iv b.2.2]
theorem AskI.below{B:Nat}{b:ByteArray×Int×Int}(h:AskI W0 gN gF gL b W)(hb:Below B W X)(hB:W0.heap.size≤B)(h1:gN<B)(h2:gF<B)(h3:gL<B):AskI W0 gN gF gL b X :=
 ⟨hb.os.trans h.os,hb.tape.trans h.tape,hb.output.trans h.output,⟨lT h.keep.size hb.size,fun k hk hl=>(hb.block k (by omega)).trans (h.keep.same k hk hl)⟩,h.n.same (hb.block _ h1),h.f.same (hb.block _ h2),h.l.same (hb.block _ h3)⟩
theorem AskI.fin{b:ByteArray×Int×Int}(h:AskI W0 gN gF gL b W)(hb:BW w W0)(h1:w.heap.size≤gN)(h2:w.heap.size≤gF)(h3:w.heap.size≤gL):BW w W :=
 ⟨h.os.trans hb.os,h.tape.trans hb.tape,h.output.trans hb.output,lT hb.size h.keep.size,fun k hk=>(h.keep.same k (by omega) (lz hk hb.size)).trans (hb.block k hk)⟩
theorem OnlyAt.join{Y Z:World}(h:OnlyAt X Y g)(k:OnlyAt Y Z g):OnlyAt X Z g :=
 ⟨k.os.trans h.os,k.tape.trans h.tape,k.output.trans h.output,lT h.size k.size,fun i hi hne=>(k.block i (lz hi h.size) hne).trans (h.block i hi hne)⟩
theorem AskI.put3{V:World}{b:ByteArray×Int×Int}(h:AskI W0 gN gF gL b W)(hV:BW W V)(hne:gN≠gF∧gN≠gL∧gF≠gL)(n:ByteArray)(f l:Int):AskI W0 gN gF gL (n,f,l) (((V.setCell ⟨gN,0,none⟩ (.string n)).setCell ⟨gF,0,none⟩ (iv f)).setCell ⟨gL,0,none⟩ (iv l)):=by
 obtain⟨h1,h2,h3⟩:=hne;have k:KeepM (fun k=>k=gN∨k=gF∨k=gL) V (((V.setCell ⟨gN,0,none⟩ (.string n)).setCell ⟨gF,0,none⟩ (iv f)).setCell ⟨gL,0,none⟩ (iv l)):=by
  refine⟨by simp,fun i hi hl=>?_⟩
  rw[Below.heap_setCell _ _ _ _ (fun e=>hi (.inr (.inr e))),Below.heap_setCell _ _ _ _ (fun e=>hi (.inr (.inl e))),Below.heap_setCell _ _ _ _ (fun e=>hi (.inl e))]
 refine⟨hV.os.trans h.os,hV.tape.trans h.tape,hV.output.trans h.output,(h.keep.trans (KeepM.of_below hV)).trans k, ?_, ?_, ?_⟩
 ·exact(((h.n.keep hV).set_ 0 (.string n)).far h1 _).far h2 _
 ·exact(((h.f.keep hV).far (fun e=>h1 e.symm) (.string n)).set_ 0 (iv f)).far h3 _
 ·exact(((h.l.keep hV).far (fun e=>h2 e.symm) (.string n)).far (fun e=>h3 e.symm) (iv f)).set_ 0 (iv l)
def AskPost(ls:List (List HuP))(w:World)(e:Ending)(w':World):Prop:=e=.returned (.tuple #[.string (askTo ls (allLooks (someN ls))).1,iv (askTo ls (allLooks (someN ls))).2.1,iv (askTo ls (allLooks (someN ls))).2.2,iv 0])∧BW w w'
theorem ask27_any(b o cp:Nat)(p q:PlM)(sg:List SgM)(Ss:Option Addr)(css:Nat)(day:Int)(w:World)(H:TwoPlans w b o p q)(hd:inB 0 40000 day=true)(hP:PlanOk (psOf p.ms) (csOf p.cs))(hQ:PlanOk (psOf q.ms) (csOf q.cs))(HS:RdN 3 encS w w.heap.size Ss sg)(hsl:sg.length≤12)(hso:∀s∈sg,SightOk s)(h0:0<(agreeL [shipOn day (psOf p.ms) (csOf p.cs),shipOn day (psOf q.ms) (csOf q.cs)] sg 2).length)(hnm:0<((pickL [shipOn day (psOf p.ms) (csOf p.cs),shipOn day (psOf q.ms) (csOf q.cs)] (agreeL [shipOn day (psOf p.ms) (csOf p.cs),shipOn day (psOf q.ms) (csOf q.cs)] sg 2)).flatMap fun l=>l.map HuP.name).length)(hnm9:((pickL [shipOn day (psOf p.ms) (csOf p.cs),shipOn day (psOf q.ms) (csOf q.cs)] (agreeL [shipOn day (psOf p.ms) (csOf p.cs),shipOn day (psOf q.ms) (csOf q.cs)] sg 2)).flatMap fun l=>l.map HuP.name).length≤1000)(hfound:(askTo (pickL [shipOn day (psOf p.ms) (csOf p.cs),shipOn day (psOf q.ms) (csOf q.cs)] (agreeL [shipOn day (psOf p.ms) (csOf p.cs),shipOn day (psOf q.ms) (csOf q.cs)] sg 2)) (allLooks (someN (pickL [shipOn day (psOf p.ms) (csOf p.cs),shipOn day (psOf q.ms) (csOf q.cs)] (agreeL [shipOn day (psOf p.ms) (csOf p.cs),shipOn day (psOf q.ms) (csOf q.cs)] sg 2))))).1.toList.isEmpty=false) :
  Cs 23 #[.slice (some ⟨b,o,none⟩) 2 cp,iv day,.slice Ss sg.length css] w (AskPost (pickL [shipOn day (psOf p.ms) (csOf p.cs),shipOn day (psOf q.ms) (csOf q.cs)] (agreeL [shipOn day (psOf p.ms) (csOf p.cs),shipOn day (psOf q.ms) (csOf q.cs)] sg 2)) w):=by
 obtain⟨Wx,hWx⟩:=ex (w.alloc (.cells #[.string ⟨#[]⟩] 9));obtain⟨Wy,hWy⟩:=ex (Wx.alloc (.cells #[iv 0] 3));obtain⟨W1,hW1⟩:=ex (Wy.alloc (.cells #[iv 0] 3));obtain⟨gN,hgN⟩:=ex w.heap.size;obtain⟨gF,hgF⟩:=ex Wx.heap.size;obtain⟨gL,hgL⟩:=ex Wy.heap.size;have zx:Wx.heap.size=w.heap.size+1:=by rw[←hWx];simp
 have zy:Wy.heap.size=Wx.heap.size+1:=by rw[←hWy];simp
 have bx:BW w Wx:=by rw[←hWx];exact bA (bR w) _
 have by':BW Wx Wy:=by rw[←hWy];exact bA (bR _) _
 have b1:BW Wy W1:=by rw[←hW1];exact bA (bR _) _
 have qN:Blk Wx gN 9 #[.string ⟨#[]⟩]:=by rw[←hWx,←hgN];exact Blk.new w 9 _
 have qF:Blk Wy gF 3 #[iv 0]:=by rw[←hWy,←hgF];exact Blk.new Wx 3 _
 have qL:Blk W1 gL 3 #[iv 0]:=by rw[←hW1,←hgL];exact Blk.new Wy 3 _
 have bw1:=bT bx (bT by' b1)
 have HQN:=Lq (qN.keep (bT by' b1))
 have HQF:=Lq (qF.keep b1);have HQL:=Lq qL;have HBW1:=Lq bw1;have HNE:Hid (w.heap.size≤gN∧gN<gF∧gF<gL):=Lq (by omega)
 have HSV:=Lq (survey72_any b o cp p q sg Ss css day W1 (H.below bw1) hd hP hQ ((HS.below bw1 (lr _)).more bw1.size) hsl hso);have hoka:=shipOn_ok hP day;have hokb:=shipOn_ok hQ day;obtain⟨la,hla⟩:=ex (shipOn day (psOf p.ms) (csOf p.cs));obtain⟨lb,hlb⟩:=ex (shipOn day (psOf q.ms) (csOf q.cs));rw[hla]at hoka;rw[hlb]at hokb;rw[hla,hlb]at HSV h0 hnm hnm9 hfound ⊢;obtain⟨ag,hag⟩:=ex (agreeL [la,lb] sg 2);have hin:∀i∈ag,i<2:=fun i hi=>agree_in (hag▸hi)
 have hag9:ag.length≤2:=hag▸agreeL_len _ _ _;rw[hag]at h0 hnm hnm9 hfound ⊢;obtain⟨PL,hPL⟩:=ex (pickL [la,lb] ag);have hokp:∀l∈PL,ShipOk l:=by
  rw[←hPL];intro l hl;obtain⟨i,_,hi⟩:=List.mem_filterMap.1 hl
  match i,hi with
  | 0,hi=>injection hi with hi;exact hi▸hoka
  | 1,hi=>injection hi with hi;exact hi▸hokb
  | n+2,hi=>cases hi
 rw[hPL]at hnm hnm9 hfound ⊢;have HAG:=Lq hag;have HPL:=Lq hPL;have HIN:=Lq hin;have HNM:=Lq hnm;have HNM9:=Lq hnm9;have HOKP:=Lq hokp;have HFD:=Lq hfound;have hag0:¬((ag.length:Int)=0):=by omega
 have hagb:((ag.length:Int)==0)=false:=by simpa using hag0
 clear H HS hd hP hQ hso hla hlb hsl hag hPL hin hnm hnm9 h0 hoka hokb hokp hfound zx zy bx by' b1 qN qF qL bw1
 refine(callsIn_wide (n:=0)).1 ?_;refine callsIn_of_wp_marks Tryz.func23 rfl trivial ?_ rfl;simp only[Tryz.ntmps23,List.size_toArray,List.length_cons,List.length_nil,Nat.reduceAdd,Nat.reduceSub,Array.replicate_succ,Array.replicate_zero,List.push_toArray,List.append_toArray,List.nil_append,List.cons_append]
 gi_wp2_with fail
 refine⟨trivial,rfl,(callsIn_wide.2 HSV.out).mono ?_⟩;rintro e w4 ⟨g,c,Ag,cg,s1,s2,rfl,hb,hp1,hp2,hsh,hrd,hle,hmx⟩;rw[HAG.out]at hrd hle;simp only[HAG.out];obtain⟨Wa,W5,hWa,hW5,hb5,hqa,hba,hq5⟩:=twoMade w4 134 (.slice none 0 0) (.slice none 0 0) (.slice (some ⟨g,0,none⟩) 2 c) (.slice Ag ag.length cg);obtain⟨g10,hg10⟩:=ex w4.heap.size;rw[hg10]at hW5 hqa hq5;have HB5:=Lq (bT hb hb5);have HLF:Hid (Cs 71 #[.agg #[.slice (some ⟨g,0,none⟩) 2 c,.slice Ag ag.length cg]] W5 fun e w'=>∃A c9,e=.returned (.slice A (pickSh [s1,s2] ag).length c9)∧ShsRd w' w'.heap.size A (pickSh [s1,s2] ag)∧(pickSh [s1,s2] ag).length≤c9∧c9≤maxLen∧BW W5 w'):=Lq (by
  have hs:=(hsh.below hb5 (lr _)).more hb5.size;refine(left73_any (some ⟨g,0,none⟩) Ag [s1,s2] ag c cg W5 hs ((hrd.below hb5 (lr _)).more hb5.size) (by omega) (fun i hi=>HIN.out i hi)).mono ?_
  rintro e w' ⟨v,rfl,hown,hb'⟩;obtain⟨A,c9,rfl,h1,h2,h3⟩:=own1_rd hown;exact⟨A,c9,rfl,⟨h1,fun s hs'=>((hs.ok s (pick_mem hs')).below hb' (lr _)).more hb'.size⟩,h2,h3,hb'⟩)
 have hpp:=pick_ps hp1 hp2 ag;rw[HPL.out]at hpp;obtain⟨SH,hSH⟩:=ex (pickSh [s1,s2] ag);rw[hSH]at HLF hpp;have HPP:=Lq hpp;have HALL:Hid (allNms SH=PL.flatMap fun l=>l.map HuP.name):=Lq (by rw[allNms_ps,hpp])
 have hsl9:SH.length≤2:=by rw[←hSH];unfold pickSh;exact lT (List.length_filterMap_le _ _) hag9
 have hpl:PL.length=SH.length:=by rw[←hpp,List.length_map]
 have HPLL:=Lq hpl;have af:=hqa.frozen 0;have af1:=hqa.frozen 1;have ac:=hqa.c 0;have ac1:=hqa.c 1;have al:=hqa.lt;have d0:=hq5.c 0;have d1:=hq5.c 1;clear hb hp1 hp2 hsh hrd hle hmx hb5 hqa hba hq5 hpp hSH hpl
 gi_wp2_with fail
 refine⟨trivial,rfl,(callsIn_wide.2 HLF.out).mono ?_⟩;rintro e w6 ⟨A4,c4,rfl,hsr,hle4,hmx4,hb6⟩;obtain⟨Wb,W7,hWb,hW7,hb7,hqb,hbb,hq7⟩:=oneMade w6 132 (.slice none 0 0) (.slice A4 SH.length c4);obtain⟨gS,hgS⟩:=ex w6.heap.size;rw[hgS]at hW7 hqb hq7;have hb17:=bT HB5.out (bT hb6 hb7);have qL7:=HQL.out.keep hb17;obtain⟨W8,hW8⟩:=ex (W7.setCell ⟨gL,0,none⟩ (iv SH.length));have o8:OnlyAt W7 W8 gL:=by rw[←hW8];exact OnlyAt.of_set (bR W7) gL 0 _
 have hgL1:=HQL.out.lt;have hgSW:W1.heap.size≤gS:=by have h1:=HB5.out.size;have h2:=hb6.size;omega
 have qL8:Blk W8 gL 3 #[iv SH.length]:=by
  rw[←hW8];have h:=qL7.set_ 0 (iv SH.length)
  simpa using h
 have qN8:Blk W8 gN 9 #[.string ⟨#[]⟩]:=(HQN.out.keep hb17).same (o8.block gN (HQN.out.keep hb17).lt (by have:=HNE.out;omega))
 have qF8:Blk W8 gF 3 #[iv 0]:=(HQF.out.keep hb17).same (o8.block gF (HQF.out.keep hb17).lt (by have:=HNE.out;omega))
 have qS8:Blk W8 gS 132 #[.slice A4 SH.length c4]:=hq7.same (o8.block gS hq7.lt (by omega))
 have hsr7:=(hsr.below hb7 (lr _)).more hb7.size;have hsr8:ShsRd W8 W8.heap.size A4 SH:=by
  have hi:=int1_ne qL7;refine⟨fun i x hx=>?_,fun s hs=>(hsr7.ok s hs).moved hi o8⟩
  obtain⟨b',off,e,hlt,hc⟩:=hsr7.rd i x hx;refine⟨b',off,e,lz hlt o8.size,o8.cell hc (fun e2=>?_)⟩
  subst e2;rw[qL7.cell]at hc;unfold encSh at hc
  match hoi:off+i,hc with
  | 0,hc=>injection hc with hc;cases hc
  | n+1,hc=>rw[Array.getElem?_eq_none (by show 1≤n+1;omega)]at hc;cases hc
 have HB8:Hid (BW w W8):=Lq (o8.below (bT HBW1.out hb17) (by have:=HNE.out;omega))
 obtain⟨tb,htb⟩:=ex W8.heap.size;have HLK:=looks76_any A4 SH.length c4 W8;rw[htb]at HLK;have HLK:=Lq HLK;obtain⟨W9,hW9⟩:=ex (W8.alloc (.cells #[.slice A4 SH.length c4] 132));have hb9:BW W8 W9:=by rw[←hW9];exact bA (bR _) _
 have qT9:Blk W9 tb 132 #[.slice A4 SH.length c4]:=by rw[←hW9,←htb];exact Blk.new W8 132 _
 have hsr9:=(hsr8.below hb9 (lr _)).more hb9.size;have hokm:∀s∈SH,ShipOk (psOf s.ms):=fun s hs=>HOKP.out _ (by rw[←HPP.out];exact List.mem_map_of_mem hs)
 have HSH:Hid (∀V,KeepM (fun k=>k=gN∨k=gF∨k=gL) W9 V→ShsRd V V.heap.size A4 SH):=Lq fun V hV=>by
  refine⟨fun i x hx=>?_,fun s hs=>(hsr9.ok s hs).kept3 (hokm s hs) (qN8.keep hb9) (qF8.keep hb9) (qL8.keep hb9) hV⟩
  obtain⟨b',off,e,hlt,hc⟩:=hsr9.rd i x hx;refine⟨b',off,e,lz hlt hV.size,hV.cell hc (fun e2=>?_)⟩
  unfold encSh at hc;rcases e2 with e2 | e2 | e2
  all_goals
   subst e2
  ·rw[(qN8.keep hb9).cell]at hc
   match hoi:off+i,hc with
   | 0,hc=>injection hc with hc;cases hc
   | n+1,hc=>rw[Array.getElem?_eq_none (by show 1≤n+1;omega)]at hc;cases hc
  ·rw[(qF8.keep hb9).cell]at hc
   match hoi:off+i,hc with
   | 0,hc=>injection hc with hc;cases hc
   | n+1,hc=>rw[Array.getElem?_eq_none (by show 1≤n+1;omega)]at hc;cases hc
  ·rw[(qL8.keep hb9).cell]at hc
   match hoi:off+i,hc with
   | 0,hc=>injection hc with hc;cases hc
   | n+1,hc=>rw[Array.getElem?_eq_none (by show 1≤n+1;omega)]at hc;cases hc
 have hit:=looks111_iter tb A4 SH c4 W9 (qT9.c 0) (by unfold maxLen;omega) hsr9 (by rw[HALL.out];exact HNM.out) (by rw[HALL.out];exact HNM9.out)
 rw[HALL.out,show tidyN (PL.flatMap fun l=>l.map HuP.name)=someN PL from rfl]at hit
 have HIT:=Lq hit;have hgS9:Blk W9 gS 132 #[.slice A4 SH.length c4]:=qS8.keep hb9;have HS9:Hid (∀V,KeepM (fun k=>k=gN∨k=gF∨k=gL) W9 V→V.cell? ⟨gS,0,none⟩=some (.slice A4 SH.length c4)):=Lq fun V hV=>hV.cell (hgS9.c 0) (by have:=HNE.out;omega)
 have HI0:Hid (AskI W9 gN gF gL (askTo PL []) W9):=Lq ⟨rfl,rfl,rfl,KeepM.refl _ _,qN8.keep hb9,qF8.keep hb9,by have h:=qL8.keep hb9;unfold askTo;simp only[List.foldl_nil,HPLL.out];exact h⟩
 have hgLW:gL<W9.heap.size:=(qL8.keep hb9).lt;have HBW9:Hid (BW w W9):=Lq (bT HB8.out hb9);have bf:=hqb.frozen 0;have bc:=hqb.c 0;have bl:=hqb.lt;have e0:=hq7.c 0;have g0:=qL7.c 0;have g1:=qL7.frozen 0;have g2:=qL7.lt;have s8:=qS8.c 0;have hne3:gN<gF∧gF<gL:=by have:=HNE.out;omega
 have HGSl:=Lq hgSW;clear hsr hle4 hmx4 hb6 hqb hbb hq7 hb7 hb17 qL7 o8 qL8 qN8 qF8 qS8 hsr7 hsr8 hb9 qT9 hsr9 hokm hit hgS9 hgSW hgL1
 gi_wp2_with fail
 refine⟨trivial,rfl,(callsIn_wide.2 HLK.out).mono ?_⟩;rintro e w10 ⟨rfl,rfl⟩;rw[hW9];clear af af1 ac ac1 al d0 d1 bf bc bl e0 g0 g1 g2 s8 hWa hW5 hg10 hWb hW7 hgS hW8 htb hW9 hWx hWy hW1 hgN hgF hgL HLK
 gi_wp2_with fail
 refine rangeFunc_gen 0 114 #[.pointer (some ⟨tb,0,none⟩)] lkV (allLooks (someN PL)) (fun k=>k=gN∨k=gF∨k=gL) (fun _=>True) rfl HIT.out (fun k hk=>⟨trivial,by omega⟩) trivial (fun args w=>enters_of Tryz.func114 (by kernel_rfl) rfl args w)
  (fun pre W=>AskI W9 gN gF gL (askTo PL pre) W) ?_ HI0.out ?_ ?_
 ·exact fun s X Y hX hb=>hX.below hb (lr _) (by omega) (by omega) (by omega)
 ·intro m l2 pre s W hI hpre hsz;obtain⟨nm,fr⟩:=s;simp only[lkV];obtain⟨Wa,Wb,hWa,hWb,hb1,hqa,hba,hq1⟩:=twoMade W 144 (.string ⟨#[]⟩) (iv 0) (.string nm) (iv fr);obtain⟨g12,hg12⟩:=ex W.heap.size;rw[hg12]at hWb hqa hq1;have HB1:=Lq hb1;have HQ1:=Lq hq1;have hg12':W9.heap.size+2<g12:=by omega
  have af:=hqa.frozen 0;have af1:=hqa.frozen 1;have ac:=hqa.c 0;have ac1:=hqa.c 1;have al:=hqa.lt;clear hb1 hqa hba hq1 hsz
  gi_wp2_with fail
  refine⟨HB1.out, ?_⟩;rintro W2 hF hg2 hs2;have HF:=Lq hF;have hq2:Blk W2 g12 144 #[.string nm,iv fr]:=HQ1.out.grown hg2 (fun e=>by injection e with e;omega)
  have HQ2:=Lq hq2;have hk2:=hF.keep;have HK2:=Lq hk2;obtain⟨W3,hW3⟩:=ex (W2.alloc (.cells #[iv 0,iv 0,iv 0,iv 0,iv 0,iv 0] 145));have hb3:BW W2 W3:=by rw[←hW3];exact bA (bR _) _
  have hq3:Blk W3 W2.heap.size 145 #[iv 0,iv 0,iv 0,iv 0,iv 0,iv 0]:=by rw[←hW3];exact Blk.new W2 145 _
  obtain⟨g13,hg13⟩:=ex W2.heap.size;rw[hg13]at hq3;have HQ3:=Lq hq3;have HB3:=Lq hb3;have HG13:Hid (W2.heap.size=g13):=Lq hg13;have s0:=HS9.out W3 (HK2.out.trans (KeepM.of_below hb3));have h213:W9.heap.size≤g13:=by rw[←hg13];exact hk2.size
  clear hI hF hg2 hs2 hq2 hk2 hb3 hq3 af af1 ac ac1 al hWa hWb hg12
  gi_wp2_with fail
  clear s0 hW3 hg13
  gi_loopw [42] (fun i wr=>∃k:Nat,k≤SH.length∧i=iv k∧Hid (Blk wr g13 145 (cntsA (PL.take k) nm fr))∧Hid (OnlyAt W3 wr g13)) (fun i _=>SH.length-(intOf i).toNat)
  case atStart=>exact⟨0,Nat.zero_le _,rfl,HQ3,Lq (OnlyAt.of_below (bR _) _)⟩
  case round =>
   obtain⟨k,hk,rfl,HCT,HOW⟩:=hrel;have hk0:(0:Int)≤(k:Int):=by omega
   have hbw2:BW W2 wr:=HOW.out.below HB3.out (Nat.le_of_eq HG13.out);have HKW:Hid (KeepM (fun k=>k=gN∨k=gF∨k=gL) W9 wr):=Lq (HK2.out.trans (KeepM.of_below hbw2))
   have HBW2:=Lq hbw2;by_cases hlt:k<SH.length
   ·obtain⟨s,hs⟩:=gX (l:=SH) (i:=k) hlt;have hsh:=HSH.out wr HKW.out;obtain⟨b3,off,rfl,_,c0⟩:=hsh.rd k s hs;have hslk:=hsh.ok s (mG ⟨k,hs⟩);have hpk:PL[k]?=some (psOf s.ms):=by rw[←HPP.out,List.getElem?_map,hs];rfl
    have hbd:=sees_bd (HOKP.out _ (mG ⟨k,hpk⟩)) nm fr;obtain⟨sn,hsn⟩:∃n:Nat,seesV (psOf s.ms) nm fr=(n:Int):=⟨(seesV (psOf s.ms) nm fr).toNat,by omega⟩
    have hsn6:sn<6:=by omega
    have HSN:Hid (∀j:Nat,cntV (PL.take (k+1)) nm fr j=cntV (PL.take k) nm fr j+(if sn=j then 1 else 0)):=Lq fun j=>by
     rw[cnt_snoc hpk,hsn];by_cases hj:sn=j
     ·simp[hj]
     ·rw[if_neg (by omega),if_neg hj]
    obtain⟨sms,sA,scap⟩:=s;simp only[encSh]at c0 hslk hsn;obtain⟨Wc,W6,hWc,hW6,hb6,hqc,hbc,hq6⟩:=oneMade wr 102 (.slice none 0 0) (.slice sA sms.length scap);obtain⟨g15,hg15⟩:=ex wr.heap.size;rw[hg15]at hW6 hqc hq6;have HSE:Hid (Cs 75 #[.pointer (some ⟨g15,0,none⟩),.agg #[.string nm,iv fr]] W6 (Rt W6 (iv sn))):=Lq (hsn▸sees77_any sA sms scap g15 0 nm fr W6 ((hslk.below hb6 (lr _)).more hb6.size) (hq6.c 0));have HB6:=Lq hb6;have q2:=HQ2.out.keep (bT hbw2 hb6);have l0:=q2.c 0;have l1:=q2.c 1;have ccf:∀V,BW wr V→V.cell? ⟨g13,sn,none⟩=some (iv (cntV (PL.take k) nm fr sn))∧V.frozen? ⟨g13,sn,none⟩=false∧g13<V.heap.size:=fun V hV=>by have kk:=HCT.out.keep hV;refine⟨?_,kk.frozen sn,kk.lt⟩;rw[kk.cell];unfold cntsA;rcases(show sn=0∨sn=1∨sn=2∨sn=3∨sn=4∨sn=5 by omega)with rfl | rfl | rfl | rfl | rfl | rfl<;>rfl
    have HCC:=Lq ccf;have hcb:=cnt_bd (PL.take k) nm fr sn;have hpl2:(PL.take k).length≤2:=by rw[List.length_take];have:=HPLL.out;omega
    have af:=hqc.frozen 0;have ac:=hqc.c 0;have al:=hqc.lt;have hs0:(0:Int)≤(sn:Int):=by omega
    have hs6:(sn:Int)<6:=by omega
    clear hs hsh hslk hpk hbd hsn hb6 hqc hbc hq6 q2 ccf hbw2
    gi_wp2_with fail
    refine⟨trivial,hdd _,(CallsIn.inRound l2 (callsIn_wide.2 HSE.out)).mono ?_⟩;rintro e w7 ⟨rfl,hb⟩;have HB7:=Lq (bT HB6.out hb);obtain⟨d0,d1,d2⟩:=HCC.out w7 HB7.out;obtain⟨cv,hcv⟩:=ex (cntV (PL.take k) nm fr sn);rw[hcv]at d0 hcb;have HCV:=Lq hcv;have hcvw:cv≤2:=by omega
    clear hb c0 l0 l1 af ac al hWc hW6 hg15 hcv
    gi_wp2_with fail
    have hset:cntsA (PL.take (k+1)) nm fr=(cntsA (PL.take k) nm fr).setIfInBounds sn (iv (cv+1)):=by unfold cntsA;simp only[HSN.out 0,HSN.out 1,HSN.out 2,HSN.out 3,HSN.out 4,HSN.out 5];have hv:=HCV.out;rcases(show sn=0∨sn=1∨sn=2∨sn=3∨sn=4∨sn=5 by omega)with rfl | rfl | rfl | rfl | rfl | rfl<;>simp[hv]
    go_roundw
    case measure=>simp[intOf];omega
    case rel =>
     refine⟨k+1,by omega,by go_num,Lq ?_,Lq ?_⟩
     ·rw[hset];exact(HCT.out.keep HB7.out).set_ sn (iv (cv+1))
     ·exact(HOW.out.join (OnlyAt.of_below HB7.out g13)).join (OnlyAt.of_set (bR _) g13 sn _)
   ·obtain rfl:k=SH.length:=by omega
    have hq:=HCT.out;rw[List.take_of_length_le (Nat.le_of_eq HPLL.out)]at hq;have HQ13:=Lq hq;have hmx:=Tryz.slices_Max_int g13 0 6 6 (cntsV PL nm fr) wr (by decide) (lr 6) (by decide) (fun j hj=>by have hj6:j<6:=hj;rw[Nat.zero_add,HQ13.out.cell];rcases(show j=0∨j=1∨j=2∨j=3∨j=4∨j=5 by omega)with rfl | rfl | rfl | rfl | rfl | rfl<;>rfl)
    rw[show Lib.maxOf ((cntsV PL nm fr).take 6)=worstV PL nm fr from rfl]at hmx
    have HMX:=Lq hmx;clear hq hmx
    gi_wp2_with fail
    refine⟨trivial,hdd _,(CallsIn.inRound l2 (callsIn_wide.2 HMX.out)).mono ?_⟩;rintro e w8 ⟨rfl,rfl⟩;obtain⟨⟨bn,bf,bl⟩,hbb⟩:=ex (askTo PL pre);have hf:=HF.out;rw[hbb]at hf;have HBB:=Lq hbb;have hz9:=hf.keep.size;have HFR:Hid (AskI W9 gN gF gL (bn,bf,bl) w8):=Lq (hf.below HBW2.out hf.keep.size (by omega) (by omega) (by omega))
    have c0:=HFR.out.l.c 0;obtain⟨wv,hwv⟩:=ex (worstV PL nm fr);rw[hwv];have HWV:=Lq hwv;clear hf hbb hwv hlt hk hk0;by_cases hw:wv<bl
    ·gi_wp2_with fail
     refine reg27_18 (show gN≠gF∧gN≠gL∧gF≠gL∧g12≠gN∧g12≠gF∧g12≠gL by omega) HFR.out.n HFR.out.f HFR.out.l (HQ2.out.keep HBW2.out) ?_
     rintro u58 u59 u60 u61 u62 wx ⟨V0,hbV,rfl⟩;have HFX:=Lq (HFR.out.put3 hbV (show gN≠gF∧gN≠gL∧gF≠gL by omega) nm fr wv)
     have HKX:Hid (KeepM (fun k=>k=gN∨k=gF∨k=gL) W2 (((V0.setCell ⟨gN,0,none⟩ (.string nm)).setCell ⟨gF,0,none⟩ (iv fr)).setCell ⟨gL,0,none⟩ (iv wv))):=Lq ((KeepM.of_below (bT HBW2.out hbV)).trans (by
      refine⟨by simp,fun i hi hl=>?_⟩
      rw[Below.heap_setCell _ _ _ _ (fun e=>hi (.inr (.inr e))),Below.heap_setCell _ _ _ _ (fun e=>hi (.inr (.inl e))),Below.heap_setCell _ _ _ _ (fun e=>hi (.inl e))]))
     gi_wp2_with fail
     refine⟨HKX.out, ?_⟩;show AskI W9 gN gF gL (askTo PL (pre++[(nm,fr)])) _
     rw[ask_snoc,HBB.out,show askStep PL (bn,bf,bl) (nm,fr)=(nm,fr,wv)by unfold askStep;simp only[HWV.out,if_pos hw]]
     exact HFX.out
    ·gi_wp2_with fail
     refine⟨KeepM.of_below HBW2.out, ?_⟩;show AskI W9 gN gF gL (askTo PL (pre++[(nm,fr)])) _
     rw[ask_snoc,HBB.out,show askStep PL (bn,bf,bl) (nm,fr)=(bn,bf,bl)by unfold askStep;simp only[HWV.out,if_neg (show ¬wv<bl by omega)]]
     exact HFR.out
 ·intro W hI hsz hD;have HD:=Lq hD;obtain⟨⟨bn,bf,bl⟩,hbb⟩:=ex (askTo PL (allLooks (someN PL)));have hfd:=HFD.out;rw[hbb]at hI hfd;have HBB:=Lq hbb;have HI:=Lq hI;have c0:=hI.n.c 0;have hfe:bn.toList.isEmpty=false:=hfd;clear hI hD hbb hfd
  gi_wp2_with fail
  refine(wpIn_wide).2 ?_;refine reg27_21 (show gN≠gF∧gN≠gL∧gF≠gL by omega) HI.out.n HI.out.f HI.out.l ?_
  rintro u65 u66 u67 wx ⟨V0,hbV,rfl⟩;have HFX:=Lq (HI.out.put3 hbV (show gN≠gF∧gN≠gL∧gF≠gL by omega) bn bf bl)
  have HDV:Hid (V0.heap[W9.heap.size]?=some (.deferred (some []))):=Lq ((hbV.block _ (by omega)).trans HD.out)
  have HDX:Hid ((((V0.setCell ⟨gN,0,none⟩ (.string bn)).setCell ⟨gF,0,none⟩ (iv bf)).setCell ⟨gL,0,none⟩ (iv bl)).heap[W9.heap.size]?=some (.deferred (some []))):=Lq (by
   rw[Below.heap_setCell _ _ _ _ (by show _≠gL;omega),Below.heap_setCell _ _ _ _ (by show _≠gF;omega),Below.heap_setCell _ _ _ _ (by show _≠gN;omega)]
   exact HDV.out)
  obtain⟨WX,hWX⟩:=ex (((V0.setCell ⟨gN,0,none⟩ (.string bn)).setCell ⟨gF,0,none⟩ (iv bf)).setCell ⟨gL,0,none⟩ (iv bl));rw[hWX]at HFX HDX ⊢;clear hWX hbV HDV c0
  gi_wp2_with fail
  refine⟨by simp,.inl ⟨_,_,rfl,run_takeDeferred HDX.out, ?_⟩⟩
  have hFY:=HFX.out.below (below_putObj WX (lr W9.heap.size) (.deferred none)) (lr _) (by omega) (by omega) hgLW
  have y0:=hFY.n.c 0;have y1:=hFY.f.c 0;have y2:=hFY.l.c 0;refine⟨.tuple #[.string bn,iv bf,iv bl,iv 0],by simp[results,Tryz.results23,go_sem,y0,y1,y2], ?_,hFY.fin HBW9.out ?_ ?_ ?_⟩
  ·rw[HBB.out]
  ·have:=HNE.out;omega
  ·have:=HNE.out;omega
  ·have:=HNE.out;omega
end
section
variable{Q:Exit→Act→World→Prop}{j:Nat}{w:World}
attribute [local go_sem] Oper.semAt_some
theorem write113(B b:Nat)(bs:List Value)(s:ByteArray)(w:World)(h:Lib.IsBuilder 197 5 B b bs w)(hlen:bs.length+s.size≤140737488355328)(hBw:B≤w.heap.size) :
  Cs 116 #[pT b 0,.string s] w fun e w'=>e=.returned (.tuple #[iv s.size,.nilIface])∧(Lib.BuilderAt 197 5 B b (pT b 0) (bs++Lib.strCells s) w'∧Below B w w'):=Any.Builder_WriteString { Tryz.lays156 with } Tryz.Builder_Extra_156 B b bs s w h hlen hBw
theorem run_append_none_c(base:Nat)(ty:TypeId)(i:TypeInfo)(hi:Tryz.prog.info? 9=some i)(v:Value)(n c:Nat)(xs:List Value)(hown:w.ownsRow base 9 1 v n xs) :
  (Builtin.append_ #[41,41] ty #[v,.slice none 0 c]).run Tryz.prog w=.ok v w:=by
 rcases hown.2 with⟨rfl,rfl⟩ | ⟨g,cap,cur,rfl,_,_,hnc,_⟩
 ·simp[Builtin.append_,run_underlying Tryz.underlying41,sizeOf,typeInfo,hi,Builtin.lenOf,Builtin.firstCells]
 ·simp[Builtin.append_,run_underlying Tryz.underlying41,sizeOf,typeInfo,hi,Builtin.lenOf,Builtin.firstCells,hnc,storeCells]
theorem wpList_append_strs{ops:Array Oper}{rest:List Oper}{o:Oper}{a:Act}(hgd:o.guard=none)(s x:Operand)(ho:o.op=.call { callee:=.builtin .append,args:=#[s,x],argTypes:=#[41,41] })(base:Nat)(v:Value)(n:Nat)(xs:List Value)(hs:a.eval s=v)(hown:w.ownsRow base 9 1 v n xs)(A:Option Addr)(cap B:Nat)(l:List ByteArray)(hx:a.eval x=.slice A l.length cap)(hrd:Rd1 .string w B A l)(h63:n+l.length≤maxLen)(hbytes:(n+l.length)*16≤140737488355328)(hbase:base≤w.heap.size)(h:∀v' w',w'.ownsRow base 9 1 v' (n+l.length) (xs++l.map .string)→w.grownBy w' v.ownBlock→wpList Tryz.prog ops Q rest (a.put o.dst v') w') :
  wpList Tryz.prog ops Q (o::rest) a w:=by
 obtain⟨i9,hi9,hz90,hz91,hz92⟩:=info_parts Tryz.info9;cases A with
 | none =>
  have h0:l=[]:=by
   cases l with
   | nil=>rfl
   | cons x t =>
    obtain⟨_,_,h,_⟩:=hrd 0 x rfl;cases h
  subst h0;refine wpList_plain hgd fun K hK=>?_
  have hr:=run_append_none_c (w:=w) base o.type i9 hi9 v n cap xs hown;unfold Oper.wp execOp;simp only[List.length_nil]at hx;simp only[ho,resolve,invoke,builtin,Sem.run_bind,Sem.run_pure,Result.andThen_ok,List.map_toArray,List.map_cons,List.map_nil,hs,hx,hr];exact hK _ _ (h v w (by simpa using hown) (grownBy_refl _ _))
 | some ad =>
  exact wpList_append_srcs hgd s x 41 ho base 9 i9 (.string ⟨#[]⟩) 1 16 Tryz.underlying41 hi9 hz90 hz91 hz92 rfl (by decide) v n xs hs hown (.slice (some ad) l.length cap) l.length _ hx (str_srcs hrd) h63 hbytes hbase fun v' w' a b _=>h v' w' a b
def kindNm:List ByteArray:=[⟨#[112,108,97,116,101]⟩,⟨#[98,101,97,109]⟩,⟨#[101,110,103,105,110,101]⟩,⟨#[116,97,110,107]⟩,⟨#[112,105,112,101]⟩]
def KindsPost(w:World)(e:Ending)(w':World):Prop:=e=.returned (.slice (some ⟨w.heap.size,0,none⟩) 5 5)∧w'=w.alloc (.cells (kindNm.map .string).toArray 9)
theorem kinds121_any(w:World):Cs 124 #[] w (KindsPost w):=by
 go_enter Tryz.func124,Tryz.ntmps124
 go_wp2_with fail;go_ret
 exact⟨rfl,rfl⟩
def kindAt(k:Nat):ByteArray:=kindNm.getD k ⟨#[]⟩
noncomputable def ops115_1:Array Oper:=opsOf (regionOf Tryz.f118 1)
theorem reg115_1{V:World}{g:Nat}{nm:ByteArray}{kd:Int}{zA zC zD zE zF zG zH zI zJ zK zL zM zN zO zP zQ zR zS zT zU zV zW zX zY zZ za zb zc zd ze zf zg zh zi zj zk zl zm zn zo:Value}(hk:1≤kd∧kd≤5)(hc:∀W,BW V W→cA W g 0 (.string nm)∧cA W g 1 (iv kd))(hQ:∀u6 u7 u8 u9 u10 u11 u12 u13 u14 wx,(∃gl,BW V wx∧wx.ownsRow V.heap.size 9 1 (.slice (some ⟨gl,0,none⟩) 2 2) 2 [.string nm,.string (kindAt (kd-1).toNat)]∧u14=.slice (some ⟨gl,0,none⟩) 2 2)→Q .normal ⟨#[zA,pT g 0,zC,u14,zE,zF,u6,u7,u8,u9,u10,u11,u12,u13,u14,zP,zQ,zR,zS,zT,zU,zV,zW,zX,zY,zZ,za,zb,zc,zd,ze,zf,zg,zh,zi,zj,zk,zl,zm,zn,zo],[]⟩ wx) :
  (regionOf Tryz.f118 1).wp Tryz.prog Q ⟨#[zA,pT g 0,zC,zD,zE,zF,zG,zH,zI,zJ,zK,zL,zM,zN,zO,zP,zQ,zR,zS,zT,zU,zV,zW,zX,zY,zZ,za,zb,zc,zd,ze,zf,zg,zh,zi,zj,zk,zl,zm,zn,zo],[]⟩ V:=by
 have HS:=Lq hc;have HQ:=Lq hQ;clear hc hQ;have hkw:IntKind.i64.wrap (kd-1)=kd-1:=by rw[IntKind.wrap_i64];omega
 have hk0:0≤kd-1:=by omega
 have hk5:kd-1<5:=by omega
 obtain⟨kn,hkn⟩:∃n:Nat,kd-1=(n:Int):=⟨(kd-1).toNat,by omega⟩
 rw[hkn]at hkw hk0 hk5 HQ;rw[Int.toNat_natCast]at HQ;have HKN:=Lq hkn;refine go0 (ops:=ops115_1) (r:=1) (n:=10) (S:=fun W=>cA W g 0 (.string nm)∧cA W g 1 (iv kd)) (fun W hb=>HS.out W hb) fun V0 HB0 hHeld=>?_
 refine tk 0 (pT g 0) ?_;refine tk 1 (.string nm) ?_;refine tk 3 (pT g 1) ?_;refine tk 4 (iv kd) ?_;refine tk 5 (iv kn) ?_;refine rd1 2 fun K' hK=>?_
 go_simp;refine(kinds121_any _).mono ?_;rintro e w1 ⟨rfl,rfl⟩;have hb1:BW V0 (V0.alloc (.cells (kindNm.map .string).toArray 9)):=bA (bR V0) _;have hq1:=Blk.new V0 9 (kindNm.map .string).toArray;have ck:(V0.alloc (.cells (kindNm.map .string).toArray 9)).cell? ⟨V0.heap.size,kn,none⟩=some (.string (kindAt kn)):=by rw[hq1.cell];rcases(show kn=0∨kn=1∨kn=2∨kn=3∨kn=4 by omega)with rfl | rfl | rfl | rfl | rfl<;>rfl
 have HB1:=Lq (bT HB0.out hb1);obtain⟨W1,hW1⟩:=ex (V0.alloc (.cells (kindNm.map .string).toArray 9));obtain⟨gk,hgk⟩:=ex V0.heap.size;rw[hW1]at ck HB1;rw[hgk]at ck;simp only[hW1,hgk];refine hK.out _ _ (HS.out _ HB1.out) (fun hHeld=>?_)
 clear hK hb1 hq1;refine rd1 6 fun K' hK=>?_
 go_simp;refine hK.out _ _ (HS.out _ HB1.out) (fun hHeld=>?_)
 clear hK;refine rd1 7 fun K' hK=>?_
 go_simp;refine hK.out _ _ (HS.out _ HB1.out) (fun hHeld=>?_)
 clear hK;refine rd1 8 fun K' hK=>?_
 go_simp;have hr:=World.ownsRow_lit (base:=V.heap.size) (e:=9) (size:=1) W1 #[.string nm,.string (kindAt kn)] 2 HB1.out.size (by decide) rfl
 have HR:=Lq hr;have HB2:=Lq (bT HB1.out (bA (bR W1) (.cells #[.string nm,.string (kindAt kn)] 9)));refine hK.out _ _ (HS.out _ HB2.out) (fun hHeld=>?_)
 clear hK hr;refine tk 9 (.slice (some ⟨W1.heap.size,0,none⟩) 2 2) ?_;refine wpAnyH_done (by kernel_rfl) ?_ _
 exact NoPanic.normal (HQ.out _ _ _ _ _ _ _ _ _ _ ⟨_,HB2.out,HR.out,rfl⟩)
def itoaB(n:Int):ByteArray:=⟨(Lib.itoa n).toArray⟩
def numsOf(p:HuP):List Int:=[p.first,p.last,p.wlo,p.whi]
def tellL(p:HuP):List ByteArray:=[p.name,kindAt (p.kind-1).toNat]++(numsOf p).map itoaB++p.on
def tellTo(p:HuP)(j:Nat):List ByteArray:=[p.name,kindAt (p.kind-1).toNat]++((numsOf p).take j).map itoaB
theorem tell_len{p:HuP}(hj:j≤4):(tellTo p j).length=2+j:=by
 unfold tellTo;rw[List.length_append,List.length_map,List.length_take];show 2+min j 4=_
 omega
theorem tell_step{p:HuP}{n:Int}(h:(numsOf p)[j]?=some n):tellTo p (j+1)=tellTo p j++[itoaB n]:=by unfold tellTo;rw[List.take_add_one,h,List.map_append,←List.append_assoc];rfl
theorem tell_all(p:HuP):tellTo p 4++p.on=tellL p:=rfl
def tellV(p:HuP)(j:Nat):List Value:=(tellTo p j).map .string
def PowTab(w:World):Prop:=Lib.TabIs Tryz.prog w "internal/strconv.uint64pow10" .u64 Lib.pow10Tab
theorem PowTab.below{w':World}{B:Nat}(h:PowTab w)(hb:Below B w w')(hB:w.heap.size≤B):PowTab w':=Go.Joins.tab_stays (g:=_) (show Tryz.prog.globalNamed _=some _ by rfl) h hb hB
theorem itoa116_any(n:Int)(h0:-9223372036854775808≤n)(h1:n≤9223372036854775807)(w:World)(ht:PowTab w):Cs 119 #[iv n] w (Rt w (.string (itoaB n))):=by refine(Tryz.strconv_Itoa n h0 h1 w ht).mono ?_;rintro e w' ⟨rfl,k,os,rfl⟩;exact⟨rfl,Lib.below_grow _ _ (lr _) k os⟩
theorem tell115_any(m:HuM)(w:World)(hm:MOk w w.heap.size m)(ht:PowTab w)(hk:1≤m.p.kind∧m.p.kind≤5)(hn:∀n∈numsOf m.p, -9223372036854775808≤n∧n≤9223372036854775807)(hon:m.p.on.length≤1000) :
  Cs 118 #[mV m] w (OwnSs (tellL m.p) w):=by
 obtain⟨i9,hi9,hz90,hz91,hz92⟩:=info_parts Tryz.info9;obtain⟨⟨nm,kd,fi,la,on,lo,hi⟩,A,c⟩:=m;obtain⟨W1,hW1⟩:=ex (w.alloc (.cells #[.string nm,iv kd,iv fi,iv la,.slice A on.length c,iv lo,iv hi] 43));have b1:BW w W1:=by rw[←hW1];exact bA (bR w) _
 have q1:Blk W1 w.heap.size 43 #[.string nm,iv kd,iv fi,iv la,.slice A on.length c,iv lo,iv hi]:=by rw[←hW1];exact Blk.new w 43 _
 obtain⟨g,hg⟩:=ex w.heap.size;rw[hg]at q1;have HQ1:=Lq q1;have HB1:=Lq b1;have HG:Hid (w.heap.size=g):=Lq hg;have HM:Hid (MOk w w.heap.size ⟨⟨nm,kd,fi,la,on,lo,hi⟩,A,c⟩):=Lq hm;have HT:=Lq ht;have HN:=Lq hn;have HON:Hid (on.length≤1000):=Lq hon;clear q1 b1 hm ht hn hon;go_enter Tryz.func118,Tryz.ntmps118
 go_upto_region 1 with fail
 refine reg115_1 hk (fun W hb=>⟨(HQ1.out.keep hb).c 0,(HQ1.out.keep hb).c 1⟩) ?_
 rintro u6 u7 u8 u9 u10 u11 u12 u13 u14 wx ⟨gl,hbx,hown,rfl⟩;have HBX:=Lq (bT HB1.out hbx);have hqx:=HQ1.out.keep hbx;obtain⟨d0,d1,d2,d3,d4,d5,d6⟩:=hqx.c7;have hlx:=hqx.lt;obtain⟨W3,hW3⟩:=ex (wx.alloc (.cells #[iv fi,iv la,iv lo,iv hi] 3));have HB3:Hid (BW w W3):=Lq (bT HBX.out (by rw[←hW3];exact bA (bR wx) _))
 have hqn:Blk W3 wx.heap.size 3 #[iv fi,iv la,iv lo,iv hi]:=by rw[←hW3];exact Blk.new wx 3 _
 obtain⟨gn,hgn⟩:=ex wx.heap.size;rw[hgn]at hqn;have hqg3:Blk W3 g 43 #[.string nm,iv kd,iv fi,iv la,.slice A on.length c,iv lo,iv hi]:=hqx.keep (by rw[←hW3];exact bA (bR wx) _)
 have HQN:=Lq (And.intro hqn hqg3);have HOW3:Hid (W3.ownsRow w.heap.size 9 1 (.slice (some ⟨gl,0,none⟩) 2 2) (2+0) (tellV ⟨nm,kd,fi,la,on,lo,hi⟩ 0)):=Lq (by rw[←hW3];exact own_base (own_below hown (bA (bR wx) _)) HB1.out.size)
 clear hbx hown hqn hqx hqg3;go_wp2_with fail;clear d0 d1 d2 d3 d4 d5 d6 hW3 hgn hlx;go_loopw [3,27] (fun v i wr=>∃j:Nat,j≤4∧i=iv j∧Hid (wr.ownsRow w.heap.size 9 1 v (2+j) (tellV ⟨nm,kd,fi,la,on,lo,hi⟩ j))∧Hid (BW w wr)∧Hid (Blk wr gn 3 #[iv fi,iv la,iv lo,iv hi]∧Blk wr g 43 #[.string nm,iv kd,iv fi,iv la,.slice A on.length c,iv lo,iv hi])) (fun _ i _=>4-(intOf i).toNat)
 case atStart=>exact⟨0,Nat.zero_le _,rfl,HOW3,HB3,HQN⟩
 case round =>
  obtain⟨j,hj,rfl,HOW,HBR,HQ⟩:=hrel;have hj0:(0:Int)≤(j:Int):=by omega
  by_cases hlt:j<4
  ·obtain⟨n,hn'⟩:∃n,(numsOf ⟨nm,kd,fi,la,on,lo,hi⟩)[j]?=some n:=⟨_,gE (by show j<4;exact hlt)⟩
   have hnb:=HN.out n (mG ⟨j,hn'⟩);have cn:wr.cell? ⟨gn,j,none⟩=some (iv n):=by rw[HQ.out.1.cell];unfold numsOf at hn';rcases(show j=0∨j=1∨j=2∨j=3 by omega)with rfl | rfl | rfl | rfl<;>(injection hn' with e;subst e;rfl)
   have HI:=Lq (itoa116_any n hnb.1 hnb.2 wr (HT.out.below HBR.out (lr _)));have HTK:Hid (tellV ⟨nm,kd,fi,la,on,lo,hi⟩ (j+1)=tellV ⟨nm,kd,fi,la,on,lo,hi⟩ j++[.string (itoaB n)]):=Lq (by unfold tellV;rw[tell_step hn',List.map_append];rfl)
   clear hn' hnb;go_wp2_with fail;refine HI.out.mono ?_;rintro e w5 ⟨rfl,hb⟩;have HB5:=Lq hb;clear hb cn;obtain⟨sn,hsn⟩:=ex (itoaB n);rw[hsn];have HSN:=Lq hsn;have HAL:=Lq ((own_below HOW.out HB5.out).alloc (.cells #[.string sn] 9));clear hsn;go_wp2_with (at_builtin;refine wpList_append_own _ rfl _ _ 41 rfl w.heap.size 9 i9 (.string ⟨#[]⟩) 1 16 Tryz.underlying41 hi9 hz90 hz91 hz92 rfl (by decide) _ _ _ rfl HAL.out ⟨w5.heap.size,0,none⟩ 1 1 [.string sn] rfl rfl (one_new _ _ _) ?d2 ?d3 ?d4 ?d5 ?_)
   case d2=>simp[Value.oneCell']
   case d3=>unfold maxLen;omega
   case d4=>omega
   case d5=>have:=HBR.out.size;have:=HB5.out.size;(try simp only[World.size_alloc]);omega
   intro v9 w6 hown9 hg9 _;have hb9:BW w w6:=grownB HAL.out hg9 (by first | exact lr _ | exact Nat.le_of_eq HG.out) (bA (bT HBR.out HB5.out) _)
   have hb7:BW wr (w5.alloc (.cells #[.string sn] 9)):=bA HB5.out _;have q1:=HQ.out.1.keep hb7;have q2:=HQ.out.2.keep hb7;have HQ9:=Lq (And.intro (q1.grown hg9 (own_ne HAL.out q1 (by decide))) (q2.grown hg9 (own_ne HAL.out q2 (by decide))))
   have HB9:=Lq hb9;have HO9:=Lq hown9;clear hown9 hg9 hb9 hb7 q1 q2;go_wp2_with fail;go_roundw
   case measure=>simp[intOf];omega
   case rel =>
    refine⟨j+1,by omega,by go_num,Lq ?_,HB9,HQ9⟩
    rw[HTK.out,HSN.out]
    (try rw[HG.out])
    exact HO9.out
  ·obtain rfl:j=4:=by omega
   have c4:=HQ.out.2.c 4;have hon:=HON.out;have HRD:=Lq ((HM.out.below HBR.out (lr _)).on);go_wp2_with (at_builtin;refine wpList_append_strs rfl _ _ rfl w.heap.size _ _ _ rfl HOW.out A c w.heap.size on rfl HRD.out (by unfold maxLen;omega) (by omega) (by have:=HBR.out.size;omega) ?_)
   intro v9 w6 hown9 hg9;have hb9:BW w w6:=grownB HOW.out hg9 (lr _) HBR.out;have HB9:=Lq hb9;have HO9:=Lq hown9;clear hown9 hg9 hb9;go_wp2_with fail;go_ret
   refine⟨v9,rfl, ?_,HB9.out⟩;have hv:tellV ⟨nm,kd,fi,la,on,lo,hi⟩ 4++on.map .string=(tellL ⟨nm,kd,fi,la,on,lo,hi⟩).map .string:=by unfold tellV;rw[←List.map_append];rfl
   have hl:(tellL ⟨nm,kd,fi,la,on,lo,hi⟩).length=6+on.length:=by rw[←tell_all,List.length_append,tell_len (lr 4)]
   rw[←hv,hl]
   (try rw[HG.out])
   exact HO9.out
end
section
variable{B b:Nat}{W w:World}
attribute [local go_sem] Oper.semAt_some
theorem blds_below{bs:List Value}(h:Lib.IsBuilder 197 5 B b bs w)(hb:BW w W):Lib.IsBuilder 197 5 B b bs W:=by
 rcases h with⟨h1,v,h2,h3,h4⟩ | ⟨h1,v,h2,h3,h4⟩
 ·exact .inl ⟨h1,v,(hb.block b (Blk.lt h2)).trans h2,own_below h3 hb,h4⟩
 ·exact .inr ⟨h1,v,(hb.block b (Blk.lt h2)).trans h2,own_below h3 hb,h4⟩
theorem blds_grown{base n:Nat}{v:Value}{xs:List Value}{bs:List Value}(h:Lib.IsBuilder 197 5 B b bs w)(ho:w.ownsRow base 9 1 v n xs)(hg:w.grownBy W v.ownBlock):Lib.IsBuilder 197 5 B b bs W:=by
 rcases h with⟨h1,v',h2,h3,h4⟩ | ⟨h1,v',h2,h3,h4⟩
 ·exact .inl ⟨h1,v',Blk.grown h2 hg (own_ne ho h2 (by decide)),own_grown h3 ho (by decide) hg,h4⟩
 ·exact .inr ⟨h1,v',Blk.grown h2 hg (own_ne ho h2 (by decide)),own_grown h3 ho (by decide) hg,h4⟩
def lineOf(l:List ByteArray):List UInt8:=Lib.join (l.map (·.data.toList)) [32]++[10]
def sSp:ByteArray:=⟨#[32]⟩
def sNl:ByteArray:=⟨#[10]⟩
def LinePost(B b:Nat)(bs:List UInt8)(l:List ByteArray)(w:World)(e:Ending)(w':World):Prop:=e=.returned (.tuple #[])∧Lib.IsBuilder 197 5 B b (Lib.byteCells (bs++lineOf l)) w'∧Below B w w'
theorem line112_any(B b c:Nat)(A:Option Addr)(xs:List ByteArray)(bs:List UInt8)(w:World)(h:Lib.IsBuilder 197 5 B b (Lib.byteCells bs) w)(hx:0<xs.length)(hrd:Rd1 .string w w.heap.size A xs)(hc:xs.length≤c)(hn:xs.length≤2000)(hl:(lineOf xs).length≤100000)(hbs:bs.length≤1000000000)(hBw:B≤w.heap.size) :
  Cs 115 #[.slice A xs.length c,pT b 0] w (LinePost B b bs xs w):=by
 obtain⟨x0,hx0⟩:=gX (l:=xs) (i:=0) hx;obtain⟨bk,o,rfl,hbk,_⟩:=hrd 0 x0 hx0;have hcells:∀(j:Nat) x,xs[j]?=some x→cA w bk (o+j) (.string x):=by
  intro j x hj;obtain⟨b',o',e,_,hc'⟩:=hrd j x hj;injection e with e
  injection e with e1 e2
  subst e1 e2;exact hc'
 have hj:(Lib.join (xs.map (·.data.toList)) [32]).length+1=(lineOf xs).length:=by unfold lineOf;rw[List.length_append];rfl
 have HJ:=Lq (Tryz.strings_Join bk o c xs sSp w hcells hbk (by omega) hc (by show(Lib.join (xs.map (·.data.toList)) [32]).length≤_;omega))
 obtain⟨J,hJ⟩:=ex (Lib.join (xs.map (·.data.toList)) [32]);have hJ2:Lib.join (xs.map (·.data.toList)) sSp.data.toList=J:=hJ;rw[hJ2]at HJ;have hln:lineOf xs=J++[10]:=by unfold lineOf;rw[hJ]
 rw[hJ]at hj;have HLN:=Lq hln;have HH:=Lq h;have HJL:Hid (J.length+1=(lineOf xs).length):=Lq hj;clear h hrd hcells hj hJ hJ2 hln hx0 hbk;go_enter Tryz.func115,Tryz.ntmps115
 go_wp2_with fail;refine HJ.out.mono ?_;rintro e w1 ⟨rfl,hb⟩;have HB1:=Lq hb;have h1:=blds_below HH.out hb;have hsz:=hb.size;obtain⟨S,hS⟩:=ex ((⟨J.toArray⟩:ByteArray)++⟨#[10]⟩);have hS1:S.data.toList=J++[10]:=by rw[←hS];simp[ByteArray.data_append]
 have hS2:S.size=J.length+1:=by rw[←ByteArray.size_data,←Array.length_toList,hS1,List.length_append];rfl
 have HW:=Lq (write113 B b (Lib.byteCells bs) S w1 h1 (by rw[Lib.byteCells_length,hS2];have:=HJL.out;omega) (by omega))
 rw[Lib.strCells_eq,hS1,←Lib.byteCells_append,←HLN.out]at HW;have hjl:¬(9223372036854775807<J.length+1):=by have:=HJL.out;omega
 have HS:=Lq hS;clear hb h1 hS hS1;go_wp2_with fail;rw[HS.out];refine HW.out.mono ?_;rintro e w2 ⟨rfl,hbl,hb2⟩;have HP:Hid (LinePost B b bs xs w (.returned (.tuple #[])) w2):=Lq ⟨rfl,.inr hbl,(HB1.out.mono hBw).trans hb2⟩;clear hbl hb2;go_wp2_with fail;exact⟨rfl,.tuple #[],by simp[results,Tryz.results115,go_sem],HP.out⟩
abbrev sPart:ByteArray:=⟨#[112,97,114,116]⟩
abbrev sAdd:ByteArray:=⟨#[97,100,100]⟩
abbrev sTake:ByteArray:=⟨#[116,97,107,101]⟩
abbrev sSwap:ByteArray:=⟨#[115,119,97,112]⟩
def partW(p:HuP):List ByteArray:=sPart::tellL p
def chgW(c:HuC):List ByteArray:=if c.what=1 then itoaB c.day::sAdd::tellL c.part else if c.what=2 then[itoaB c.day,sTake,c.name]else itoaB c.day::sSwap::c.name::tellL c.part
def partsT(ps:List HuP):List UInt8:=ps.flatMap fun p=>lineOf (partW p)
def chgsT(cs:List HuC):List UInt8:=cs.flatMap fun c=>lineOf (chgW c)
def textT(ps:List HuP)(cs:List HuC):List UInt8:=partsT ps++chgsT cs
theorem flat_len_le{α:Type}{f:α→List UInt8}{k:Nat}:∀(l:List α),(∀x∈l,(f x).length≤k)→(l.flatMap f).length≤l.length*k
 | [],_=>by simp
 | x::l,h=>by
  rw[List.flatMap_cons,List.length_append,List.length_cons,Nat.add_mul];have h1:=h x (List.mem_cons_self ..);have h2:=flat_len_le l fun y hy=>h y (List.mem_cons_of_mem _ hy)
  omega
structure TellOk(p:HuP):Prop where
 kind:1≤p.kind∧p.kind≤5
 nums:∀n∈numsOf p, -9223372036854775808≤n∧n≤9223372036854775807
 on:p.on.length≤1000
theorem tellL_len(p:HuP):(tellL p).length=6+p.on.length:=by rw[←tell_all,List.length_append,tell_len (lr 4)]
end
end Go.Proofs.YtigcophcpboanaaGreatDoor
namespace Go.Proofs.YtigcophcpboanaaGreatDoor
open Go.RowKit
section
variable{cs8:Array Value}{ds nm yn:ByteArray}{Q:Exit→Act→World→Prop}{yf yk yl yw yz:Int}{b g8 yc:Nat}{yA:Option Addr}{zA zB zK zL zM zN zO zP zQ zR zS zT zC zU zV zW zX zY zZ za zb zc zd zD ze zf zg zh zi zj zk zl zm zn zo zp zq zr zs zt zu zv zw zx zF zy zz zAA zAB zAC zAD zAE zAF zG zAO zAP zAQ zAR zH:Value}{V:World}
noncomputable def ops79_18:Array Oper:=opsOf (regionOf Tryz.f77 18)
abbrev hHW3r1(V:World)(g8 yc:Nat)(nm yn:ByteArray)(yk yf yl yw yz:Int)(yA:Option Addr)(yon:List ByteArray):Prop:=∀W:World,W.heap[g8]?=V.heap[g8]?→cA W g8 2 (.string nm)∧cA W g8 3 (.string yn)∧cA W g8 4 (iv yk)∧cA W g8 5 (iv yf)∧cA W g8 6 (iv yl)∧cA W g8 7 (.slice yA yon.length yc)∧cA W g8 8 (iv yw)∧cA W g8 9 (iv yz)
theorem st79_18{yon L:List ByteArray}{bs:List UInt8}{t8:TypeId}{A8:Option Addr}{c8 g62:Nat}(hL:0<L.length∧L.length≤1006)(hLn:(lineOf (ds::sSwap::nm::L)).length≤100000)(hbs:bs.length≤1000000000)(hb:b≤V.heap.size)(hg8:Blk V g8 t8 cs8)(ht8:t8≠9)(hI:Lib.IsBuilder 197 5 b b (Lib.byteCells bs) V)(hS:hHW3r1 V g8 yc nm yn yk yf yl yw yz yA yon)(hQ:∀u58 u59 u60 u61 u62 u63 u64 u65 u66 u67 wx,(Lib.IsBuilder 197 5 b b (Lib.byteCells (bs++lineOf (ds::sSwap::nm::L))) wx∧Below b V wx)→Q .normal ⟨(zA::zB::zC::zD::.func (.func 115) #[] #[.pointer (some ⟨b,0,none⟩)]::zF::zG::zH::.pointer (some ⟨g8,0,none⟩)::.string ds::zK::zL::zM::zN::zO::zP::zQ::zR::zS::zT::zU::zV::zW::zX::zY::zZ::za::zb::zc::zd::ze::zf::zg::zh::zi::zj::zk::zl::zm::zn::zo::zp::zq::zr::zs::zt::zu::zv::zw::zx::zy::zz::zAA::zAB::zAC::zAD::zAE::zAF::u58::u59::u60::u61::u62::u63::u64::u65::u66::u67::zAQ::zAR::[]).toArray,[]⟩ wx){w:World}(hO:w.ownsRow V.heap.size 9 1 (.slice (some ⟨g62,0,none⟩) 3 3) 3 [.string ds,.string sSwap,.string nm])(hR:Rd1 .string w w.heap.size A8 L)(hB:BW V w) :
  wpAnyL Tryz.prog .any ops79_18 (NoPanic Q) (fun W=>cA W g8 2 (.string nm)∧cA W g8 3 (.string yn)∧cA W g8 4 (iv yk)∧cA W g8 5 (iv yf)∧cA W g8 6 (iv yl)∧cA W g8 7 (.slice yA yon.length yc)∧cA W g8 8 (iv yw)∧cA W g8 9 (iv yz)) (fun k=>k==9) 2 #[true,true,true,true,true,true,true,true,false,false] ⟨(zA::zB::zC::zD::.func (.func 115) #[] #[.pointer (some ⟨b,0,none⟩)]::zF::zG::zH::.pointer (some ⟨g8,0,none⟩)::.string ds::zK::zL::zM::zN::zO::zP::zQ::zR::zS::zT::zU::zV::zW::zX::zY::zZ::za::zb::zc::zd::ze::zf::zg::zh::zi::zj::zk::zl::zm::zn::zo::zp::zq::zr::zs::zt::zu::zv::zw::zx::zy::zz::zAA::zAB::zAC::zAD::zAE::zAF::.func (.func 115) #[] #[.pointer (some ⟨b,0,none⟩)]::.string ds::.pointer (some ⟨g8,2,none⟩)::.string nm::.slice (some ⟨g62,0,none⟩) 3 3::.pointer (some ⟨g8,3,none⟩)::.agg #[.string yn,iv yk,iv yf,iv yl,.slice yA yon.length yc,iv yw,iv yz]::.slice A8 L.length c8::zAO::zAP::zAQ::zAR::[]).toArray,[]⟩ w:=by
 obtain⟨i9,hi9,hz90,hz91,hz92⟩:=info_parts Tryz.info9;have hk8:w.heap[g8]?=V.heap[g8]?:=hB.block g8 hg8.lt;have HS:=Lq hS;have HQ:=Lq hQ;have HO:=Lq hO;have HB:=Lq hB;obtain⟨ad,rfl⟩:∃ad,A8=some ad:=by obtain⟨_,_,e,_⟩:=hR 0 _ (gE hL.1);exact⟨_,e⟩
 have HR:=Lq hR;have HI:=Lq (blds_below hI hB);have q8:=hg8.same hk8;have HK8:=Lq hk8;have HQ8:=Lq q8;clear hS hQ hO hB hR hI hk8 q8;refine rdL1 8 fun K' hK=>?_
 refine step_append_any (by rfl) _ _ 41 (by rfl) V.heap.size 9 i9 _ 1 16 Tryz.underlying41 hi9 hz90 hz91 hz92 rfl (by decide) (.slice (some ⟨g62,0,none⟩) 3 3) 3 _ (by rfl) HO.out (.slice (some ad) L.length c8) L.length _ (by rfl) (str_srcs HR.out) (by unfold maxLen;omega) (by omega) HB.out.size ?_
 intro v9 w2 hown hgrow;have HB2:Hid (BW V w2):=Lq (grownB HO.out hgrow (lr _) HB.out);have HI2:=Lq (blds_grown HI.out HO.out hgrow);have HK2:Hid (w2.heap[g8]?=V.heap[g8]?):=Lq ((hgrow.block g8 HQ8.out.lt (own_ne HO.out HQ8.out ht8)).trans HK8.out);have hown:w2.ownsRow V.heap.size 9 1 v9 (3+L.length) (([ds,sSwap,nm]++L).map .string):=by rw[List.map_append];exact hown
 rw[show 3+L.length=([ds,sSwap,nm]++L).length by simp only[List.length_append,List.length_cons,List.length_nil]]at hown
 obtain⟨A9,c9,rfl,hrd9,hle9,hmx9⟩:=own1_rd hown;have HLI:=Lq (line112_any b b c9 A9 ([ds,sSwap,nm]++L) bs w2 HI2.out (by simp) hrd9 hle9 (by simp only[List.length_append,List.length_cons,List.length_nil];omega) hLn hbs (lT hb HB2.out.size))
 refine hK.out _ _ (HS.out _ HK2.out) (fun hHeld=>?_)
 clear hown hgrow HO HB hrd9 hle9 hmx9;clear hK;refine rdT 9 fun K' hK=>?_
 go_simp;refine HLI.out.mono ?_;rintro e w3 ⟨rfl,hi3,hb3⟩;refine hK.out _ _ ?_;clear hK;refine wpAny_of_held (S:=fun _=>True) _ _ _ _ ?_
 refine wpAnyH_done (by kernel_rfl) ?_ _
 exact NoPanic.normal (HQ.out _ _ _ _ _ _ _ _ _ _ _ ⟨hi3,(HB2.out.mono hb).trans hb3⟩)
theorem reg79_18{yon L:List ByteArray}{bs:List UInt8}{t8:TypeId}{zAG zAH zAI zAJ zAK zAL zAM zAN:Value}(hL:0<L.length∧L.length≤1006)(hLn:(lineOf (ds::sSwap::nm::L)).length≤100000)(hbs:bs.length≤1000000000)(hb:b≤V.heap.size)(hg8:Blk V g8 t8 cs8)(ht8:t8≠9)(hI:Lib.IsBuilder 197 5 b b (Lib.byteCells bs) V)(hS:hHW3r1 V g8 yc nm yn yk yf yl yw yz yA yon)(hQ:∀u58 u59 u60 u61 u62 u63 u64 u65 u66 u67 wx,(Lib.IsBuilder 197 5 b b (Lib.byteCells (bs++lineOf (ds::sSwap::nm::L))) wx∧Below b V wx)→Q .normal ⟨(zA::zB::zC::zD::.func (.func 115) #[] #[.pointer (some ⟨b,0,none⟩)]::zF::zG::zH::.pointer (some ⟨g8,0,none⟩)::.string ds::zK::zL::zM::zN::zO::zP::zQ::zR::zS::zT::zU::zV::zW::zX::zY::zZ::za::zb::zc::zd::ze::zf::zg::zh::zi::zj::zk::zl::zm::zn::zo::zp::zq::zr::zs::zt::zu::zv::zw::zx::zy::zz::zAA::zAB::zAC::zAD::zAE::zAF::u58::u59::u60::u61::u62::u63::u64::u65::u66::u67::zAQ::zAR::[]).toArray,[]⟩ wx)(hC:∀W,BW V W→Cs 118 #[.agg #[.string yn,iv yk,iv yf,iv yl,.slice yA yon.length yc,iv yw,iv yz]] W (OwnSs L W)) :
  (regionOf Tryz.f77 18).wp Tryz.prog Q ⟨(zA::zB::zC::zD::.func (.func 115) #[] #[.pointer (some ⟨b,0,none⟩)]::zF::zG::zH::.pointer (some ⟨g8,0,none⟩)::.string ds::zK::zL::zM::zN::zO::zP::zQ::zR::zS::zT::zU::zV::zW::zX::zY::zZ::za::zb::zc::zd::ze::zf::zg::zh::zi::zj::zk::zl::zm::zn::zo::zp::zq::zr::zs::zt::zu::zv::zw::zx::zy::zz::zAA::zAB::zAC::zAD::zAE::zAF::zAG::zAH::zAI::zAJ::zAK::zAL::zAM::zAN::zAO::zAP::zAQ::zAR::[]).toArray,[]⟩ V:=by
 have HS:=Lq hS;have HSV:Hid (∀W,BW V W→cA W g8 2 (.string nm)∧cA W g8 3 (.string yn)∧cA W g8 4 (iv yk)∧cA W g8 5 (iv yf)∧cA W g8 6 (iv yl)∧cA W g8 7 (.slice yA yon.length yc)∧cA W g8 8 (iv yw)∧cA W g8 9 (iv yz)):=Lq fun W hb=>hS W (hb.block g8 hg8.lt)
 have HC:=Lq hC;have HB0:=Lq (belowDq (bR V));have HQ:=Lq hQ;have HI:=Lq hI;clear hS hC hQ hI;have e:regionOf Tryz.f77 18=Code.region 18 ops79_18 true:=by kernel_rfl
 rw[e];refine wp_region_noPanic ?_;refine wp_region_late (S:=(fun W=>cA W g8 2 (.string nm)∧cA W g8 3 (.string yn)∧cA W g8 4 (iv yk)∧cA W g8 5 (iv yf)∧cA W g8 6 (iv yl)∧cA W g8 7 (.slice yA yon.length yc)∧cA W g8 8 (iv yw)∧cA W g8 9 (iv yz))) (late:=(fun k=>k==9)) (by kernel_rfl) ?_
 have hHeld:=HSV.out _ HB0.out;have hsz:ops79_18.size=10:=by kernel_rfl
 have hrep:Array.replicate 10 false=#[false,false,false,false,false,false,false,false,false,false]:=by kernel_rfl
 rw[hsz,hrep];clear e hsz hrep;generalize V.drew=V0 at HB0 hHeld ⊢;refine tkL 0 (.func (.func 115) #[] #[.pointer (some ⟨b,0,none⟩)]) ?_;refine tkL 1 (.string ds) ?_;refine tkL 2 (.pointer (some ⟨g8,2,none⟩)) ?_;refine tkL 3 (.string nm) ?_;refine tkL 5 (.pointer (some ⟨g8,3,none⟩)) ?_;refine tkL 6 (.agg #[.string yn,iv yk,iv yf,iv yl,.slice yA yon.length yc,iv yw,iv yz]) ?_;refine rdL2 4 7 (fun K' hK=>?_) fun K' hK=>?_
 ·skip;go_simp;have HB5:=Lq (bA HB0.out (.cells #[.string ds,.string sSwap,.string nm] 9));have HO5:=Lq (World.ownsRow_lit (e:=9) (size:=1) (base:=V.heap.size) V0 #[.string ds,.string sSwap,.string nm] 3 HB0.out.size (by decide) rfl)
  obtain⟨w5,hw5⟩:=ex (V0.alloc (.cells #[.string ds,.string sSwap,.string nm] 9));obtain⟨g62,hg1⟩:=ex V0.heap.size;rw[hw5]at HB5 HO5;rw[hg1]at HO5
  (try rw[hw5,hg1])
  refine hK.out _ _ (HSV.out _ HB5.out) (fun hHeld=>?_)
  clear hK hw5 hg1;refine rdL1 7 fun K' hK=>?_
  go_simp;refine(HC.out _ HB5.out).mono ?_;rintro e w6 ⟨v5,rfl,ho6,hb6⟩;obtain⟨A8,c8,rfl,hrd8,hle8,hmx8⟩:=own1_rd ho6;have HO6:=Lq (own_below HO5.out hb6);have HB6:=Lq (bT HB5.out hb6);clear ho6 hb6;refine hK.out _ _ (HSV.out _ HB6.out) (fun hHeld=>?_)
  clear hK;exact st79_18 hL hLn hbs hb hg8 ht8 HI.out HS.out HQ.out HO6.out hrd8 HB6.out
 ·skip;go_simp;refine(HC.out _ HB0.out).mono ?_;rintro e w5 ⟨v5,rfl,ho5,hb5⟩;obtain⟨A8,c8,rfl,hrd8,hle8,hmx8⟩:=own1_rd ho5;have HB5:=Lq (bT HB0.out hb5);clear ho5 hb5;refine hK.out _ _ (HSV.out _ HB5.out) (fun hHeld=>?_)
  clear hK;refine rdL1 4 fun K' hK=>?_
  go_simp;have HB6:=Lq (bA HB5.out (.cells #[.string ds,.string sSwap,.string nm] 9));have HO6:=Lq (World.ownsRow_lit (e:=9) (size:=1) (base:=V.heap.size) w5 #[.string ds,.string sSwap,.string nm] 3 HB5.out.size (by decide) rfl)
  have hb65:=bA (bR w5) (.cells #[.string ds,.string sSwap,.string nm] 9);obtain⟨w6,hw6⟩:=ex (w5.alloc (.cells #[.string ds,.string sSwap,.string nm] 9));obtain⟨g62,hg1⟩:=ex w5.heap.size;rw[hw6]at HB6 HO6 hb65;rw[hg1]at HO6
  (try rw[hw6,hg1])
  have HR6:=Lq ((hrd8.below hb65 (lr _)).more hb65.size);refine hK.out _ _ (HSV.out _ HB6.out) (fun hHeld=>?_)
  clear hK hw6 hg1 hb65;exact st79_18 hL hLn hbs hb hg8 ht8 HI.out HS.out HQ.out HO6.out HR6.out HB6.out
end
end Go.Proofs.YtigcophcpboanaaGreatDoor
namespace Go.Proofs.YtigcophcpboanaaGreatDoor
open Go.RowKit Go.Shelf
attribute [local go_sem] Oper.semAt_some
theorem text79_any(A C:Option Addr)(cap capc:Nat)(ms:List HuM)(cs:List HcM)(w:World)(H:PlanAt w A C cap capc ms cs)(ht:PowTab w)(hp:∀m∈ms,TellOk m.p∧(lineOf (partW m.p)).length≤100000)(hc:∀c∈cs,1≤c.what∧c.what≤3∧(-9223372036854775808≤c.day∧c.day≤9223372036854775807)∧(c.what≠2→TellOk c.part.p)∧(lineOf (chgW c.c)).length≤100000)(hpl:ms.length≤1000)(hcl:cs.length≤1000) :
  Cs 77 #[.agg #[.slice A ms.length cap,.slice C cs.length capc]] w (Rt w (.string ⟨(textT (psOf ms) (csOf cs)).toArray⟩)):=by
 obtain⟨i9,hi9,hz90,hz91,hz92⟩:=info_parts Tryz.info9;obtain⟨W1,hW1⟩:=ex (w.alloc (.cells #[.slice A ms.length cap,.slice C cs.length capc] 27));obtain⟨W2,hW2⟩:=ex (W1.alloc (.cells #[.pointer none,.slice none 0 0] 197));obtain⟨g1,hg1⟩:=ex w.heap.size;obtain⟨b,hbb⟩:=ex W1.heap.size;have b1:BW w W1:=by rw[←hW1];exact bA (bR w) _
 have b2:BW W1 W2:=by rw[←hW2];exact bA (bR _) _
 have q1:Blk W1 g1 27 #[.slice A ms.length cap,.slice C cs.length capc]:=by rw[←hW1,←hg1];exact Blk.new w 27 _
 have hi0:Lib.IsBuilder 197 5 b b (Lib.byteCells (partsT ((psOf ms).take 0))) W2:=by rw[←hW2,←hbb];exact Lib.fresh_isBuilder 197 5 W1
 have HI0:=Lq hi0;have HB1:=Lq b1;have HB2:Hid (Below b W1 W2):=Lq (by rw[←hbb];exact b2)
 have HQ1:=Lq q1;have HBB:Hid (W1.heap.size=b):=Lq hbb;have H1:=Lq (H.below b1);have HT:=Lq (ht.below b1 (lr _));have HP:=Lq hp;have HC:=Lq hc;have HPL:Hid (ms.length≤1000):=Lq hpl;have HCL:Hid (cs.length≤1000):=Lq hcl;have c0:=q1.c 0;have c1:=q1.c 1;have d0:=(q1.keep b2).c 0;have d1:=(q1.keep b2).c 1;clear H ht hp hc b1 b2 q1 hi0;go_enter Tryz.func77,Tryz.ntmps77
 go_wp2_with fail;clear c0 c1 d0 d1 hW1 hW2 hg1 hbb;go_loopw [15] (fun i wr=>∃k:Nat,k≤ms.length∧i=iv k∧Hid (Lib.IsBuilder 197 5 b b (Lib.byteCells (partsT ((psOf ms).take k))) wr)∧Hid (Below b W1 wr)) (fun i _=>ms.length-(intOf i).toNat)
 case atStart=>exact⟨0,Nat.zero_le _,rfl,HI0,HB2⟩
 case round =>
  obtain⟨k,hk,rfl,HI,HBW⟩:=hrel;have hk0:(0:Int)≤(k:Int):=by omega
  have hbw:BW W1 wr:=by rw[BW,HBB.out];exact HBW.out
  by_cases hlt:k<ms.length
  ·obtain⟨m,hm⟩:=gX (l:=ms) (i:=k) hlt;have hsl:=H1.out.sl.below hbw (lr _);obtain⟨bm,om,rfl,hbm,hmo,e0,e1,e2,e3,e4,e5,e6⟩:=hsl.rd.at hm;obtain⟨htl,hln⟩:=HP.out m (mG ⟨k,hm⟩);obtain⟨⟨nm,kd,fi,la,on,lo,hi⟩,mA,mc⟩:=m;have HKT:Hid (partsT ((psOf ms).take (k+1))=partsT ((psOf ms).take k)++lineOf (partW ⟨nm,kd,fi,la,on,lo,hi⟩)):=Lq (by
    unfold partsT;rw[List.take_add_one,ps_at hm,List.flatMap_append];simp)
   have HTL:Hid ((partsT ((psOf ms).take k)).length≤100000000):=Lq (by
    have h:=flat_len_le (f:=fun p=>lineOf (partW p)) (k:=100000) ((psOf ms).take k) (fun p hp=>by obtain⟨m',hm',rfl⟩:=List.mem_map.1 (List.mem_of_mem_take hp);exact(HP.out m' hm').2)
    have h2:((psOf ms).take k).length≤1000:=by rw[List.length_take];have:=HPL.out;omega
    exact lT h (Nat.mul_le_mul_right 100000 h2))
   simp only at e0 e1 e2 e3 e4 e5 e6 hmo htl;obtain⟨Wa,W6,hWa,hW6,hb6,hqa,hba,hq6⟩:=partMade wr nm kd fi la lo hi mA mc on.length;obtain⟨g6,hg6⟩:=ex wr.heap.size;rw[hg6]at hW6 hqa hq6;obtain⟨f0,f1,f2,f3,f4,f5,f6⟩:=hqa.f7;obtain⟨i0,i1,i2,i3,i4,i5,i6⟩:=hqa.c7;have el:=hqa.lt;obtain⟨W7,hW7⟩:=ex (W6.alloc (.cells #[.string sPart] 9));have hb7:BW W6 W7:=by rw[←hW7];exact bA (bR W6) _
   have hr7:W7.ownsRow W6.heap.size 9 1 (.slice (some ⟨W6.heap.size,0,none⟩) 1 1) 1 [.string sPart]:=by rw[←hW7];exact World.ownsRow_lit (e:=9) (size:=1) (base:=W6.heap.size) W6 #[.string sPart] 1 (lr _) (by decide) (by simp)
   have hq7:=hq6.keep hb7;obtain⟨j0,j1,j2,j3,j4,j5,j6⟩:=hq7.c7;obtain⟨g20,hg20⟩:=ex W6.heap.size;have hg20':b≤g20:=by have:=hb6.size;have:=hbw.size;have:=HBB.out;omega
   rw[hg20]at hr7;have HR7:=Lq hr7;have HB67:=Lq (bT hb6 hb7);have HB17:=Lq (bT hbw (bT hb6 hb7));have HTE:=Lq (tell115_any ⟨⟨nm,kd,fi,la,on,lo,hi⟩,mA,mc⟩ W7 ((hmo.below (bT hb6 hb7) hbw.size).more (lT hbw.size (lT hb6.size hb7.size))) (HT.out.below HB17.out (lr _)) htl.kind htl.nums htl.on);have HON:Hid (on.length≤1000):=Lq htl.on;have HLN:=Lq hln;clear hm hsl hbm hmo htl hln hb6 hqa hba hq6 hb7 hr7 hq7;go_wp2_with fail;refine HTE.out.mono ?_;rintro e w8 ⟨v8,rfl,hown8,hb8⟩;obtain⟨A8,c8,rfl,hrd8,hle8,hmx8⟩:=own1_rd hown8;have hlw:=tellL_len ⟨nm,kd,fi,la,on,lo,hi⟩;have HWL:Hid ((tellL ⟨nm,kd,fi,la,on,lo,hi⟩).length≤1006):=Lq (by rw[hlw];show 6+on.length≤1006;have:=HON.out;omega)
   have HPW:Hid (partW ⟨nm,kd,fi,la,on,lo,hi⟩=sPart::tellL ⟨nm,kd,fi,la,on,lo,hi⟩):=Lq rfl;obtain⟨L,hL⟩:=ex (tellL ⟨nm,kd,fi,la,on,lo,hi⟩);obtain⟨PW,hPW⟩:=ex (partW ⟨nm,kd,fi,la,on,lo,hi⟩);rw[hL]at HWL HPW hrd8;rw[hPW]at HPW HKT HLN;simp only[hL];have HR8:=Lq (own_below HR7.out hb8);have HRD8:=Lq hrd8;have HI8:=Lq (blds_below HI.out (bT HB67.out hb8));have HB18:=Lq (bT HB17.out hb8);have hz8:b≤w8.heap.size:=by have:=HB18.out.size;have:=HBB.out;omega
   have hz9:g20<w8.heap.size:=by have h:=HR8.out.lt g20 rfl;exact h.2
   have hw0:=HWL.out;clear hown8 hb8 hrd8 hle8 hmx8 hlw hL hPW f0 f1 f2 f3 f4 f5 f6 i0 i1 i2 i3 i4 i5 i6 el j0 j1 j2 j3 j4 j5 j6 e0 e1 e2 e3 e4 e5 e6 hWa hW6 hg6 hW7;go_wp2_with (at_builtin;refine wpList_append_strs rfl _ _ rfl g20 _ _ _ rfl HR8.out A8 c8 w8.heap.size L rfl HRD8.out (by unfold maxLen;omega) (by omega) (by omega) ?_)
   intro v9 w9 hown9 hg9;have hb9:Below b W1 w9:=by
    have h1:Below b W1 w8:=by rw[←HBB.out];exact HB18.out
    exact h1.grown hg9 (by have:=HB18.out.size;have:=HBB.out;omega) (fun k hk=>by injection hk with hk;subst hk;exact hg20')
   have hi9:=blds_grown HI8.out HR8.out hg9;have hpw:[Value.string sPart]++L.map .string=PW.map .string:=by rw[HPW.out];rfl
   have hpl:1+L.length=PW.length:=by rw[HPW.out,List.length_cons];omega
   have hown9:w9.ownsRow g20 9 1 v9 (1+L.length) ([Value.string sPart]++L.map .string):=hown9;rw[hpw,hpl]at hown9;obtain⟨A9,c9,rfl,hrd9,hle9,hmx9⟩:=own1_rd hown9;have HLI:=Lq (line112_any b b c9 A9 PW (partsT ((psOf ms).take k)) w9 hi9 (by omega) hrd9 hle9 (by omega) HLN.out (by have:=HTL.out;omega) (by have:=hb9.size;have:=HB18.out.size;have:=HBB.out;omega))
   have HB9:=Lq hb9;clear hb9 hi9 hpw hown9 hrd9 hle9 hmx9 hg9;go_wp2_with fail;refine HLI.out.mono ?_;rintro e w10 ⟨rfl,hi10,hb10⟩;have HB10:=Lq (HB9.out.trans hb10);rw[←HKT.out]at hi10;have HI10:=Lq hi10;clear hi10 hb10;go_wp2_with fail;go_roundw
   case measure=>simp[intOf];omega
   case rel=>exact⟨k+1,by omega,by go_num,HI10,HB10⟩
  ·obtain rfl:k=ms.length:=by omega
   have HI1:Hid (Lib.IsBuilder 197 5 b b (Lib.byteCells (partsT (psOf ms)++chgsT ((csOf cs).take 0))) wr):=Lq (by
    have h:=HI.out;rw[List.take_of_length_le (Nat.le_of_eq (List.length_map _))]at h;have e:partsT (psOf ms)++chgsT ((csOf cs).take 0)=partsT (psOf ms):=by unfold chgsT;simp
    rw[e];exact h)
   have HTP:Hid ((partsT (psOf ms)).length≤100000000):=Lq (by
    have h:=flat_len_le (f:=fun p=>lineOf (partW p)) (k:=100000) (psOf ms) (fun p hp=>by obtain⟨m',hm',rfl⟩:=List.mem_map.1 hp;exact(HP.out m' hm').2)
    have h2:(psOf ms).length≤1000:=by rw[List.length_map];exact HPL.out
    exact lT h (Nat.mul_le_mul_right 100000 h2))
   have q1:=HQ1.out.keep hbw;have d1:=q1.c 1;clear q1 hlt hk HI hbw;go_wp2_with fail;clear d1;go_loopw [29] (fun i wr=>∃k:Nat,k≤cs.length∧i=iv k∧Hid (Lib.IsBuilder 197 5 b b (Lib.byteCells (partsT (psOf ms)++chgsT ((csOf cs).take k))) wr)∧Hid (Below b W1 wr)) (fun i _=>cs.length-(intOf i).toNat)
   case atStart=>exact⟨0,Nat.zero_le _,rfl,HI1,HBW⟩
   case round =>
    obtain⟨k,hk,rfl,HI,HBW⟩:=hrel;have hk0:(0:Int)≤(k:Int):=by omega
    have hbw:BW W1 wr:=by rw[BW,HBB.out];exact HBW.out
    by_cases hlt:k<cs.length
    ·obtain⟨cc,hcc⟩:=gX (l:=cs) (i:=k) hlt;have hsl:=H1.out.ch.below hbw (lr _);obtain⟨bm,om,rfl,hbm,hmo,hnm,e0,e1,e2,e3,e4,e5,e6,e7,e8,e9⟩:=hsl.at hcc;obtain⟨hw1,hw3,hdy,htl,hln⟩:=HC.out cc (mG ⟨k,hcc⟩);obtain⟨wh,dy,nm,⟨⟨yn,yk,yf,yl,yon,yw,yz⟩,yA,yc⟩⟩:=cc;have HKT:Hid (partsT (psOf ms)++chgsT ((csOf cs).take (k+1))=(partsT (psOf ms)++chgsT ((csOf cs).take k))++lineOf (chgW ⟨wh,dy,nm,⟨yn,yk,yf,yl,yon,yw,yz⟩⟩)):=Lq (by
      have hcs:(csOf cs)[k]?=some ⟨wh,dy,nm,⟨yn,yk,yf,yl,yon,yw,yz⟩⟩:=by rw[List.getElem?_map,hcc];rfl
      unfold chgsT;rw[List.take_add_one,hcs,List.flatMap_append,←List.append_assoc];simp)
     have HTL:Hid ((partsT (psOf ms)++chgsT ((csOf cs).take k)).length≤200000000):=Lq (by
      have h:=flat_len_le (f:=fun c=>lineOf (chgW c)) (k:=100000) ((csOf cs).take k) (fun p hp=>by obtain⟨m',hm',rfl⟩:=List.mem_map.1 (List.mem_of_mem_take hp);exact(HC.out m' hm').2.2.2.2)
      have h2:((csOf cs).take k).length≤1000:=by rw[List.length_take];have:=HCL.out;omega
      have h3:=lT h (Nat.mul_le_mul_right 100000 h2);have h4:=HTP.out;rw[List.length_append];show _+(List.flatMap _ _).length≤_
      omega)
     simp only at e0 e1 e2 e3 e4 e5 e6 e7 e8 e9 hmo hnm htl hw1 hw3 hdy;obtain⟨Wa,W6,hWa,hW6,hb6,hqa,hba,hq6⟩:=chgMade wr 58 wh dy nm yn yk yf yl yw yz yA yc yon.length;obtain⟨g8,hg8⟩:=ex wr.heap.size;rw[hg8]at hW6 hqa hq6;obtain⟨f0,f1,f2,f3,f4,f5,f6,f7,f8,f9⟩:=hqa.f10;obtain⟨i0,i1,i2,i3,i4,i5,i6,i7,i8,i9'⟩:_∧_∧_∧_∧_∧_∧_∧_∧_∧_:=⟨hqa.c 0,hqa.c 1,hqa.c 2,hqa.c 3,hqa.c 4,hqa.c 5,hqa.c 6,hqa.c 7,hqa.c 8,hqa.c 9⟩;have el:=hqa.lt;obtain⟨j0,j1⟩:=hq6.c2;have HQ8:=Lq hq6;have HB6:=Lq hb6;have HB16:=Lq (bT hbw hb6);have hg8b:b≤g8:=by have:=hbw.size;have:=HBB.out;omega
     have HIT:=Lq (itoa116_any dy hdy.1 hdy.2 W6 (HT.out.below (bT hbw hb6) (lr _)));have HMO:=Lq ((hmo.below hb6 hbw.size).more (lT hbw.size hb6.size));have HTL2:=Lq htl;have HLN:=Lq hln;clear hcc hsl hbm hmo hnm hb6 hqa hba hq6 hdy htl hln;go_wp2_with fail;refine HIT.out.mono ?_;rintro e w7 ⟨rfl,hb7⟩;obtain⟨ds,hds⟩:=ex (itoaB dy);rw[hds];have HDS:=Lq hds;have q7:=HQ8.out.keep hb7;obtain⟨k0,k1,k2,k3,k4,k5,k6,k7,k8,k9⟩:=q7.c10;have HQ7:=Lq q7;have HB17:=Lq (bT HB16.out hb7);have HI7:=Lq (blds_below HI.out (bT HB6.out hb7));have HMO7:=Lq ((HMO.out.below hb7 (lr _)).more hb7.size);clear q7 hb7 hds e0 e1 e2 e3 e4 e5 e6 e7 e8 e9 f0 f1 f2 f3 f4 f5 f6 f7 f8 f9 i0 i1 i2 i3 i4 i5 i6 i7 i8 i9' el j0 j1 hWa hW6 hg8 HQ8 HIT HMO;rcases(show wh=1∨wh=2∨wh=3 by omega)with rfl | rfl | rfl
     ·have htl:=HTL2.out (by decide)
      obtain⟨W8,hW8⟩:=ex (w7.alloc (.cells #[.string ds,.string sAdd] 9));have hb8:BW w7 W8:=by rw[←hW8];exact bA (bR w7) _
      have hr8:W8.ownsRow w7.heap.size 9 1 (.slice (some ⟨w7.heap.size,0,none⟩) 2 2) 2 [.string ds,.string sAdd]:=by rw[←hW8];exact World.ownsRow_lit (e:=9) (size:=1) (base:=w7.heap.size) w7 #[.string ds,.string sAdd] 2 (lr _) (by decide) (by simp)
      have q8:=HQ7.out.keep hb8;obtain⟨j2,j3,j4,j5,j6,j7,j8,j9⟩:_∧_∧_∧_∧_∧_∧_∧_:=⟨q8.c 2,q8.c 3,q8.c 4,q8.c 5,q8.c 6,q8.c 7,q8.c 8,q8.c 9⟩;obtain⟨g20,hg20⟩:=ex w7.heap.size;have hg20':b≤g20:=by have:=HB17.out.size;have:=HBB.out;omega
      rw[hg20]at hr8;have HR8:=Lq hr8;have HB78:=Lq hb8;have HB18:=Lq (bT HB17.out hb8);have HTE:=Lq (tell115_any ⟨⟨yn,yk,yf,yl,yon,yw,yz⟩,yA,yc⟩ W8 ((HMO7.out.below hb8 (lr _)).more hb8.size) (HT.out.below HB18.out (lr _)) htl.kind htl.nums htl.on);have HON:Hid (yon.length≤1000):=Lq htl.on;clear htl hb8 hr8 q8;go_wp2_with fail;refine HTE.out.mono ?_;rintro e w9 ⟨v9,rfl,hown9,hb9⟩;obtain⟨A8,c8,rfl,hrd8,hle8,hmx8⟩:=own1_rd hown9;have hlw:=tellL_len ⟨yn,yk,yf,yl,yon,yw,yz⟩;have HWL:Hid ((tellL ⟨yn,yk,yf,yl,yon,yw,yz⟩).length≤1006):=Lq (by rw[hlw];show 6+yon.length≤1006;have:=HON.out;omega)
      have HPW:Hid (chgW ⟨1,dy,nm,⟨yn,yk,yf,yl,yon,yw,yz⟩⟩=ds::sAdd::tellL ⟨yn,yk,yf,yl,yon,yw,yz⟩):=Lq (by rw[←HDS.out];rfl)
      have HLN2:Hid ((lineOf (chgW ⟨1,dy,nm,⟨yn,yk,yf,yl,yon,yw,yz⟩⟩)).length≤100000):=HLN;obtain⟨L,hL⟩:=ex (tellL ⟨yn,yk,yf,yl,yon,yw,yz⟩);obtain⟨PW,hPW⟩:=ex (chgW ⟨1,dy,nm,⟨yn,yk,yf,yl,yon,yw,yz⟩⟩);rw[hL]at HWL HPW hrd8;rw[hPW]at HPW HKT HLN2;simp only[hL];have HR9:=Lq (own_below HR8.out hb9);have HRD8:=Lq hrd8;have HI9:=Lq (blds_below HI7.out (bT HB78.out hb9));have HB19:=Lq (bT HB18.out hb9);have hz8:b≤w9.heap.size:=by have:=HB19.out.size;have:=HBB.out;omega
      have hz9:g20<w9.heap.size:=by have h:=HR9.out.lt g20 rfl;exact h.2
      have hw0:=HWL.out;clear hown9 hb9 hrd8 hle8 hmx8 hlw hL hPW j2 j3 j4 j5 j6 j7 j8 j9 k0 k1 k2 k3 k4 k5 k6 k7 k8 k9 hW8;go_wp2_with (at_builtin;refine wpList_append_strs rfl _ _ rfl g20 _ _ _ rfl HR9.out A8 c8 w9.heap.size L rfl HRD8.out (by unfold maxLen;omega) (by omega) (by omega) ?_)
      intro v10 w10 hown10 hg10;have hb10:Below b W1 w10:=by
       have h1:Below b W1 w9:=by rw[←HBB.out];exact HB19.out
       exact h1.grown hg10 (by have:=HB19.out.size;have:=HBB.out;omega) (fun k hk=>by injection hk with hk;subst hk;exact hg20')
      have hi10:=blds_grown HI9.out HR9.out hg10;have hpw:[Value.string ds,Value.string sAdd]++L.map .string=PW.map .string:=by rw[HPW.out];rfl
      have hpl:2+L.length=PW.length:=by rw[HPW.out,List.length_cons,List.length_cons];omega
      have hown10:w10.ownsRow g20 9 1 v10 (2+L.length) ([Value.string ds,Value.string sAdd]++L.map .string):=hown10;rw[hpw,hpl]at hown10;obtain⟨A9,c9,rfl,hrd9,hle9,hmx9⟩:=own1_rd hown10;have HLI:=Lq (line112_any b b c9 A9 PW (partsT (psOf ms)++chgsT ((csOf cs).take k)) w10 hi10 (by omega) hrd9 hle9 (by omega) HLN2.out (by have:=HTL.out;omega) (by have:=hb10.size;have:=HB19.out.size;have:=HBB.out;omega))
      have HB10:=Lq hb10;clear hb10 hi10 hpw hown10 hrd9 hle9 hmx9 hg10;go_wp2_with fail;refine HLI.out.mono ?_;rintro e w11 ⟨rfl,hi11,hb11⟩;have HB11:=Lq (HB10.out.trans hb11);rw[←HKT.out]at hi11;have HI11:=Lq hi11;clear hi11 hb11;go_wp2_with fail;go_roundw
      case measure=>simp[intOf];omega
      case rel=>exact⟨k+1,by omega,by go_num,HI11,HB11⟩
     ·obtain⟨W8,hW8⟩:=ex (w7.alloc (.cells #[.string ds,.string sTake,.string nm] 9));have hb8:BW w7 W8:=by rw[←hW8];exact bA (bR w7) _
      have hr8:W8.ownsRow w7.heap.size 9 1 (.slice (some ⟨w7.heap.size,0,none⟩) 3 3) [ds,sTake,nm].length ([ds,sTake,nm].map .string):=by rw[←hW8];exact World.ownsRow_lit (e:=9) (size:=1) (base:=w7.heap.size) w7 #[.string ds,.string sTake,.string nm] 3 (lr _) (by decide) (by simp)
      have HPW:Hid (chgW ⟨2,dy,nm,⟨yn,yk,yf,yl,yon,yw,yz⟩⟩=[ds,sTake,nm]):=Lq (by rw[←HDS.out];rfl)
      have HLN2:Hid ((lineOf (chgW ⟨2,dy,nm,⟨yn,yk,yf,yl,yon,yw,yz⟩⟩)).length≤100000):=HLN;rw[HPW.out]at HKT HLN2;obtain⟨A9,c9,e9,hrd9,hle9,hmx9⟩:=own1_rd hr8;injection e9 with e9 _ e9'
      subst e9 e9';have HLI:=Lq (line112_any b b 3 _ [ds,sTake,nm] (partsT (psOf ms)++chgsT ((csOf cs).take k)) W8 (blds_below HI7.out hb8) (by simp) hrd9 hle9 (by simp) HLN2.out (by have:=HTL.out;omega) (by have:=hb8.size;have:=HB17.out.size;have:=HBB.out;omega))
      have HB18:Hid (Below b W1 W8):=Lq (by rw[←HBB.out];exact bT HB17.out hb8)
      obtain⟨g20,hg20⟩:=ex w7.heap.size;rw[hg20]at HLI;clear hb8 hr8 hrd9 hle9 hmx9;go_wp2_with fail;refine HLI.out.mono ?_;rintro e w11 ⟨rfl,hi11,hb11⟩;have HB11:=Lq (HB18.out.trans hb11);rw[←HKT.out]at hi11;have HI11:=Lq hi11;clear hi11 hb11 hW8 hg20 k0 k1 k2 k3 k4 k5 k6 k7 k8 k9;go_wp2_with fail;go_roundw
      case measure=>simp[intOf];omega
      case rel=>exact⟨k+1,by omega,by go_num,HI11,HB11⟩
     ·have htl:=HTL2.out (by decide)
      have HPW:Hid (chgW ⟨3,dy,nm,⟨yn,yk,yf,yl,yon,yw,yz⟩⟩=ds::sSwap::nm::tellL ⟨yn,yk,yf,yl,yon,yw,yz⟩):=Lq (by rw[←HDS.out];rfl)
      have HLN2:Hid ((lineOf (chgW ⟨3,dy,nm,⟨yn,yk,yf,yl,yon,yw,yz⟩⟩)).length≤100000):=HLN;rw[HPW.out]at HKT HLN2;go_upto_region 18 with fail
      refine reg79_18 (L:=tellL ⟨yn,yk,yf,yl,yon,yw,yz⟩) (bs:=partsT (psOf ms)++chgsT ((csOf cs).take k)) (by rw[tellL_len];show 0<6+yon.length∧6+yon.length≤1006;have:=htl.on;simp only at this;omega) HLN2.out (by have:=HTL.out;omega) (by have:=HB17.out.size;have:=HBB.out;omega) HQ7.out (by decide) HI7.out (fun W hW=>?_) ?_ (fun W hb=>tell115_any ⟨⟨yn,yk,yf,yl,yon,yw,yz⟩,yA,yc⟩ W ((HMO7.out.below hb (lr _)).more hb.size) (HT.out.below (bT HB17.out hb) (lr _)) htl.kind htl.nums htl.on)
      ·have q:=HQ7.out.same hW;exact⟨q.c 2,q.c 3,q.c 4,q.c 5,q.c 6,q.c 7,q.c 8,q.c 9⟩
      ·rintro u58 u59 u60 u61 u62 u63 u64 u65 u66 u67 w11 ⟨hi11,hb11⟩;have HB11:Hid (Below b W1 w11):=Lq ((show Below b W1 w7 by rw[←HBB.out];exact HB17.out).trans hb11)
       rw[←HKT.out]at hi11;have HI11:=Lq hi11;clear hi11 hb11;go_wp2_with fail;go_roundw
       case measure=>simp[intOf];omega
       case rel =>
        refine⟨_,_,_,_,_,_,_,_,_,_,_,_,_,_,_,_,_,_,_,_,_,_,_,_,_,_,_,_,_,_,_,_,_,_,_,_,_,_,_,_,_,_,⟨k+1,by omega, ?_,HI11,HB11⟩,rfl⟩
        go_num
    ·obtain rfl:k=cs.length:=by omega
     have hi:=HI.out;rw[List.take_of_length_le (Nat.le_of_eq (List.length_map _))]at hi;have HST:=Lq (Tryz.Builder_String_any b b (textT (psOf ms) (csOf cs)) wr hi (by have:=hbw.size;have:=HBB.out;omega))
     obtain⟨X,hX⟩:=ex (textT (psOf ms) (csOf cs));rw[hX]at HST;have HX:=Lq hX;have HBWW:=Lq hbw;clear hi hX hbw;go_wp2_with fail;refine HST.out.mono ?_;rintro e w12 ⟨rfl,hb12⟩;have HB12:Hid (BW w w12):=Lq (bT HB1.out (show Below W1.heap.size W1 w12 by rw[HBB.out];exact HBW.out.trans hb12))
     clear hb12;go_wp2_with fail;go_ret
     refine⟨?_,HB12.out⟩;rw[HX.out];rfl
end Go.Proofs.YtigcophcpboanaaGreatDoor
