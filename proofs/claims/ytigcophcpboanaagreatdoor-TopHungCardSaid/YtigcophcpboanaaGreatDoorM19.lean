/- hull: Write; the words that Read takes (printed by mkHW4.py). hull: a change's words .. -/
import Derived.Recover
import Derived.Test.YtigcophcpboanaaGreatDoorM18
set_option maxRecDepth 1000000
set_option maxHeartbeats 0
namespace Go.Proofs.YtigcophcpboanaaGreatDoor
open Go.RowKit Go.Shelf
section
variable{cs:Array Value}{c g t:Nat}{A:Option Addr}{W w:World}
attribute [local go_sem] Oper.semAt_some
theorem write28_any(A C:Option Addr)(cap capc:Nat)(ms:List HuM)(cs:List HcM)(w:World)(H:PlanAt w A C cap capc ms cs)(hok:PlanOk (psOf ms) (csOf cs))(ht:PowTab w)(hp:∀m∈ms,TellOk m.p∧(lineOf (partW m.p)).length≤100000)(hc:∀c∈cs,1≤c.what∧c.what≤3∧(-9223372036854775808≤c.day∧c.day≤9223372036854775807)∧(c.what≠2→TellOk c.part.p)∧(lineOf (chgW c.c)).length≤100000)(hpl:ms.length≤1000)(hcl:cs.length≤1000) :
  Cs 24 #[.agg #[.slice A ms.length cap,.slice C cs.length capc]] w (Rt w (.tuple #[.string ⟨(textT (psOf ms) (csOf cs)).toArray⟩,iv 0])):=by
 obtain⟨W1,hW1⟩:=ex (w.alloc (.cells #[.slice A ms.length cap,.slice C cs.length capc] 27));obtain⟨g1,hg1⟩:=ex w.heap.size;have b1:BW w W1:=by rw[←hW1];exact bA (bR w) _
 have q1:Blk W1 g1 27 #[.slice A ms.length cap,.slice C cs.length capc]:=by rw[←hW1,←hg1];exact Blk.new w 27 _
 have h1:=H.below b1;have HCK:=Lq (check68_any A C ms cs W1.heap.size cap capc W1 (lr _) h1.sl h1.ch h1.wf);have HTX:Hid (∀W,BW W1 W→Cs 77 #[.agg #[.slice A ms.length cap,.slice C cs.length capc]] W (Rt W (.string ⟨(textT (psOf ms) (csOf cs)).toArray⟩))):=Lq fun W hb=>text79_any A C cap capc ms cs W (h1.below hb) (ht.below (bT b1 hb) (lr _)) hp hc hpl hcl
 have HB1:=Lq b1;have HQ1:=Lq q1;have HOK:=Lq hok;have d0:=q1.c 0;have d1:=q1.c 1;obtain⟨X,hX⟩:=ex (⟨(textT (psOf ms) (csOf cs)).toArray⟩:ByteArray);rw[hX]at HTX;have HX:=Lq hX;clear H hok ht hp hc hpl hcl b1 q1 h1 hX;go_enter Tryz.func24,Tryz.ntmps24
 go_wp2_with fail;refine HCK.out.mono ?_;rintro e w2 ⟨p,i,r,rfl,hr,hb⟩;obtain rfl:=hr.2 HOK.out;have HB2:=Lq hb;have q2:=HQ1.out.keep hb;have e0:=q2.c 0;have e1:=q2.c 1;clear hb hr q2 d0 d1;go_wp2_with fail;refine(HTX.out _ HB2.out).mono ?_;rintro e w3 ⟨rfl,hb⟩;have HB3:=Lq (bT HB1.out (bT HB2.out hb));clear hb;go_wp2_with fail
 go_ret2
 rw[HX.out];exact⟨rfl,HB3.out⟩
theorem must82_any(w:World):Cs 80 #[.bool true] w fun e w'=>e=.returned (.tuple #[])∧w'=w:=by
 go_enter Tryz.func80,Tryz.ntmps80
 go_wp2_with fail;exact⟨rfl,.tuple #[],by simp[results,Tryz.results80,go_sem],rfl,rfl⟩
theorem cut81_any(s sep:ByteArray)(m:Int)(w:World)(hs:s.size<4294967281)(hm:w.cell? ⟨0,0,none⟩=some (iv m)) :
  Cs 79 #[.string s,.string sep] w (Rt w (.tuple #[.string ⟨(Lib.cut s.data.toList sep.data.toList).1.toArray⟩,.string ⟨(Lib.cut s.data.toList sep.data.toList).2.1.toArray⟩,.bool (Lib.cut s.data.toList sep.data.toList).2.2])):=by
 refine(Tryz.strings_Cut s sep m w hs hm).mono ?_;rintro e w' ⟨rfl,n,rfl⟩;exact⟨rfl,⟨rfl,rfl,rfl,lr _,fun _ _=>rfl⟩⟩
structure WdAt(w:World)(g:Nat)(A:Option Addr)(c:Nat)(l:List ByteArray):Prop where
 blk:Blk w g 154 #[.slice A l.length c]
 rd:Rd1 .string w g A l
 le:l.length≤c
 here:∀a,A=some a→a.block+1=g
 max:c≤maxLen
theorem WdAt.same{l:List ByteArray}(h:WdAt w g A c l)(hk:∀k,k≤g→W.heap[k]?=w.heap[k]?):WdAt W g A c l:=by
 refine⟨h.blk.same (hk g (lr _)),fun i x hx=>?_,h.le,h.here,h.max⟩
 obtain⟨b,off,e,hlt,hc⟩:=h.rd i x hx;exact⟨b,off,e,hlt,(World.cell?_of_block (w:=w) (a:=⟨b,_,none⟩) (hk b (Nat.le_of_lt hlt))).trans hc⟩
theorem WdAt.below{l:List ByteArray}(h:WdAt w g A c l)(hb:BW w W):WdAt W g A c l:=h.same fun k hk=>hb.block k (Nat.lt_of_le_of_lt hk h.blk.lt)
theorem next84_any(g c:Nat)(A:Option Addr)(x:ByteArray)(l:List ByteArray)(w:World)(H:WdAt w g A c (x::l)) :
  Cs 82 #[.pointer (some ⟨g,0,none⟩)] w fun e w'=>e=.returned (.string x)∧OnlyAt w w' g∧∃A' c',WdAt w' g A' c' l:=by
 obtain⟨bk,o,rfl,hbk,hcx⟩:=H.rd 0 x rfl;have hcx:w.cell? ⟨bk,o,none⟩=some (.string x):=hcx;have d0:=H.blk.c 0;have f0:=H.blk.frozen 0;have l0:=H.blk.lt;have hl:0<(x::l).length:=by simp
 have hle:=H.le;obtain⟨n,hn⟩:=ex (x::l).length;rw[hn]at d0 hl hle;have HN:=Lq hn;have HH:=Lq H;clear H hn;have hn1:(n:Int)-1=((n-1:Nat):Int):=by omega
 have hn0:n-1=l.length:=by rw[←HN.out];rfl
 have HN0:=Lq hn0;clear hn0 hn1;go_enter Tryz.func82,Tryz.ntmps82
 go_wp2_with fail;refine(must82_any _).mono ?_;rintro e w2 ⟨rfl,rfl⟩;by_cases hc1:c=1
 ·subst hc1;obtain rfl:n=1:=by omega
  go_wp2_with fail;go_ret
  have hl0:l=[]:=List.length_eq_zero_iff.1 HN0.out.symm;subst hl0;have hb:=HH.out.blk.set_ 0 (.slice (some ⟨bk,o,none⟩) 0 0);refine⟨rfl,OnlyAt.of_set (bR _) g 0 _,_,_,⟨hb,fun i x hx=>(by cases hx),lr _,HH.out.here,Nat.zero_le _⟩⟩
 ·go_wp2_with fail;go_ret
  have hb:=HH.out.blk.set_ 0 (.slice (some ⟨bk,o+1,none⟩) (n-1) (c-1));refine⟨rfl,OnlyAt.of_set (bR _) g 0 _,some ⟨bk,o+1,none⟩,c-1,⟨?_,fun i y hy=>?_, ?_,fun a ha=>by injection ha with ha;subst ha;exact HH.out.here ⟨bk,o,none⟩ rfl,lT (Nat.sub_le _ _) HH.out.max⟩⟩
  ·rw[←HN0.out];exact hb
  ·obtain⟨b',o',e,hlt,hc⟩:=HH.out.rd (i+1) y hy;injection e with e
   injection e with e1 e2
   subst e1 e2;refine⟨bk,o+1,rfl,hbk, ?_⟩;rw[show o+1+i=o+(i+1)by omega]
   exact keepSet hc (show bk≠g by omega)
  ·rw[←HN0.out];omega
structure NumW(x:ByteArray)(n:Int):Prop where
 sz:x.size≤18
 at':Lib.atoi x.data.toList=some n
theorem number122_any(g c:Nat)(A:Option Addr)(x:ByteArray)(n:Int)(l:List ByteArray)(w:World)(H:WdAt w g A c (x::l))(hx:NumW x n) :
  Cs 125 #[.pointer (some ⟨g,0,none⟩)] w fun e w'=>e=.returned (iv n)∧OnlyAt w w' g∧∃A' c',WdAt w' g A' c' l:=by
 have HNX:=Lq (next84_any g c A x l w H);have HX:=Lq hx;have HH:=Lq H;clear H hx;have q199:∀w:World,(binOp .eql 199 .nilIface .nilIface).run Tryz.prog w=.ok (.bool true) w:=fun w=>by simp[go_sem]
 go_enter Tryz.func125,Tryz.ntmps125
 go_wp2_with fail;refine HNX.out.mono ?_;rintro e w2 ⟨rfl,ho,A',c',hw⟩;have HO:=Lq ho;have HW:=Lq hw;clear ho hw;go_wp2_with fail;refine(Tryz.strconv_Atoi x n HX.out.sz HX.out.at' w2).mono ?_;rintro e w3 ⟨rfl,t,hw3⟩;have HB3:Hid (BW w2 w3):=Lq (by rw[hw3];exact Go.Joins.below_bytesWorld _ _ _ _ (lr _))
 clear hw3;go_wp2_with fail;refine(must82_any _).mono ?_;rintro e w4 ⟨rfl,rfl⟩;go_wp2_with fail;go_ret
 exact⟨rfl,HO.out.join (OnlyAt.of_below HB3.out g),A',c',HW.out.below HB3.out⟩
structure KindW(x:ByteArray)(k:Nat):Prop where
 lt:k<5
 at':Lib.idxOfS kindNm x=(k:Int)
structure PartW(p:HuP)(nm kw w1 w2 w3 w4:ByteArray):Prop where
 nm:nm=p.name
 kind:∃k:Nat,KindW kw k∧p.kind=(k:Int)+1
 n1:NumW w1 p.first
 n2:NumW w2 p.last
 n3:NumW w3 p.wlo
 n4:NumW w4 p.whi
def TakenPost(g:Nat)(p:HuP)(w:World)(e:Ending)(w':World):Prop:=∃A c,e=.returned (.agg #[.string p.name,iv p.kind,iv p.first,iv p.last,.slice A p.on.length c,iv p.wlo,iv p.whi])∧OnlyAt w w' g∧WdAt w' g A c p.on
structure Taking(w W:World)(g t:Nat)(ty:TypeId)(A:Option Addr)(c:Nat)(l:List ByteArray)(cs:Array Value):Prop where
 only:OnlyAt w W g
 blk:Blk W t ty cs
 wd:WdAt W g A c l
theorem Taking.step{V:World}{ty:TypeId}{A':Option Addr}{c':Nat}{l l':List ByteArray}(h:Taking w W g t ty A c l cs)(hg:g≠t)(ho:OnlyAt W V g)(hw:WdAt V g A' c' l'):Taking w V g t ty A' c' l' cs :=
 ⟨h.only.join ho,h.blk.same (ho.block t h.blk.lt (Ne.symm hg)),hw⟩
theorem Taking.put{ty:TypeId}{l:List ByteArray}(h:Taking w W g t ty A c l cs)(hg:g<t)(ht:w.heap.size=t)(i:Nat)(v:Value):Taking w (W.setCell ⟨t,i,none⟩ v) g t ty A c l (cs.setIfInBounds i v):=by refine⟨⟨h.only.os,h.only.tape,h.only.output,by simp only[World.size_setCell];exact h.only.size,fun k hk hne=>(Below.heap_setCell W ⟨t,i,none⟩ v k (by simp only;omega)).trans (h.only.block k hk hne)⟩,h.blk.set_ i v,h.wd.same fun k hk=>Below.heap_setCell W ⟨t,i,none⟩ v k (by simp only;omega)⟩
theorem Taking.put7{l:List ByteArray}{a0 a1 a2 a3 a4 a5 a6:Value}(h:Taking w W g t 43 A c l #[a0,a1,a2,a3,a4,a5,a6])(hg:g<t)(ht:w.heap.size=t)(b0 b1 b2 b3 b4 b5 b6:Value):Taking w (((((((W.setCell ⟨t,0,none⟩ b0).setCell ⟨t,1,none⟩ b1).setCell ⟨t,2,none⟩ b2).setCell ⟨t,3,none⟩ b3).setCell ⟨t,4,none⟩ b4).setCell ⟨t,5,none⟩ b5).setCell ⟨t,6,none⟩ b6) g t 43 A c l #[b0,b1,b2,b3,b4,b5,b6]:=by have k:=((((((h.put hg ht 0 b0).put hg ht 1 b1).put hg ht 2 b2).put hg ht 3 b3).put hg ht 4 b4).put hg ht 5 b5).put hg ht 6 b6;exact⟨k.only,seven _ _ _ _ _ _ _ h.blk,k.wd⟩
theorem part85_any(g c:Nat)(A:Option Addr)(p:HuP)(nm kw w1 w2 w3 w4:ByteArray)(w:World)(H:WdAt w g A c (nm::kw::w1::w2::w3::w4::p.on))(hp:PartW p nm kw w1 w2 w3 w4) :
  Cs 83 #[.pointer (some ⟨g,0,none⟩)] w (TakenPost g p w):=by
 obtain⟨pn,pk,pf,pl,pon,pw,pz⟩:=p;obtain⟨rfl,⟨k,⟨hk5,hka⟩,hkd⟩,h1,h2,h3,h4⟩:=hp;simp only at hkd h1 h2 h3 h4 H;subst hkd;obtain⟨W1,hW1⟩:=ex (w.alloc (.cells #[.string ⟨#[]⟩,iv 0,iv 0,iv 0,.slice none 0 0,iv 0,iv 0] 43));have b1:BW w W1:=by rw[←hW1];exact bA (bR w) _
 have q1:Blk W1 w.heap.size 43 #[.string ⟨#[]⟩,iv 0,iv 0,iv 0,.slice none 0 0,iv 0,iv 0]:=by rw[←hW1];exact Blk.new w 43 _
 have hgl:=H.blk.lt;obtain⟨t,ht⟩:=ex w.heap.size;rw[ht]at q1 hgl;have HN1:=Lq (next84_any g c A nm _ W1 (H.below b1));have hT0:Taking w W1 g t 43 A c (nm::kw::w1::w2::w3::w4::pon) #[.string ⟨#[]⟩,iv 0,iv 0,iv 0,.slice none 0 0,iv 0,iv 0]:=⟨OnlyAt.of_below b1 g,q1,H.below b1⟩;have HT0:=Lq hT0;have HTT:Hid (w.heap.size=t):=Lq ht;have HP1:=Lq h1;have HP2:=Lq h2;have HP3:=Lq h3;have HP4:=Lq h4;have HK:=Lq hka;have HKL:=Lq hk5;clear H b1 q1 h1 h2 h3 h4 hka hk5 hT0;go_enter Tryz.func83,Tryz.ntmps83
 go_wp2_with fail;clear hW1 ht;refine HN1.out.mono ?_;rintro e v1 ⟨rfl,ho,A1,c1,hw⟩;have T1:=HT0.out.step (by omega) ho hw
 have f1:=T1.blk.frozen 0;have x1:=T1.blk.c 0;have l1:=T1.blk.lt;have hT1:=T1.put (by omega) HTT.out 0 (.string nm)
 obtain⟨V1,hV1⟩:=ex (v1.setCell ⟨t,0,none⟩ (.string nm));rw[hV1]at hT1;have HT1:Hid (Taking w V1 g t 43 A1 c1 (kw::w1::w2::w3::w4::pon) #[.string nm,iv 0,iv 0,iv 0,.slice none 0 0,iv 0,iv 0]):=Lq hT1;clear ho hw hT1;go_wp2_with fail;refine(kinds121_any _).mono ?_;rintro e v2 ⟨rfl,hv2⟩;have hb2:BW V1 v2:=by rw[hv2];exact bA (bR V1) _
 have hq2:Blk v2 V1.heap.size 9 (kindNm.map .string).toArray:=by rw[hv2];exact Blk.new V1 9 _
 obtain⟨gk,hgk⟩:=ex V1.heap.size;rw[hgk]at hq2;have hgk':t<gk:=by have:=HT1.out.blk.lt;omega
 have HN2:=Lq (next84_any g c1 A1 kw _ v2 (HT1.out.wd.below hb2));have HT2:=Lq (HT1.out.step (by omega) (OnlyAt.of_below hb2 g) (HT1.out.wd.below hb2))
 have HQ2:=Lq hq2
 (try simp only[hgk])
 clear hb2 hq2 hv2 f1 x1 l1 hV1 T1;go_wp2_with fail;refine HN2.out.mono ?_;rintro e v3 ⟨rfl,ho,A2,c2,hw⟩;have HT3:=Lq (HT2.out.step (by omega) ho hw)
 have hq3:Blk v3 gk 9 (kindNm.map .string).toArray:=HQ2.out.same (ho.block gk HQ2.out.lt (by omega))
 have HIX:=Lq (Tryz.slices_Index_string gk 0 5 5 kindNm kw v3 (by decide) (by decide) (fun j hj=>by have hj5:j<5:=hj;rw[Nat.zero_add,hq3.cell];rcases(show j=0∨j=1∨j=2∨j=3∨j=4 by omega)with rfl | rfl | rfl | rfl | rfl<;>rfl))
 rw[show kindNm.take 5=kindNm from rfl,HK.out]at HIX
 clear ho hw hq3;go_wp2_with fail;refine HIX.out.mono ?_;rintro e v4 ⟨rfl,hv4⟩;subst hv4;have hk0:(0:Int)≤(k:Int):=by omega
 have hk5:(k:Int)<5:=by have:=HKL.out;omega
 go_wp2_with fail;refine(must82_any _).mono ?_;rintro e v5 ⟨rfl,hv5⟩;subst hv5;have f1:=HT3.out.blk.frozen 1;have x1:=HT3.out.blk.c 1;have l1:=HT3.out.blk.lt;have hT4:=HT3.out.put (by omega) HTT.out 1 (iv ((k:Int)+1))
 have hwk:IntKind.i64.wrap ((k:Int)+1)=(k:Int)+1:=by rw[IntKind.wrap_i64];omega
 obtain⟨V4,hV4⟩:=ex (v5.setCell ⟨t,1,none⟩ (iv ((k:Int)+1)));rw[hV4]at hT4;have HT4:Hid (Taking w V4 g t 43 A2 c2 (w1::w2::w3::w4::pon) #[.string nm,iv ((k:Int)+1),iv 0,iv 0,.slice none 0 0,iv 0,iv 0]):=Lq hT4;have HM4:=Lq (number122_any g c2 A2 w1 pf _ V4 HT4.out.wd HP1.out);clear hT4;go_wp2_with fail;clear f1 x1 l1 hV4;refine HM4.out.mono ?_;rintro e v6 ⟨rfl,ho,A3,c3,hw⟩;have T1:=HT4.out.step (by omega) ho hw
 have f1:=T1.blk.frozen 2;have x1:=T1.blk.c 2;have l1:=T1.blk.lt;have hT1:=T1.put (by omega) HTT.out 2 (iv pf)
 obtain⟨V5,hV5⟩:=ex (v6.setCell ⟨t,2,none⟩ (iv pf));rw[hV5]at hT1;have HT5:Hid (Taking w V5 g t 43 A3 c3 (w2::w3::w4::pon) #[.string nm,iv ((k:Int)+1),iv pf,iv 0,.slice none 0 0,iv 0,iv 0]):=Lq hT1;have HM5:=Lq (number122_any g c3 A3 w2 pl _ V5 HT5.out.wd HP2.out);clear ho hw hT1;go_wp2_with fail;clear f1 x1 l1 hV5 T1;refine HM5.out.mono ?_;rintro e v7 ⟨rfl,ho,A4,c4,hw⟩;have T1:=HT5.out.step (by omega) ho hw
 have f1:=T1.blk.frozen 3;have x1:=T1.blk.c 3;have l1:=T1.blk.lt;have hT1:=T1.put (by omega) HTT.out 3 (iv pl)
 obtain⟨V6,hV6⟩:=ex (v7.setCell ⟨t,3,none⟩ (iv pl));rw[hV6]at hT1;have HT6:Hid (Taking w V6 g t 43 A4 c4 (w3::w4::pon) #[.string nm,iv ((k:Int)+1),iv pf,iv pl,.slice none 0 0,iv 0,iv 0]):=Lq hT1;have HM6:=Lq (number122_any g c4 A4 w3 pw _ V6 HT6.out.wd HP3.out);clear ho hw hT1;go_wp2_with fail;clear f1 x1 l1 hV6 T1;refine HM6.out.mono ?_;rintro e v8 ⟨rfl,ho,A5,c5,hw⟩;have T1:=HT6.out.step (by omega) ho hw
 have f1:=T1.blk.frozen 5;have x1:=T1.blk.c 5;have l1:=T1.blk.lt;have hT1:=T1.put (by omega) HTT.out 5 (iv pw)
 obtain⟨V7,hV7⟩:=ex (v8.setCell ⟨t,5,none⟩ (iv pw));rw[hV7]at hT1;have HT7:Hid (Taking w V7 g t 43 A5 c5 (w4::pon) #[.string nm,iv ((k:Int)+1),iv pf,iv pl,.slice none 0 0,iv pw,iv 0]):=Lq hT1;have HM7:=Lq (number122_any g c5 A5 w4 pz _ V7 HT7.out.wd HP4.out);clear ho hw hT1;go_wp2_with fail;clear f1 x1 l1 hV7 T1;refine HM7.out.mono ?_;rintro e v9 ⟨rfl,ho,A6,c6,hw⟩;have T1:=HT7.out.step (by omega) ho hw
 have f1:=T1.blk.frozen 6;have x1:=T1.blk.c 6;have l1:=T1.blk.lt;have hT1:=T1.put (by omega) HTT.out 6 (iv pz)
 obtain⟨V8,hV8⟩:=ex (v9.setCell ⟨t,6,none⟩ (iv pz));rw[hV8]at hT1;have HT8:Hid (Taking w V8 g t 43 A6 c6 (pon) #[.string nm,iv ((k:Int)+1),iv pf,iv pl,.slice none 0 0,iv pw,iv pz]):=Lq hT1;clear ho hw hT1;have hw:=HT8.out.wd;have d0:=HT8.out.wd.blk.c 0;have f4:=HT8.out.blk.frozen 4;have x4:=HT8.out.blk.c 4;have l4:=HT8.out.blk.lt;have hT9:=HT8.out.put (by omega) HTT.out 4 (.slice A6 pon.length c6)
 obtain⟨V9,hV9⟩:=ex (V8.setCell ⟨t,4,none⟩ (.slice A6 pon.length c6));rw[hV9]at hT9;have HT9:Hid (Taking w V9 g t 43 A6 c6 pon #[.string nm,iv ((k:Int)+1),iv pf,iv pl,.slice A6 pon.length c6,iv pw,iv pz]):=Lq hT9;have HTA:=Lq (HT9.out.put7 (by omega) HTT.out (.string nm) (iv ((k:Int)+1)) (iv pf) (iv pl) (.slice A6 pon.length c6) (iv pw) (iv pz))
 obtain⟨i0,i1,i2,i3,i4,i5,i6⟩:=HT9.out.blk.c7;obtain⟨g0,g1,g2,g3,g4,g5,g6⟩:=HT9.out.blk.f7;have l9:=HT9.out.blk.lt;obtain⟨VA,hVA⟩:=ex (((((((V9.setCell ⟨t,0,none⟩ (.string nm)).setCell ⟨t,1,none⟩ (iv ((k:Int)+1))).setCell ⟨t,2,none⟩ (iv pf)).setCell ⟨t,3,none⟩ (iv pl)).setCell ⟨t,4,none⟩ (.slice A6 pon.length c6)).setCell ⟨t,5,none⟩ (iv pw)).setCell ⟨t,6,none⟩ (iv pz));rw[hVA]at HTA;obtain⟨y0,y1,y2,y3,y4,y5,y6⟩:=HTA.out.blk.c7;clear hT9 hw;go_wp2_with fail;exact bodyPost_ret (v:=.agg #[.string nm,iv ((k:Int)+1),iv pf,iv pl,.slice A6 pon.length c6,iv pw,iv pz]) (by simp[results,Tryz.results83,go_sem,y0,y1,y2,y3,y4,y5,y6]) rfl ⟨A6,c6,rfl,HTA.out.only,HTA.out.wd⟩
end
attribute [local go_sem] Oper.semAt_some
theorem Taking.put10{w W:World}{g t:Nat}{A:Option Addr}{c:Nat}{l:List ByteArray}{a0 a1 a2 a3 a4 a5 a6 a7 a8 a9:Value}(h:Taking w W g t 58 A c l #[a0,a1,a2,a3,a4,a5,a6,a7,a8,a9])(hg:g<t)(ht:w.heap.size=t)(b0 b1 b2 b3 b4 b5 b6 b7 b8 b9:Value):Taking w ((((((((((W.setCell ⟨t,0,none⟩ b0).setCell ⟨t,1,none⟩ b1).setCell ⟨t,2,none⟩ b2).setCell ⟨t,3,none⟩ b3).setCell ⟨t,4,none⟩ b4).setCell ⟨t,5,none⟩ b5).setCell ⟨t,6,none⟩ b6).setCell ⟨t,7,none⟩ b7).setCell ⟨t,8,none⟩ b8).setCell ⟨t,9,none⟩ b9) g t 58 A c l #[b0,b1,b2,b3,b4,b5,b6,b7,b8,b9]:=by have k:=((((((((((h.put hg ht 0 b0).put hg ht 1 b1).put hg ht 2 b2).put hg ht 3 b3).put hg ht 4 b4).put hg ht 5 b5).put hg ht 6 b6).put hg ht 7 b7).put hg ht 8 b8).put hg ht 9 b9);exact⟨k.only,ten _ _ _ _ _ _ _ _ _ _ h.blk,k.wd⟩
def ChgdPost(g:Nat)(wh dy:Int)(nm:ByteArray)(p:HuP)(w:World)(e:Ending)(w':World):Prop:=∃A c,e=.returned (.agg #[iv wh,iv dy,.string nm,.string p.name,iv p.kind,iv p.first,iv p.last,.slice A p.on.length c,iv p.wlo,iv p.whi])∧OnlyAt w w' g∧Rd1 .string w' g A p.on∧p.on.length≤c∧(∀a,A=some a→a.block+1=g)∧c≤maxLen
theorem change86_add(g c:Nat)(A:Option Addr)(dy:Int)(pn:ByteArray)(pk pf pl pw pz:Int)(pon:List ByteArray)(nm kw w1 w2 w3 w4:ByteArray)(dw:ByteArray)(w:World)(H:WdAt w g A c (dw::sAdd::nm::kw::w1::w2::w3::w4::pon))(hd:NumW dw dy)(hp:PartW ⟨pn,pk,pf,pl,pon,pw,pz⟩ nm kw w1 w2 w3 w4) :
  Cs 84 #[.pointer (some ⟨g,0,none⟩)] w (ChgdPost g 1 dy ⟨#[]⟩ ⟨pn,pk,pf,pl,pon,pw,pz⟩ w):=by
 have HP:=Lq hp;clear hp;obtain⟨W1,hW1⟩:=ex (w.alloc (.cells #[iv 0,iv 0,.string ⟨#[]⟩,.string ⟨#[]⟩,iv 0,iv 0,iv 0,.slice none 0 0,iv 0,iv 0] 58));have b1:BW w W1:=by rw[←hW1];exact bA (bR w) _
 have q1:Blk W1 w.heap.size 58 #[iv 0,iv 0,.string ⟨#[]⟩,.string ⟨#[]⟩,iv 0,iv 0,iv 0,.slice none 0 0,iv 0,iv 0]:=by rw[←hW1];exact Blk.new w 58 _
 have hgl:=H.blk.lt;obtain⟨t,ht⟩:=ex w.heap.size;rw[ht]at q1 hgl;have HN1:=Lq (number122_any g c A dw dy _ W1 (H.below b1) hd);have hT0:Taking w W1 g t 58 A c (dw::sAdd::nm::kw::w1::w2::w3::w4::pon) #[iv 0,iv 0,.string ⟨#[]⟩,.string ⟨#[]⟩,iv 0,iv 0,iv 0,.slice none 0 0,iv 0,iv 0]:=⟨OnlyAt.of_below b1 g,q1,H.below b1⟩;have HT0:=Lq hT0;have HTT:Hid (w.heap.size=t):=Lq ht;clear H b1 q1 hT0 hd;go_enter Tryz.func84,Tryz.ntmps84
 go_wp2_with fail;clear hW1 ht;refine HN1.out.mono ?_;rintro e v1 ⟨rfl,ho,A1,c1,hw⟩;have T1:=HT0.out.step (by omega) ho hw
 have HS1:=Lq T1;have f1:=T1.blk.frozen 1;have x1:=T1.blk.c 1;have l1:=T1.blk.lt;have hT1:=(T1.put (by omega) HTT.out 1 (iv dy))
 obtain⟨V1,hV1⟩:=ex (v1.setCell ⟨t,1,none⟩ (iv dy));rw[hV1]at hT1;have HT1:Hid (Taking w V1 g t 58 A1 c1 (sAdd::nm::kw::w1::w2::w3::w4::pon) #[iv 0,iv dy,.string ⟨#[]⟩,.string ⟨#[]⟩,iv 0,iv 0,iv 0,.slice none 0 0,iv 0,iv 0]):=Lq hT1;clear ho hw hT1;have HN2:=Lq (next84_any g c1 A1 sAdd _ V1 HT1.out.wd);clear T1;go_wp2_with fail;clear f1 x1 l1 hV1;refine HN2.out.mono ?_;rintro e v2 ⟨rfl,ho,A2,c2,hw⟩;have HT2:=Lq (HT1.out.step (by omega) ho hw)
 have HP2:=Lq (part85_any g c2 A2 ⟨pn,pk,pf,pl,pon,pw,pz⟩ nm kw w1 w2 w3 w4 v2 hw HP.out);clear ho hw;go_wp2_with fail;refine HP2.out.mono ?_;rintro e v3 ⟨A3,c3,rfl,ho,hw⟩;have T1:=HT2.out.step (by omega) ho hw
 have HS3:=Lq T1;have f0:=T1.blk.frozen 0;have x0:=T1.blk.c 0;have f3:=T1.blk.frozen 3;have x3:=T1.blk.c 3;have f4:=T1.blk.frozen 4;have x4:=T1.blk.c 4;have f5:=T1.blk.frozen 5;have x5:=T1.blk.c 5;have f6:=T1.blk.frozen 6;have x6:=T1.blk.c 6;have f7:=T1.blk.frozen 7;have x7:=T1.blk.c 7;have f8:=T1.blk.frozen 8;have x8:=T1.blk.c 8;have f9:=T1.blk.frozen 9;have x9:=T1.blk.c 9;have l1:=T1.blk.lt;have hT1:=((((((((T1.put (by omega) HTT.out 0 (iv 1)).put (by omega) HTT.out 3 (.string pn)).put (by omega) HTT.out 4 (iv pk)).put (by omega) HTT.out 5 (iv pf)).put (by omega) HTT.out 6 (iv pl)).put (by omega) HTT.out 7 (.slice A3 pon.length c3)).put (by omega) HTT.out 8 (iv pw)).put (by omega) HTT.out 9 (iv pz))
 obtain⟨V3,hV3⟩:=ex ((((((((v3.setCell ⟨t,0,none⟩ (iv 1)).setCell ⟨t,3,none⟩ (.string pn)).setCell ⟨t,4,none⟩ (iv pk)).setCell ⟨t,5,none⟩ (iv pf)).setCell ⟨t,6,none⟩ (iv pl)).setCell ⟨t,7,none⟩ (.slice A3 pon.length c3)).setCell ⟨t,8,none⟩ (iv pw)).setCell ⟨t,9,none⟩ (iv pz));rw[hV3]at hT1;have HT3:Hid (Taking w V3 g t 58 A3 c3 (pon) #[iv 1,iv dy,.string ⟨#[]⟩,.string pn,iv pk,iv pf,iv pl,.slice A3 pon.length c3,iv pw,iv pz]):=Lq hT1;clear ho hw hT1;have HTA:=Lq (HT3.out.put10 (by omega) HTT.out (iv 1) (iv dy) (.string ⟨#[]⟩) (.string pn) (iv pk) (iv pf) (iv pl) (.slice A3 pon.length c3) (iv pw) (iv pz))
 obtain⟨i0,i1,i2,i3,i4,i5,i6,i7,i8,i9⟩:=HT3.out.blk.c10;obtain⟨g0,g1,g2,g3,g4,g5,g6,g7,g8,g9⟩:=HT3.out.blk.f10;have l9:=HT3.out.blk.lt;obtain⟨VA,hVA⟩:=ex ((((((((((V3.setCell ⟨t,0,none⟩ (iv 1)).setCell ⟨t,1,none⟩ (iv dy)).setCell ⟨t,2,none⟩ (.string ⟨#[]⟩)).setCell ⟨t,3,none⟩ (.string pn)).setCell ⟨t,4,none⟩ (iv pk)).setCell ⟨t,5,none⟩ (iv pf)).setCell ⟨t,6,none⟩ (iv pl)).setCell ⟨t,7,none⟩ (.slice A3 pon.length c3)).setCell ⟨t,8,none⟩ (iv pw)).setCell ⟨t,9,none⟩ (iv pz));rw[hVA]at HTA;obtain⟨y0,y1,y2,y3,y4,y5,y6,y7,y8,y9⟩:=HTA.out.blk.c10;go_wp2_with fail;exact bodyPost_ret (v:=.agg #[iv 1,iv dy,.string ⟨#[]⟩,.string pn,iv pk,iv pf,iv pl,.slice A3 pon.length c3,iv pw,iv pz]) (by simp[results,Tryz.results84,go_sem,y0,y1,y2,y3,y4,y5,y6,y7,y8,y9]) rfl ⟨A3,c3,rfl,HTA.out.only,HTA.out.wd.rd,HTA.out.wd.le,HTA.out.wd.here,HTA.out.wd.max⟩
theorem change86_take(g c:Nat)(A:Option Addr)(dy:Int)(nm:ByteArray)(dw:ByteArray)(w:World)(H:WdAt w g A c [dw,sTake,nm])(hd:NumW dw dy) :
  Cs 84 #[.pointer (some ⟨g,0,none⟩)] w (ChgdPost g 2 dy nm ⟨⟨#[]⟩,0,0,0,[],0,0⟩ w):=by
 obtain⟨W1,hW1⟩:=ex (w.alloc (.cells #[iv 0,iv 0,.string ⟨#[]⟩,.string ⟨#[]⟩,iv 0,iv 0,iv 0,.slice none 0 0,iv 0,iv 0] 58));have b1:BW w W1:=by rw[←hW1];exact bA (bR w) _
 have q1:Blk W1 w.heap.size 58 #[iv 0,iv 0,.string ⟨#[]⟩,.string ⟨#[]⟩,iv 0,iv 0,iv 0,.slice none 0 0,iv 0,iv 0]:=by rw[←hW1];exact Blk.new w 58 _
 have hgl:=H.blk.lt;obtain⟨t,ht⟩:=ex w.heap.size;rw[ht]at q1 hgl;have HN1:=Lq (number122_any g c A dw dy _ W1 (H.below b1) hd);have hT0:Taking w W1 g t 58 A c ([dw,sTake,nm]) #[iv 0,iv 0,.string ⟨#[]⟩,.string ⟨#[]⟩,iv 0,iv 0,iv 0,.slice none 0 0,iv 0,iv 0]:=⟨OnlyAt.of_below b1 g,q1,H.below b1⟩;have HT0:=Lq hT0;have HTT:Hid (w.heap.size=t):=Lq ht;clear H b1 q1 hT0 hd;go_enter Tryz.func84,Tryz.ntmps84
 go_wp2_with fail;clear hW1 ht;refine HN1.out.mono ?_;rintro e v1 ⟨rfl,ho,A1,c1,hw⟩;have T1:=HT0.out.step (by omega) ho hw
 have HS1:=Lq T1;have f1:=T1.blk.frozen 1;have x1:=T1.blk.c 1;have l1:=T1.blk.lt;have hT1:=(T1.put (by omega) HTT.out 1 (iv dy))
 obtain⟨V1,hV1⟩:=ex (v1.setCell ⟨t,1,none⟩ (iv dy));rw[hV1]at hT1;have HT1:Hid (Taking w V1 g t 58 A1 c1 ([sTake,nm]) #[iv 0,iv dy,.string ⟨#[]⟩,.string ⟨#[]⟩,iv 0,iv 0,iv 0,.slice none 0 0,iv 0,iv 0]):=Lq hT1;clear ho hw hT1;have HN2:=Lq (next84_any g c1 A1 sTake _ V1 HT1.out.wd);clear T1;go_wp2_with fail;clear f1 x1 l1 hV1;refine HN2.out.mono ?_;rintro e v2 ⟨rfl,ho,A2,c2,hw⟩;have HT2:=Lq (HT1.out.step (by omega) ho hw)
 have HN3:=Lq (next84_any g c2 A2 nm _ v2 hw);clear ho hw;go_wp2_with fail;refine HN3.out.mono ?_;rintro e v3 ⟨rfl,ho,A3,c3,hw⟩;have T1:=HT2.out.step (by omega) ho hw
 have HS3:=Lq T1;have f0:=T1.blk.frozen 0;have x0:=T1.blk.c 0;have f2:=T1.blk.frozen 2;have x2:=T1.blk.c 2;have l1:=T1.blk.lt;have hT1:=((T1.put (by omega) HTT.out 0 (iv 2)).put (by omega) HTT.out 2 (.string nm))
 obtain⟨V3,hV3⟩:=ex ((v3.setCell ⟨t,0,none⟩ (iv 2)).setCell ⟨t,2,none⟩ (.string nm));rw[hV3]at hT1;have HT3:Hid (Taking w V3 g t 58 A3 c3 ([]) #[iv 2,iv dy,.string nm,.string ⟨#[]⟩,iv 0,iv 0,iv 0,.slice none 0 0,iv 0,iv 0]):=Lq hT1;clear ho hw hT1;have d0:=HT3.out.wd.blk.c 0;go_wp2_with fail;refine(must82_any _).mono ?_;rintro e v ⟨rfl,hv⟩;replace hv:=hv.symm;subst hv;clear f0 x0 f2 x2 l1 hV3 T1;have HTA:=Lq (HT3.out.put10 (by omega) HTT.out (iv 2) (iv dy) (.string nm) (.string ⟨#[]⟩) (iv 0) (iv 0) (iv 0) (.slice none 0 0) (iv 0) (iv 0))
 obtain⟨i0,i1,i2,i3,i4,i5,i6,i7,i8,i9⟩:=HT3.out.blk.c10;obtain⟨g0,g1,g2,g3,g4,g5,g6,g7,g8,g9⟩:=HT3.out.blk.f10;have l9:=HT3.out.blk.lt;obtain⟨VA,hVA⟩:=ex ((((((((((V3.setCell ⟨t,0,none⟩ (iv 2)).setCell ⟨t,1,none⟩ (iv dy)).setCell ⟨t,2,none⟩ (.string nm)).setCell ⟨t,3,none⟩ (.string ⟨#[]⟩)).setCell ⟨t,4,none⟩ (iv 0)).setCell ⟨t,5,none⟩ (iv 0)).setCell ⟨t,6,none⟩ (iv 0)).setCell ⟨t,7,none⟩ (.slice none 0 0)).setCell ⟨t,8,none⟩ (iv 0)).setCell ⟨t,9,none⟩ (iv 0));rw[hVA]at HTA;obtain⟨y0,y1,y2,y3,y4,y5,y6,y7,y8,y9⟩:=HTA.out.blk.c10;go_wp2_with fail;exact bodyPost_ret (v:=.agg #[iv 2,iv dy,.string nm,.string ⟨#[]⟩,iv 0,iv 0,iv 0,.slice none 0 0,iv 0,iv 0]) (by simp[results,Tryz.results84,go_sem,y0,y1,y2,y3,y4,y5,y6,y7,y8,y9]) rfl ⟨none,0,rfl,HTA.out.only,fun _ _ h=>(by cases h),Nat.zero_le _,fun _ h=>(by cases h),Nat.zero_le _⟩
theorem change86_swap(g c:Nat)(A:Option Addr)(dy:Int)(pn:ByteArray)(pk pf pl pw pz:Int)(pon:List ByteArray)(nm kw w1 w2 w3 w4:ByteArray)(old:ByteArray)(dw:ByteArray)(w:World)(H:WdAt w g A c (dw::sSwap::old::nm::kw::w1::w2::w3::w4::pon))(hd:NumW dw dy)(hp:PartW ⟨pn,pk,pf,pl,pon,pw,pz⟩ nm kw w1 w2 w3 w4) :
  Cs 84 #[.pointer (some ⟨g,0,none⟩)] w (ChgdPost g 3 dy old ⟨pn,pk,pf,pl,pon,pw,pz⟩ w):=by
 have HP:=Lq hp;clear hp;obtain⟨W1,hW1⟩:=ex (w.alloc (.cells #[iv 0,iv 0,.string ⟨#[]⟩,.string ⟨#[]⟩,iv 0,iv 0,iv 0,.slice none 0 0,iv 0,iv 0] 58));have b1:BW w W1:=by rw[←hW1];exact bA (bR w) _
 have q1:Blk W1 w.heap.size 58 #[iv 0,iv 0,.string ⟨#[]⟩,.string ⟨#[]⟩,iv 0,iv 0,iv 0,.slice none 0 0,iv 0,iv 0]:=by rw[←hW1];exact Blk.new w 58 _
 have hgl:=H.blk.lt;obtain⟨t,ht⟩:=ex w.heap.size;rw[ht]at q1 hgl;have HN1:=Lq (number122_any g c A dw dy _ W1 (H.below b1) hd);have hT0:Taking w W1 g t 58 A c (dw::sSwap::old::nm::kw::w1::w2::w3::w4::pon) #[iv 0,iv 0,.string ⟨#[]⟩,.string ⟨#[]⟩,iv 0,iv 0,iv 0,.slice none 0 0,iv 0,iv 0]:=⟨OnlyAt.of_below b1 g,q1,H.below b1⟩;have HT0:=Lq hT0;have HTT:Hid (w.heap.size=t):=Lq ht;clear H b1 q1 hT0 hd;go_enter Tryz.func84,Tryz.ntmps84
 go_wp2_with fail;clear hW1 ht;refine HN1.out.mono ?_;rintro e v1 ⟨rfl,ho,A1,c1,hw⟩;have T1:=HT0.out.step (by omega) ho hw
 have HS1:=Lq T1;have f1:=T1.blk.frozen 1;have x1:=T1.blk.c 1;have l1:=T1.blk.lt;have hT1:=(T1.put (by omega) HTT.out 1 (iv dy))
 obtain⟨V1,hV1⟩:=ex (v1.setCell ⟨t,1,none⟩ (iv dy));rw[hV1]at hT1;have HT1:Hid (Taking w V1 g t 58 A1 c1 (sSwap::old::nm::kw::w1::w2::w3::w4::pon) #[iv 0,iv dy,.string ⟨#[]⟩,.string ⟨#[]⟩,iv 0,iv 0,iv 0,.slice none 0 0,iv 0,iv 0]):=Lq hT1;clear ho hw hT1;have HN2:=Lq (next84_any g c1 A1 sSwap _ V1 HT1.out.wd);clear T1;go_wp2_with fail;clear f1 x1 l1 hV1;refine HN2.out.mono ?_;rintro e v2 ⟨rfl,ho,A2,c2,hw⟩;have HT2:=Lq (HT1.out.step (by omega) ho hw)
 have HN3:=Lq (next84_any g c2 A2 old _ v2 hw);clear ho hw;go_wp2_with fail;refine HN3.out.mono ?_;rintro e v3 ⟨rfl,ho,A3,c3,hw⟩;have T1:=HT2.out.step (by omega) ho hw
 have HS3:=Lq T1;have f0:=T1.blk.frozen 0;have x0:=T1.blk.c 0;have f2:=T1.blk.frozen 2;have x2:=T1.blk.c 2;have l1:=T1.blk.lt;have hT1:=((T1.put (by omega) HTT.out 0 (iv 3)).put (by omega) HTT.out 2 (.string old))
 obtain⟨V3,hV3⟩:=ex ((v3.setCell ⟨t,0,none⟩ (iv 3)).setCell ⟨t,2,none⟩ (.string old));rw[hV3]at hT1;have HT3:Hid (Taking w V3 g t 58 A3 c3 (nm::kw::w1::w2::w3::w4::pon) #[iv 3,iv dy,.string old,.string ⟨#[]⟩,iv 0,iv 0,iv 0,.slice none 0 0,iv 0,iv 0]):=Lq hT1;clear ho hw hT1;have HP4:=Lq (part85_any g c3 A3 ⟨pn,pk,pf,pl,pon,pw,pz⟩ nm kw w1 w2 w3 w4 V3 HT3.out.wd HP.out);clear T1;go_wp2_with fail;clear f0 x0 f2 x2 l1 hV3;refine HP4.out.mono ?_;rintro e v5 ⟨A5,c5,rfl,ho,hw⟩;have T1:=HT3.out.step (by omega) ho hw
 have HS5:=Lq T1;have f3:=T1.blk.frozen 3;have x3:=T1.blk.c 3;have f4:=T1.blk.frozen 4;have x4:=T1.blk.c 4;have f5:=T1.blk.frozen 5;have x5:=T1.blk.c 5;have f6:=T1.blk.frozen 6;have x6:=T1.blk.c 6;have f7:=T1.blk.frozen 7;have x7:=T1.blk.c 7;have f8:=T1.blk.frozen 8;have x8:=T1.blk.c 8;have f9:=T1.blk.frozen 9;have x9:=T1.blk.c 9;have l1:=T1.blk.lt;have hT1:=(((((((T1.put (by omega) HTT.out 3 (.string pn)).put (by omega) HTT.out 4 (iv pk)).put (by omega) HTT.out 5 (iv pf)).put (by omega) HTT.out 6 (iv pl)).put (by omega) HTT.out 7 (.slice A5 pon.length c5)).put (by omega) HTT.out 8 (iv pw)).put (by omega) HTT.out 9 (iv pz))
 obtain⟨V5,hV5⟩:=ex (((((((v5.setCell ⟨t,3,none⟩ (.string pn)).setCell ⟨t,4,none⟩ (iv pk)).setCell ⟨t,5,none⟩ (iv pf)).setCell ⟨t,6,none⟩ (iv pl)).setCell ⟨t,7,none⟩ (.slice A5 pon.length c5)).setCell ⟨t,8,none⟩ (iv pw)).setCell ⟨t,9,none⟩ (iv pz));rw[hV5]at hT1;have HT5:Hid (Taking w V5 g t 58 A5 c5 (pon) #[iv 3,iv dy,.string old,.string pn,iv pk,iv pf,iv pl,.slice A5 pon.length c5,iv pw,iv pz]):=Lq hT1;clear ho hw hT1;have HTA:=Lq (HT5.out.put10 (by omega) HTT.out (iv 3) (iv dy) (.string old) (.string pn) (iv pk) (iv pf) (iv pl) (.slice A5 pon.length c5) (iv pw) (iv pz))
 obtain⟨i0,i1,i2,i3,i4,i5,i6,i7,i8,i9⟩:=HT5.out.blk.c10;obtain⟨g0,g1,g2,g3,g4,g5,g6,g7,g8,g9⟩:=HT5.out.blk.f10;have l9:=HT5.out.blk.lt;obtain⟨VA,hVA⟩:=ex ((((((((((V5.setCell ⟨t,0,none⟩ (iv 3)).setCell ⟨t,1,none⟩ (iv dy)).setCell ⟨t,2,none⟩ (.string old)).setCell ⟨t,3,none⟩ (.string pn)).setCell ⟨t,4,none⟩ (iv pk)).setCell ⟨t,5,none⟩ (iv pf)).setCell ⟨t,6,none⟩ (iv pl)).setCell ⟨t,7,none⟩ (.slice A5 pon.length c5)).setCell ⟨t,8,none⟩ (iv pw)).setCell ⟨t,9,none⟩ (iv pz));rw[hVA]at HTA;obtain⟨y0,y1,y2,y3,y4,y5,y6,y7,y8,y9⟩:=HTA.out.blk.c10;go_wp2_with fail;exact bodyPost_ret (v:=.agg #[iv 3,iv dy,.string old,.string pn,iv pk,iv pf,iv pl,.slice A5 pon.length c5,iv pw,iv pz]) (by simp[results,Tryz.results84,go_sem,y0,y1,y2,y3,y4,y5,y6,y7,y8,y9]) rfl ⟨A5,c5,rfl,HTA.out.only,HTA.out.wd.rd,HTA.out.wd.le,HTA.out.wd.here,HTA.out.wd.max⟩
section
variable{csb:Array Value}{Q:Exit→Act→World→Prop}{g8 lo n t2:Nat}{va vc zA zB zK zL zM zN zO zP zQ zR zS zT zU zV zW zX zY zZ za zb zc zd zD ze zf zg zh zi zj zk zl zm zn zE zo zp zq zr zs zt zu zv zw zx zF zy zz zAA zAB zAC zAD zAE zAF zAG zAH zG zAI zAJ zAK zAL zAM zAN zAO zAP zH zJ:Value}{V W:World}
theorem Tryz.info58:(Tryz.prog.info? 58).map (fun i=>(i.zero,i.size,i.bytes))=some (some (.agg #[iv 0,iv 0,.string ⟨#[]⟩,.string ⟨#[]⟩,iv 0,iv 0,iv 0,.slice none 0 0,iv 0,iv 0]),10,112):=by kernel_rfl
structure Kept3(V W:World)(g t:Nat)(row:Option Nat):Prop where
 os:W.os=V.os
 tape:W.tape=V.tape
 output:W.output=V.output
 size:V.heap.size≤W.heap.size
 same:∀k,k<V.heap.size→k≠g→k≠t→some k≠row→W.heap[k]?=V.heap[k]?
structure Laid(W:World)(bk:Nat)(p:HuP)(A:Option Addr)(c:Nat):Prop where
 rd:Rd1 .string W (bk+1) A p.on
 le:p.on.length≤c
 here:∀a,A=some a→a.block=bk
 max:c≤maxLen
theorem Kept3.made{v1 w3 wx:World}{g t:Nat}{row:Option Nat}{w2:World}(h1:OnlyAt V v1 g)(h2:BW v1 w2)(h3:w2.grownBy w3 row)(h4:OnlyAt w3 wx t):Kept3 V wx g t row :=
 ⟨h4.os.trans (h3.os.trans (h2.os.trans h1.os)),h4.tape.trans (h3.tape.trans (h2.tape.trans h1.tape)),h4.output.trans (h3.output.trans (h2.output.trans h1.output)),lT h1.size (lT h2.size (lT h3.size h4.size)),fun k hk hg ht hr =>
  have a1:=lz hk h1.size;have a2:=lz a1 h2.size;have a3:=lz a2 h3.size
  (h4.block k a3 ht).trans ((h3.block k a2 hr).trans ((h2.block k a1).trans (h1.block k hk hg)))⟩
theorem Laid.same{X:World}{bk:Nat}{p:HuP}{A:Option Addr}{c:Nat}(h:Laid W bk p A c)(hs:X.heap[bk]?=W.heap[bk]?):Laid X bk p A c:=by
 refine⟨fun i x hx=>?_,h.le,h.here,h.max⟩
 obtain⟨b,off,e,hlt,hc⟩:=h.rd i x hx;have hb:=h.here _ e;simp only at hb;subst hb;exact⟨b,off,e,hlt,(World.cell?_of_block (w:=W) (a:=⟨b,_,none⟩) hs).trans hc⟩
theorem blk_types{k:Nat}{t s:TypeId}{cs ds:Array Value}(h:Blk W k t cs)(h':Blk W k s ds):t=s:=by cases h.symm.trans h';rfl
noncomputable def ops29_12:Array Oper:=opsOf (regionOf Tryz.f25 12)
theorem reg29_12{xs:List Value}{p:HuP}{ds:List Deferred}(hlo:lo≤V.heap.size)(hn:n≤1000)(hg:t2≠g8)(hg0:0<g8)(hown:V.ownsRow lo 43 7 va n xs)(hog:va.ownBlock≠some g8)(ht:Blk V t2 27 #[va,vc])(hbk:Blk V (g8-1) 9 csb)(hC:∀W,BW V W→Cs 83 #[.pointer (some ⟨g8,0,none⟩)] W ((TakenPost g8 p) W))(hQ:∀u38 u39 u40 u41 u42 u43 u44 u45 wx v' A9 c9,(Kept3 V wx g8 t2 va.ownBlock∧Blk wx t2 27 #[v',vc]∧wx.ownsRow lo 43 7 v' (n+1) (xs++[.string p.name,iv p.kind,iv p.first,iv p.last,.slice A9 p.on.length c9,iv p.wlo,iv p.whi])∧Laid wx (g8-1) p A9 c9)→Q .normal ⟨(zA::zB::.pointer (some ⟨t2,0,none⟩)::zD::zE::zF::zG::zH::.pointer (some ⟨g8,0,none⟩)::zJ::zK::zL::zM::zN::zO::zP::zQ::zR::zS::zT::zU::zV::zW::zX::zY::zZ::za::zb::zc::zd::ze::zf::zg::zh::zi::zj::zk::zl::u38::u39::u40::u41::u42::u43::u44::u45::zu::zv::zw::zx::zy::zz::zAA::zAB::zAC::zAD::zAE::zAF::zAG::zAH::zAI::zAJ::zAK::zAL::zAM::zAN::zAO::zAP::[]).toArray,ds⟩ wx) :
  (regionOf Tryz.f25 12).wp Tryz.prog Q ⟨(zA::zB::.pointer (some ⟨t2,0,none⟩)::zD::zE::zF::zG::zH::.pointer (some ⟨g8,0,none⟩)::zJ::zK::zL::zM::zN::zO::zP::zQ::zR::zS::zT::zU::zV::zW::zX::zY::zZ::za::zb::zc::zd::ze::zf::zg::zh::zi::zj::zk::zl::zm::zn::zo::zp::zq::zr::zs::zt::zu::zv::zw::zx::zy::zz::zAA::zAB::zAC::zAD::zAE::zAF::zAG::zAH::zAI::zAJ::zAK::zAL::zAM::zAN::zAO::zAP::[]).toArray,ds⟩ V:=by
 obtain⟨iT,hiT,hzT0,hzT1,hzT2⟩:=info_parts Tryz.info43;have HC:=Lq hC;have HB0:=Lq (belowDq (bR V));have HQ:=Lq hQ;have HO:=Lq hown;have HT:=Lq ht;have HBK:=Lq hbk;have HSV:Hid (∀W:World,W.heap[t2]?=V.heap[t2]?→cA W t2 0 va):=Lq fun W hs=>(ht.same hs).c 0
 clear hC hQ hown ht hbk;have e:regionOf Tryz.f25 12=Code.region 12 ops29_12 true:=by kernel_rfl
 rw[e];refine wp_region_noPanic ?_;refine wp_region_late (S:=(fun W=>cA W t2 0 va)) (late:=(fun k=>k==8)) (by kernel_rfl) ?_
 have hHeld:=HSV.out _ (HB0.out.block t2 HT.out.lt);have hsz:ops29_12.size=9:=by kernel_rfl
 have hrep:Array.replicate 9 false=#[false,false,false,false,false,false,false,false,false]:=by kernel_rfl
 rw[hsz,hrep];clear e hsz hrep;generalize V.drew=V0 at HB0 hHeld ⊢;refine tkL 0 (.pointer (some ⟨t2,0,none⟩)) ?_;refine tkL 1 (.pointer (some ⟨t2,0,none⟩)) ?_;refine tkL 2 (va) ?_;refine rdL1 3 fun K' hK=>?_
 go_simp;refine(HC.out _ HB0.out).mono ?_;rintro e v1 ⟨A9,c9,rfl,ho,hw⟩;have ho1:OnlyAt V v1 g8:=(OnlyAt.of_below HB0.out g8).join ho;have hs1:v1.heap[t2]?=V.heap[t2]?:=ho1.block t2 HT.out.lt hg;have HO1:=Lq (ho1.own HO.out hog);have HOV:=Lq ho1;have HL1:Hid (Laid v1 (g8-1) p A9 c9):=Lq (by
  have hf:=And.intro hw.rd (And.intro hw.le (And.intro hw.here hw.max));refine⟨(show g8-1+1=g8 by omega)▸hf.1,hf.2.1,fun a ha=>?_,hf.2.2.2⟩
  have:=hf.2.2.1 a ha;omega)
 have HBK1:=Lq (HBK.out.same (ho1.block _ HBK.out.lt (by omega)))
 have HT1:=Lq (HT.out.same hs1);refine hK.out _ _ (HSV.out _ hs1) (fun hHeld=>?_)
 clear hK ho ho1 hw;refine rdL1 4 fun K' hK=>?_
 go_simp;have HO2:=Lq (own_below HO1.out (bA (bR v1) (.cells #[.string p.name,iv p.kind,iv p.first,iv p.last,.slice A9 p.on.length c9,iv p.wlo,iv p.whi] 43)));have hb2:BW v1 (v1.alloc (.cells #[.string p.name,iv p.kind,iv p.first,iv p.last,.slice A9 p.on.length c9,iv p.wlo,iv p.whi] 43)):=bA (bR v1) _;have HQ2:=Lq (Blk.new v1 43 #[.string p.name,iv p.kind,iv p.first,iv p.last,.slice A9 p.on.length c9,iv p.wlo,iv p.whi]);obtain⟨w2,hw2⟩:=ex (v1.alloc (.cells #[.string p.name,iv p.kind,iv p.first,iv p.last,.slice A9 p.on.length c9,iv p.wlo,iv p.whi] 43));obtain⟨g1,hg1⟩:=ex v1.heap.size;rw[hw2]at HO2 hb2 HQ2;rw[hg1]at HQ2
 (try rw[hw2,hg1])
 have HB2:=Lq hb2;have HT2:=Lq (HT1.out.keep hb2);have HBK2:=Lq (HBK1.out.keep hb2);have HL2:=Lq (HL1.out.same (hb2.block _ HBK1.out.lt));have hs2:w2.heap[t2]?=V.heap[t2]?:=(hb2.block _ HT1.out.lt).trans hs1;have HS2:=Lq hs2;refine hK.out _ _ (HSV.out _ hs2) (fun hHeld=>?_)
 clear hK hw2 hg1 hs1 hs2;refine rdL1 5 fun K' hK=>?_
 refine step_append_any (by rfl) _ _ 22 (by rfl) lo 43 iT _ 7 80 Tryz.underlying22 hiT hzT0 hzT1 hzT2 rfl (by decide) va n _ (by rfl) HO2.out (.slice (some ⟨g1,0,none⟩) 1 1) 1 [.string p.name,iv p.kind,iv p.first,iv p.last,.slice A9 p.on.length c9,iv p.wlo,iv p.whi] (by rfl) (.inr ⟨⟨g1,0,none⟩,1,rfl,rfl,fun j u hu=>(by rw[add_bk,HQ2.out.cell];simpa using hu),by simp[Value.oneCell']⟩) (by unfold maxLen;omega) (by omega) (by have:=HB2.out.size;have:=HOV.out.size;omega) ?_
 intro v9 w3 hown3 hg3;have hn2:=own_ne HO2.out HT2.out (by decide)
 have HT3:=Lq (HT2.out.grown hg3 hn2);have HS3:Hid (w3.heap[t2]?=V.heap[t2]?):=Lq ((hg3.block t2 HT2.out.lt hn2).trans HS2.out);have hn9:=own_ne HO2.out HBK2.out (by decide)
 have HBK3:=Lq (HBK2.out.grown hg3 hn9);have HL3:=Lq (HL2.out.same (hg3.block _ HBK2.out.lt hn9));have HG3:=Lq hg3;obtain⟨gv,cv,rfl,_,_,_⟩:=own_form hown3 (by omega)
 have HO3:=Lq hown3;refine hK.out _ _ (HSV.out _ HS3.out) (fun hHeld=>?_)
 clear hK hn2 hn9 hg3 hown3;refine tkL 6 (.pointer (some ⟨t2,0,none⟩)) ?_;refine tkL 7 (.pointer (some ⟨t2,0,none⟩)) ?_;refine rdT 8 fun K' hK=>?_
 have cg:=HT3.out.c 0;have fg:=HT3.out.frozen 0;have lg:=HT3.out.lt;go_simp;refine hK.out _ _ ?_;clear hK cg fg lg;refine wpAny_of_held (S:=fun _=>True) _ _ _ _ ?_
 refine wpAnyH_done (by kernel_rfl) ?_ _
 have o4:OnlyAt w3 (w3.setCell ⟨t2,0,none⟩ (.slice (some ⟨gv,0,none⟩) (n+1) cv)) t2:=OnlyAt.of_set (bR w3) t2 0 _;have hne3:g8-1≠t2:=fun e=>by have h:=HT3.out;rw[←e]at h;exact absurd (blk_types HBK3.out h) (by decide)
 refine NoPanic.normal (HQ.out _ _ _ _ _ _ _ _ _ _ A9 c9 ⟨Kept3.made HOV.out HB2.out HG3.out o4,HT3.out.set_ 0 _, ?_,HL3.out.same (o4.block _ HBK3.out.lt hne3)⟩);exact o4.own HO3.out (fun e=>own_ne HO3.out HT3.out (by decide) e.symm)
noncomputable def ops29_13:Array Oper:=opsOf (regionOf Tryz.f25 13)
theorem reg29_13{xs:List Value}{p:HuP}{ds:List Deferred}{wh dy:Int}{cn:ByteArray}(hlo:lo≤V.heap.size)(hn:n≤1000)(hg:t2≠g8)(hg0:0<g8)(hown:V.ownsRow lo 58 10 vc n xs)(hog:vc.ownBlock≠some g8)(ht:Blk V t2 27 #[va,vc])(hbk:Blk V (g8-1) 9 csb)(hC:∀W,BW V W→Cs 84 #[.pointer (some ⟨g8,0,none⟩)] W ((ChgdPost g8 wh dy cn p) W))(hQ:∀u46 u47 u48 u49 u50 u51 wx v' A9 c9,(Kept3 V wx g8 t2 vc.ownBlock∧Blk wx t2 27 #[va,v']∧wx.ownsRow lo 58 10 v' (n+1) (xs++[iv wh,iv dy,.string cn,.string p.name,iv p.kind,iv p.first,iv p.last,.slice A9 p.on.length c9,iv p.wlo,iv p.whi])∧Laid wx (g8-1) p A9 c9)→Q .normal ⟨(zA::zB::.pointer (some ⟨t2,0,none⟩)::zD::zE::zF::zG::zH::.pointer (some ⟨g8,0,none⟩)::zJ::zK::zL::zM::zN::zO::zP::zQ::zR::zS::zT::zU::zV::zW::zX::zY::zZ::za::zb::zc::zd::ze::zf::zg::zh::zi::zj::zk::zl::zm::zn::zo::zp::zq::zr::zs::zt::u46::u47::u48::u49::u50::u51::zAA::zAB::zAC::zAD::zAE::zAF::zAG::zAH::zAI::zAJ::zAK::zAL::zAM::zAN::zAO::zAP::[]).toArray,ds⟩ wx) :
  (regionOf Tryz.f25 13).wp Tryz.prog Q ⟨(zA::zB::.pointer (some ⟨t2,0,none⟩)::zD::zE::zF::zG::zH::.pointer (some ⟨g8,0,none⟩)::zJ::zK::zL::zM::zN::zO::zP::zQ::zR::zS::zT::zU::zV::zW::zX::zY::zZ::za::zb::zc::zd::ze::zf::zg::zh::zi::zj::zk::zl::zm::zn::zo::zp::zq::zr::zs::zt::zu::zv::zw::zx::zy::zz::zAA::zAB::zAC::zAD::zAE::zAF::zAG::zAH::zAI::zAJ::zAK::zAL::zAM::zAN::zAO::zAP::[]).toArray,ds⟩ V:=by
 obtain⟨iT,hiT,hzT0,hzT1,hzT2⟩:=info_parts Tryz.info58;have HC:=Lq hC;have HB0:=Lq (belowDq (bR V));have HQ:=Lq hQ;have HO:=Lq hown;have HT:=Lq ht;have HBK:=Lq hbk;have HSV:Hid (∀W:World,W.heap[t2]?=V.heap[t2]?→cA W t2 1 vc):=Lq fun W hs=>(ht.same hs).c 1
 clear hC hQ hown ht hbk;have e:regionOf Tryz.f25 13=Code.region 13 ops29_13 true:=by kernel_rfl
 rw[e];refine wp_region_noPanic ?_;refine wp_region_late (S:=(fun W=>cA W t2 1 vc)) (late:=(fun k=>k==6)) (by kernel_rfl) ?_
 have hHeld:=HSV.out _ (HB0.out.block t2 HT.out.lt);have hsz:ops29_13.size=7:=by kernel_rfl
 have hrep:Array.replicate 7 false=#[false,false,false,false,false,false,false]:=by kernel_rfl
 rw[hsz,hrep];clear e hsz hrep;generalize V.drew=V0 at HB0 hHeld ⊢;refine tkL 0 (.pointer (some ⟨t2,1,none⟩)) ?_;refine tkL 1 (vc) ?_;refine rdL1 2 fun K' hK=>?_
 go_simp;refine(HC.out _ HB0.out).mono ?_;rintro e v1 ⟨A9,c9,rfl,ho,hrd,hle,hhe,hmx⟩;have ho1:OnlyAt V v1 g8:=(OnlyAt.of_below HB0.out g8).join ho;have hs1:v1.heap[t2]?=V.heap[t2]?:=ho1.block t2 HT.out.lt hg;have HO1:=Lq (ho1.own HO.out hog);have HOV:=Lq ho1;have HL1:Hid (Laid v1 (g8-1) p A9 c9):=Lq (by
  have hf:=And.intro hrd (And.intro hle (And.intro hhe hmx));refine⟨(show g8-1+1=g8 by omega)▸hf.1,hf.2.1,fun a ha=>?_,hf.2.2.2⟩
  have:=hf.2.2.1 a ha;omega)
 have HBK1:=Lq (HBK.out.same (ho1.block _ HBK.out.lt (by omega)))
 have HT1:=Lq (HT.out.same hs1);refine hK.out _ _ (HSV.out _ hs1) (fun hHeld=>?_)
 clear hK ho ho1 hrd hle hhe hmx;refine rdL1 3 fun K' hK=>?_
 go_simp;have HO2:=Lq (own_below HO1.out (bA (bR v1) (.cells #[iv wh,iv dy,.string cn,.string p.name,iv p.kind,iv p.first,iv p.last,.slice A9 p.on.length c9,iv p.wlo,iv p.whi] 58)));have hb2:BW v1 (v1.alloc (.cells #[iv wh,iv dy,.string cn,.string p.name,iv p.kind,iv p.first,iv p.last,.slice A9 p.on.length c9,iv p.wlo,iv p.whi] 58)):=bA (bR v1) _;have HQ2:=Lq (Blk.new v1 58 #[iv wh,iv dy,.string cn,.string p.name,iv p.kind,iv p.first,iv p.last,.slice A9 p.on.length c9,iv p.wlo,iv p.whi]);obtain⟨w2,hw2⟩:=ex (v1.alloc (.cells #[iv wh,iv dy,.string cn,.string p.name,iv p.kind,iv p.first,iv p.last,.slice A9 p.on.length c9,iv p.wlo,iv p.whi] 58));obtain⟨g1,hg1⟩:=ex v1.heap.size;rw[hw2]at HO2 hb2 HQ2;rw[hg1]at HQ2
 (try rw[hw2,hg1])
 have HB2:=Lq hb2;have HT2:=Lq (HT1.out.keep hb2);have HBK2:=Lq (HBK1.out.keep hb2);have HL2:=Lq (HL1.out.same (hb2.block _ HBK1.out.lt));have hs2:w2.heap[t2]?=V.heap[t2]?:=(hb2.block _ HT1.out.lt).trans hs1;have HS2:=Lq hs2;refine hK.out _ _ (HSV.out _ hs2) (fun hHeld=>?_)
 clear hK hw2 hg1 hs1 hs2;refine rdL1 4 fun K' hK=>?_
 refine step_append_any (by rfl) _ _ 25 (by rfl) lo 58 iT _ 10 112 Tryz.underlying25 hiT hzT0 hzT1 hzT2 rfl (by decide) vc n _ (by rfl) HO2.out (.slice (some ⟨g1,0,none⟩) 1 1) 1 [iv wh,iv dy,.string cn,.string p.name,iv p.kind,iv p.first,iv p.last,.slice A9 p.on.length c9,iv p.wlo,iv p.whi] (by rfl) (.inr ⟨⟨g1,0,none⟩,1,rfl,rfl,fun j u hu=>(by rw[add_bk,HQ2.out.cell];simpa using hu),by simp[Value.oneCell']⟩) (by unfold maxLen;omega) (by omega) (by have:=HB2.out.size;have:=HOV.out.size;omega) ?_
 intro v9 w3 hown3 hg3;have hn2:=own_ne HO2.out HT2.out (by decide)
 have HT3:=Lq (HT2.out.grown hg3 hn2);have HS3:Hid (w3.heap[t2]?=V.heap[t2]?):=Lq ((hg3.block t2 HT2.out.lt hn2).trans HS2.out);have hn9:=own_ne HO2.out HBK2.out (by decide)
 have HBK3:=Lq (HBK2.out.grown hg3 hn9);have HL3:=Lq (HL2.out.same (hg3.block _ HBK2.out.lt hn9));have HG3:=Lq hg3;obtain⟨gv,cv,rfl,_,_,_⟩:=own_form hown3 (by omega)
 have HO3:=Lq hown3;refine hK.out _ _ (HSV.out _ HS3.out) (fun hHeld=>?_)
 clear hK hn2 hn9 hg3 hown3;refine tkL 5 (.pointer (some ⟨t2,1,none⟩)) ?_;refine rdT 6 fun K' hK=>?_
 have cg:=HT3.out.c 1;have fg:=HT3.out.frozen 1;have lg:=HT3.out.lt;go_simp;refine hK.out _ _ ?_;clear hK cg fg lg;refine wpAny_of_held (S:=fun _=>True) _ _ _ _ ?_
 refine wpAnyH_done (by kernel_rfl) ?_ _
 have o4:OnlyAt w3 (w3.setCell ⟨t2,1,none⟩ (.slice (some ⟨gv,0,none⟩) (n+1) cv)) t2:=OnlyAt.of_set (bR w3) t2 1 _;have hne3:g8-1≠t2:=fun e=>by have h:=HT3.out;rw[←e]at h;exact absurd (blk_types HBK3.out h) (by decide)
 refine NoPanic.normal (HQ.out _ _ _ _ _ _ _ _ A9 c9 ⟨Kept3.made HOV.out HB2.out HG3.out o4,HT3.out.set_ 1 _, ?_,HL3.out.same (o4.block _ HBK3.out.lt hne3)⟩);exact o4.own HO3.out (fun e=>own_ne HO3.out HT3.out (by decide) e.symm)
end
section
variable{x ys:Array Value}{cs:List HcM}{ms:List HuM}{c g t2 t3:Nat}{A:Option Addr}{v' va vc:Value}{V W X w0:World}
attribute [local go_sem] Oper.semAt_some
inductive LnW where
 | part (nm kw w1 w2 w3 w4:ByteArray) (p:HuP)
 | add (dw nm kw w1 w2 w3 w4:ByteArray) (dy:Int) (p:HuP)
 | take (dw nm:ByteArray) (dy:Int)
 | swap (dw old nm kw w1 w2 w3 w4:ByteArray) (dy:Int) (p:HuP)
def LnW.words:LnW→List ByteArray
 | .part nm kw w1 w2 w3 w4 p=>sPart::nm::kw::w1::w2::w3::w4::p.on
 | .add dw nm kw w1 w2 w3 w4 _ p=>dw::sAdd::nm::kw::w1::w2::w3::w4::p.on
 | .take dw nm _=>[dw,sTake,nm]
 | .swap dw old nm kw w1 w2 w3 w4 _ p=>dw::sSwap::old::nm::kw::w1::w2::w3::w4::p.on
def DayW(dw:ByteArray)(dy:Int):Prop:=NumW dw dy∧(dw.toList==[112,97,114,116])=false
def LnW.ok:LnW→Prop
 | .part nm kw w1 w2 w3 w4 p=>PartW p nm kw w1 w2 w3 w4
 | .add dw nm kw w1 w2 w3 w4 dy p=>DayW dw dy∧PartW p nm kw w1 w2 w3 w4
 | .take dw _ dy=>DayW dw dy
 | .swap dw _ nm kw w1 w2 w3 w4 dy p=>DayW dw dy∧PartW p nm kw w1 w2 w3 w4
def noP:HuP:=⟨⟨#[]⟩,0,0,0,[],0,0⟩
def LnW.p?:LnW→List HuP
 | .part _ _ _ _ _ _ p=>[p]
 | _=>[]
def LnW.c?:LnW→List HuC
 | .part ..=>[]
 | .add _ _ _ _ _ _ _ dy p=>[⟨1,dy,⟨#[]⟩,p⟩]
 | .take _ nm dy=>[⟨2,dy,nm,noP⟩]
 | .swap _ old _ _ _ _ _ _ dy p=>[⟨3,dy,old,p⟩]
def psT(l:List LnW):List HuP:=l.flatMap LnW.p?
def csT(l:List LnW):List HuC:=l.flatMap LnW.c?
structure LineOk(r r':ByteArray)(ln:LnW):Prop where
 ok:ln.ok
 sz:r.size≤6000
 less:r'.size<r.size
 some':r.toList.isEmpty=false
 row:∃row:ByteArray,Lib.cut r.data.toList [10]=(row.data.toList,r'.data.toList,true)∧row.size≤6000∧Lib.splitB sSp 0 (Lib.countB row sSp) row=ln.words∧Lib.countB row sSp+1=ln.words.length∧ln.words.length≤1000
structure TextOk(s:ByteArray)(rest:Nat→ByteArray)(lns:List LnW):Prop where
 first:rest 0=s
 last:(rest lns.length).toList.isEmpty=true
 len:lns.length≤100
 line:∀k ln,lns[k]?=some ln→LineOk (rest k) (rest (k+1)) ln
structure Got(W:World)(m:HuM):Prop where
 bk:∃b cs,Blk W b 9 cs∧∀a,m.A=some a→a.block=b
 ok:MOk W W.heap.size m
theorem Got.same{m:HuM}(h:Got W m)(hs:W.heap.size≤V.heap.size)(hk:∀b cs,Blk W b 9 cs→V.heap[b]?=W.heap[b]?):Got V m:=by
 obtain⟨⟨b,cs,hb,ha⟩,hm⟩:=h;have e:=hk b cs hb;refine⟨⟨b,cs,hb.same e,ha⟩,⟨fun i x hx=>?_,hm.le,hm.cm,hm.nm,hm.ons,hm.sz⟩⟩
 obtain⟨b',off,eA,hlt,hc⟩:=hm.on i x hx;have h2:=ha _ eA;simp only at h2;subst h2;exact⟨b',off,eA,lz hlt hs,(World.cell?_of_block (w:=W) (a:=⟨b',_,none⟩) e).trans hc⟩
structure RdInv(w0 W:World)(t2 t3:Nat)(va vc:Value)(ms:List HuM)(cs:List HcM):Prop where
 bw:BW w0 W
 plan:Blk W t2 27 #[va,vc]
 err:Blk W t3 29 #[iv 0]
 rowA:W.ownsRow w0.heap.size 43 7 va ms.length (ms.flatMap encM)
 rowC:W.ownsRow w0.heap.size 58 10 vc cs.length (cs.flatMap encC)
 got:∀m∈ms,Got W m
 gotc:∀c∈cs,Got W c.part∧c.name.size≤maxLen
theorem RdInv.below(h:RdInv w0 W t2 t3 va vc ms cs)(hb:BW W V):RdInv w0 V t2 t3 va vc ms cs :=
 ⟨bT h.bw hb,h.plan.keep hb,h.err.keep hb,own_below h.rowA hb,own_below h.rowC hb,fun m hm=>(h.got m hm).same hb.size fun b _ hB=>hb.block b hB.lt,fun c hc=>⟨(h.gotc c hc).1.same hb.size fun b _ hB=>hb.block b hB.lt,(h.gotc c hc).2⟩⟩
theorem own_block{base:Nat}{e:TypeId}{size n:Nat}{v:Value}{xs:List Value}(h:W.ownsRow base e size v n xs)(hs:∀k cur,v.ownBlock=some k→Blk W k e cur→X.heap[k]?=W.heap[k]?):X.ownsRow base e size v n xs:=by obtain⟨h1,h2⟩:=h;refine⟨h1,h2.imp id ?_⟩;rintro⟨g,cap,cur,hv,hb,hh,r⟩;exact⟨g,cap,cur,hv,hb,(hs g cur (by rw[hv];rfl) hh).trans hh,r⟩
theorem RdInv.only(h:RdInv w0 W t2 t3 va vc ms cs)(hg:Blk W g 154 x)(h0:w0.heap.size≤g)(ho:OnlyAt W V g):RdInv w0 V t2 t3 va vc ms cs:=by
 have ne:∀{b:Nat} {t:TypeId} {ys:Array Value},Blk W b t ys→t≠154→b≠g:=fun hb ht e=>by subst e;exact ht (blk_types hb hg)
 refine⟨ho.below h.bw h0,h.plan.same (ho.block _ h.plan.lt (ne h.plan (by decide))),h.err.same (ho.block _ h.err.lt (ne h.err (by decide))),ho.own h.rowA (fun e=>own_ne h.rowA hg (by decide) e.symm),ho.own h.rowC (fun e=>own_ne h.rowC hg (by decide) e.symm),fun m hm=>(h.got m hm).same ho.size fun b ys hb=>ho.block b hb.lt (ne hb (by decide)),fun c hc=>⟨(h.gotc c hc).1.same ho.size fun b ys hb=>ho.block b hb.lt (ne hb (by decide)),(h.gotc c hc).2⟩⟩
structure PSz(p:HuP):Prop where
 nm:p.name.size≤maxLen
 ons:∀o∈p.on,o.size≤maxLen
 on:p.on.length≤1000
theorem got_of{bk:Nat}{p:HuP}(h:Laid X bk p A c)(hb:Blk X bk 9 ys)(hp:PSz p):Got X ⟨p,A,c⟩ :=
 ⟨⟨bk,ys,hb,h.here⟩,⟨h.rd.more (by have:=hb.lt;omega),h.le,h.max,hp.nm,hp.ons,by have:=hp.on;show p.on.length*16≤_;omega⟩⟩
theorem RdInv.addP{p:HuP}(h:RdInv w0 V t2 t3 va vc ms cs)(hg:Blk V g 154 x)(h0:w0.heap.size≤g)(ht0:w0.heap.size≤t2)(hk:Kept3 V X g t2 va.ownBlock)(hpl:Blk X t2 27 #[v',vc])(hown:X.ownsRow w0.heap.size 43 7 v' (ms.length+1) (ms.flatMap encM++[.string p.name,iv p.kind,iv p.first,iv p.last,.slice A p.on.length c,iv p.wlo,iv p.whi]))(hl:Laid X (g-1) p A c)(hbk:Blk V (g-1) 9 ys)(hp:PSz p) :
  RdInv w0 X t2 t3 v' vc (ms++[⟨p,A,c⟩]) cs:=by
 have ne:∀{b:Nat} {t:TypeId} {zs:Array Value},Blk V b t zs→t≠154→t≠27→t≠43→X.heap[b]?=V.heap[b]?:=fun{b t zs} hb h1 h2 h3=>hk.same b hb.lt (fun e=>by subst e;exact h1 (blk_types hb hg)) (fun e=>by subst e;exact h2 (blk_types hb h.plan)) (own_ne h.rowA hb h3)
 refine⟨⟨hk.os.trans h.bw.os,hk.tape.trans h.bw.tape,hk.output.trans h.bw.output,lT h.bw.size hk.size,fun k hk0=>?_⟩,hpl,h.err.same (ne h.err (by decide) (by decide) (by decide)), ?_, ?_,fun m hm=>?_,fun c' hc=>⟨(h.gotc c' hc).1.same hk.size fun b zs hb=>ne hb (by decide) (by decide) (by decide),(h.gotc c' hc).2⟩⟩
 ·exact(hk.same k (lz hk0 h.bw.size) (by omega) (by omega) (fun e=>by have:=(h.rowA.lt k e.symm).1;omega)).trans (h.bw.block k hk0)
 ·rw[List.length_append,List.flatMap_append]
  simpa[encM]using hown
 ·exact own_block h.rowC fun k cur hv hb=>hk.same k hb.lt (fun e=>by subst e;exact absurd (blk_types hb hg) (by decide)) (fun e=>by subst e;exact absurd (blk_types hb h.plan) (by decide)) (fun e=>own_apart h.rowC h.rowA (by decide) hv e.symm)
 ·rcases List.mem_append.1 hm with hm | hm
  ·exact(h.got m hm).same hk.size fun b zs hb=>ne hb (by decide) (by decide) (by decide)
  ·rw[List.mem_singleton.1 hm];exact got_of hl (hbk.same (ne hbk (by decide) (by decide) (by decide))) hp
theorem RdInv.addC{wh dy:Int}{cn:ByteArray}{p:HuP}(h:RdInv w0 V t2 t3 va vc ms cs)(hg:Blk V g 154 x)(h0:w0.heap.size≤g)(ht0:w0.heap.size≤t2)(hk:Kept3 V X g t2 vc.ownBlock)(hpl:Blk X t2 27 #[va,v'])(hown:X.ownsRow w0.heap.size 58 10 v' (cs.length+1) (cs.flatMap encC++[iv wh,iv dy,.string cn,.string p.name,iv p.kind,iv p.first,iv p.last,.slice A p.on.length c,iv p.wlo,iv p.whi]))(hl:Laid X (g-1) p A c)(hbk:Blk V (g-1) 9 ys)(hp:PSz p)(hcn:cn.size≤maxLen) :
  RdInv w0 X t2 t3 va v' ms (cs++[⟨wh,dy,cn,⟨p,A,c⟩⟩]):=by
 have ne:∀{b:Nat} {t:TypeId} {zs:Array Value},Blk V b t zs→t≠154→t≠27→t≠58→X.heap[b]?=V.heap[b]?:=fun{b t zs} hb h1 h2 h3=>hk.same b hb.lt (fun e=>by subst e;exact h1 (blk_types hb hg)) (fun e=>by subst e;exact h2 (blk_types hb h.plan)) (own_ne h.rowC hb h3)
 refine⟨⟨hk.os.trans h.bw.os,hk.tape.trans h.bw.tape,hk.output.trans h.bw.output,lT h.bw.size hk.size,fun k hk0=>?_⟩,hpl,h.err.same (ne h.err (by decide) (by decide) (by decide)), ?_, ?_,fun m hm=>(h.got m hm).same hk.size fun b zs hb=>ne hb (by decide) (by decide) (by decide),fun c' hc=>?_⟩
 ·exact(hk.same k (lz hk0 h.bw.size) (by omega) (by omega) (fun e=>by have:=(h.rowC.lt k e.symm).1;omega)).trans (h.bw.block k hk0)
 ·exact own_block h.rowA fun k cur hv hb=>hk.same k hb.lt (fun e=>by subst e;exact absurd (blk_types hb hg) (by decide)) (fun e=>by subst e;exact absurd (blk_types hb h.plan) (by decide)) (fun e=>own_apart h.rowA h.rowC (by decide) hv e.symm)
 ·rw[List.length_append,List.flatMap_append]
  simpa[encC]using hown
 ·rcases List.mem_append.1 hc with hm | hm
  ·exact⟨(h.gotc c' hm).1.same hk.size fun b zs hb=>ne hb (by decide) (by decide) (by decide),(h.gotc c' hm).2⟩
  ·rw[List.mem_singleton.1 hm];exact⟨got_of hl (hbk.same (ne hbk (by decide) (by decide) (by decide))) hp,hcn⟩
theorem RdInv.planAt(h:RdInv w0 W t2 t3 va vc ms cs)(hwf:∀c∈cs,Lit.wf (.int .i64 c.what)=true):∃A C cap capc,va=.slice A ms.length cap∧vc=.slice C cs.length capc∧PlanAt W A C cap capc ms cs:=by
 obtain⟨A,cap,e1,h2,h3,h4,h5⟩:=own_rdN encM_len h.rowA;obtain⟨C,capc,f1,k2,k3,k4,k5⟩:=own_rdN (show ∀c:HcM,(encC c).length=10 from fun _=>rfl) h.rowC
 refine⟨A,C,cap,capc,e1,f1,⟨⟨⟨h2,fun m hm=>(h.got m hm).ok⟩,h4,h5,fun hA=>?_,fun a ha=>?_⟩,⟨k2,fun c hc=>⟨(h.gotc c hc).1.ok,(h.gotc c hc).2⟩,k4,k5⟩,hwf⟩⟩
 ·rcases h.rowA.2 with⟨hv,_⟩ | ⟨g',c',cur,hv,_⟩
  ·rw[e1]at hv;injection hv
  ·rw[e1,hA]at hv;injection hv with hv
   cases hv
 ·rcases h.rowA.2 with⟨hv,_⟩ | ⟨g',c',cur,hv,_⟩
  ·rw[e1,ha]at hv;injection hv with hv
   cases hv
  ·have hl:=(h.rowA.lt g' (by rw[hv];rfl)).2
   rw[e1,ha]at hv;injection hv with hv
   injection hv with hv
   subst hv;exact⟨rfl,hl⟩
theorem catch80_idle(t2 t3:Nat)(w:World) :
  CallsD Tryz.prog 78 #[.pointer (some ⟨t2,0,none⟩),.pointer (some ⟨t3,0,none⟩)] .returning w fun e u' w'=>e=.returned (.tuple #[])∧u'=.returning∧w'=w:=by
 refine callsD_of_wpS Tryz.func78 rfl fun c₀ cs hu=>?_
 apply wpS_seq;apply wpS_region;simp[wpOpsS,go_sem,recoverD,hu,Tryz.ntmps78,Exit.thenS];apply wpS_seq;apply wpS_region;simp[wpOpsS,go_sem,recoverD,hu,Exit.thenS];refine wpS_cond (t:=false) (by simp[Act.eval,Array.replicate]) ?_
 simp only[Bool.false_eq_true,if_false];refine wpS_of_wp (wp_skip ?_);cases c₀;simp_all [bodyPostS,results,Tryz.results78]
def strLen:Value→Nat
 | .string s=>s.size
 | _=>0
def ReadPost(lns:List LnW)(w:World)(e:Ending)(w':World):Prop:=∃(A C:Option Addr) (cap capc:Nat) (ms:List HuM) (cs:List HcM),e=.returned (.tuple #[.agg #[.slice A ms.length cap,.slice C cs.length capc],iv 0])∧PlanAt w' A C cap capc ms cs∧psOf ms=psT lns∧csOf cs=csT lns∧BW w w'
theorem read29_any(s:ByteArray)(rest:Nat→ByteArray)(lns:List LnW)(m:Int)(w:World)(ht:PowTab w)(hm:w.cell? ⟨0,0,none⟩=some (iv m))(hT:TextOk s rest lns)(hs:s.size≤6000)(hok:PlanOk (psT lns) (csT lns))(htx:(⟨(textT (psT lns) (csT lns)).toArray⟩:ByteArray)=s)(hz:∀p∈psT lns,PSz p)(hzc:∀c∈csT lns,PSz c.part∧c.name.size≤maxLen)(hp:∀p∈psT lns,TellOk p∧(lineOf (partW p)).length≤100000)(hc:∀c∈csT lns,1≤c.what∧c.what≤3∧(-9223372036854775808≤c.day∧c.day≤9223372036854775807)∧(c.what≠2→TellOk c.part)∧(lineOf (chgW c)).length≤100000) :
  Cs 25 #[.string s] w (ReadPost lns w):=by
 have hmf:∀(fn:Fn) (first cap:Array Value) (w:World),(Instr.makeFunc fn first cap).run Tryz.prog w=.ok (.func fn first cap) w:=fun _ _ _ _=>rfl
 obtain⟨W1,hW1⟩:=ex (w.alloc (.cells #[.slice none 0 0,.slice none 0 0] 27));obtain⟨W2,hW2⟩:=ex (W1.alloc (.cells #[iv 0] 29));obtain⟨t2,ht2⟩:=ex w.heap.size;obtain⟨t3,ht3⟩:=ex W1.heap.size;have b1:BW w W1:=by rw[←hW1];exact bA (bR w) _
 have b2:BW W1 W2:=by rw[←hW2];exact bA (bR _) _
 have q1:Blk W1 t2 27 #[.slice none 0 0,.slice none 0 0]:=by rw[←hW1,←ht2];exact Blk.new w 27 _
 have q2:Blk W2 t3 29 #[iv 0]:=by rw[←hW2,←ht3];exact Blk.new W1 29 _
 have HR0:Hid (RdInv w W2 t2 t3 (.slice none 0 0) (.slice none 0 0) [] []):=Lq ⟨bT b1 b2,q1.keep b2,q2,World.ownsRow_nil _ _ _ _,World.ownsRow_nil _ _ _ _,fun _ h=>(by cases h),fun _ h=>(by cases h)⟩
 have HT:=Lq hT;have HTS:Hid (w.heap.size≤t2∧t2<t3):=Lq (by
  have:W1.heap.size=w.heap.size+1:=by rw[←hW1];simp
  omega)
 have HTAB:=Lq ht;have HM:=Lq hm;have HOK:=Lq hok;have HTX:=Lq htx;have HP:=Lq hp;have HC:=Lq hc;have HZ:=Lq hz;have HZC:=Lq hzc;have hl:¬(6000<s.size):=by omega
 have hf:=hT.first;clear ht hm hT hok htx hp hc hz hzc b1 b2 q1 q2
 go_enter_defers Tryz.func25,Tryz.ntmps25
 go_wp2_with fail;clear hW1 hW2 ht2 ht3;go_loopw [4] (fun r wr=>∃(k:Nat) (ms:List HuM) (cs:List HcM) (va vc:Value),k≤lns.length∧r=.string (rest k)∧psOf ms=psT (lns.take k)∧csOf cs=csT (lns.take k)∧ms.length+cs.length≤k∧Hid (RdInv w wr t2 t3 va vc ms cs)) (fun r _=>strLen r)
 case atStart=>exact⟨0,[],[],_,_,Nat.zero_le _,by rw[hf],rfl,rfl,Nat.zero_le _,HR0⟩
 case round =>
  obtain⟨k,ms,cs,va,vc,hk,rfl,hms,hcs,hlen,HR⟩:=hrel;by_cases hlt:k<lns.length
  ·obtain⟨ln,hln⟩:=gX (l:=lns) (i:=k) hlt;have hL:=HT.out.line k ln hln;obtain⟨r,hr⟩:=ex (rest k);obtain⟨r',hr'⟩:=ex (rest (k+1));rw[hr,hr']at hL;rw[hr];have hse:=hL.some';obtain⟨row,hcut,hrs,hsp,hcn,hwl⟩:=hL.row;have hmr:wr.cell? ⟨0,0,none⟩=some (iv m):=(World.cell?_of_block (w:=w) (a:=⟨0,0,none⟩) (HR.out.bw.block 0 (lt_of_cell HM.out))).trans HM.out;have hcu:=cut81_any r sNl m wr (by have:=hL.sz;omega) hmr
   rw[show sNl.data.toList=[10]from rfl,hcut]at hcu
   have e1:(⟨row.data.toList.toArray⟩:ByteArray)=row:=by simp
   have e2:(⟨r'.data.toList.toArray⟩:ByteArray)=r':=by simp
   simp only[e1,e2]at hcu;have HCU:=Lq hcu;have HSP:Hid (∀W,BW wr W→Cs 81 #[.string row,.string sSp] W fun e w'=>e=.returned (.slice (some ⟨W.heap.size,0,none⟩) ln.words.length ln.words.length)∧w'=W.alloc (.cells (ln.words.map Value.string).toArray 9)):=Lq fun W hb=>by
    have h:=Tryz.strings_Split row sSp m W (by omega) ((World.cell?_of_block (w:=wr) (a:=⟨0,0,none⟩) (hb.block 0 (lt_of_cell hmr))).trans hmr) (by decide)
    rw[hcn,hsp]at h;exact h
   have HL:=Lq hL;have HWL:=Lq hwl;clear hL hcut hrs hsp hcn hwl hmr hcu e1 e2;go_wp2_with fail;refine HCU.out.mono ?_;rintro e w1 ⟨rfl,hb1⟩;have HB1:=Lq hb1;clear hb1;go_wp2_with fail;refine(must82_any _).mono ?_;rintro e w2 ⟨rfl,hw2⟩;subst hw2;go_wp2_with fail;refine(HSP.out _ HB1.out).mono ?_;rintro e w3 ⟨rfl,hw3⟩;have hb3:BW w2 w3:=by rw[hw3];exact bA (bR w2) _
   have hq3:Blk w3 w2.heap.size 9 (ln.words.map Value.string).toArray:=by rw[hw3];exact Blk.new w2 9 _
   have hz3:w3.heap.size=w2.heap.size+1:=by rw[hw3];simp
   obtain⟨bk,hbk⟩:=ex w2.heap.size;rw[hbk]at hq3 hz3;obtain⟨n,hn⟩:=ex ln.words.length;have HWN:=Lq hn;simp only[hn,hbk];obtain⟨Wa,W5,hWa,hW5,hb5,hqa,hba,hq5⟩:=oneMade w3 154 (.slice none 0 0) (.slice (some ⟨bk,0,none⟩) n n);obtain⟨g8,hg8⟩:=ex w3.heap.size;rw[hg8]at hW5 hqa hq5 hz3;have hq5b:=hq3.keep hb5;have HWD:Hid (WdAt W5 g8 (some ⟨bk,0,none⟩) n ln.words):=Lq ⟨by rw[hn];exact hq5,by
    intro i x hx;refine⟨bk,0,rfl,by omega, ?_⟩
    rw[hq5b.cell,Nat.zero_add,List.getElem?_toArray,List.getElem?_map,hx];rfl,by omega,fun a ha=>(by injection ha with ha;subst ha;exact hz3.symm),by have:=HWL.out;unfold maxLen;omega⟩
   have HR5:=Lq (HR.out.below (bT HB1.out (bT hb3 hb5)));have HQ5:=Lq hq5;have HBK5:Hid (Blk W5 (g8-1) 9 (ln.words.map Value.string).toArray):=Lq (by rw[show g8-1=bk by omega];exact hq5b)
   have hgw:w.heap.size≤g8:=by have h1:=HR.out.bw.size;have h2:=HB1.out.size;omega
   have hg0:0<g8:=by omega
   have f0:=hqa.frozen 0;have x0:=hqa.c 0;have l0:=hqa.lt;have d0:=hq5.c 0;have hn0:0<n:=by rw[←hn];cases ln<;>simp[LnW.words]
   have c0:∀u,(ln.words[0]?)=some u→W5.cell? ⟨bk,0,none⟩=some (.string u):=fun u hu=>by rw[hq5b.cell,List.getElem?_toArray,List.getElem?_map,hu];rfl
   clear hb3 hq3 hw3 hn hb5 hqa hba hq5 hq5b hz3;have HPT:Hid (psT (lns.take (k+1))=psOf ms++ln.p?):=Lq (by unfold psT at hms ⊢;rw[List.take_add_one,hln,List.flatMap_append,hms];simp)
   have HCT:Hid (csT (lns.take (k+1))=csOf cs++ln.c?):=Lq (by unfold csT at hcs ⊢;rw[List.take_add_one,hln,List.flatMap_append,hcs];simp)
   have hmp:∀p∈ln.p?,p∈psT lns:=fun p hp=>List.mem_flatMap.2 ⟨ln,mG ⟨k,hln⟩,hp⟩
   have hmc:∀c∈ln.c?,c∈csT lns:=fun c hc=>List.mem_flatMap.2 ⟨ln,mG ⟨k,hln⟩,hc⟩
   have hlk:=HT.out.len;have htg:t2≠g8:=fun e=>by have h:=HR5.out.plan;rw[e]at h;exact absurd (blk_types h HQ5.out) (by decide)
   cases ln with
   | part nm kw w1' w2' w3' w4' p =>
    have c0:=c0 sPart rfl;have HN84:=Lq (next84_any g8 n (some ⟨bk,0,none⟩) sPart (nm::kw::w1'::w2'::w3'::w4'::p.on) W5 HWD.out);go_wp2_with fail;refine HN84.out.mono ?_;rintro e v6 ⟨rfl,ho,A6,c6,hw⟩;have HR6:=Lq (HR5.out.only HQ5.out hgw ho);have HBK6:=Lq (HBK5.out.same (ho.block _ HBK5.out.lt (by omega)))
    have HW6:=Lq hw;clear ho hw hW5 hWa hg8;go_wp2_with fail;refine reg29_12 (p:=p) (by have:=HR6.out.bw.size;omega) (by omega) htg hg0 HR6.out.rowA (fun e=>own_ne HR6.out.rowA HW6.out.blk (by decide) e.symm) HR6.out.plan HBK6.out (fun W hb=>part85_any g8 c6 A6 p nm kw w1' w2' w3' w4' W (HW6.out.below hb) HL.out.ok) ?_
    rintro u38 u39 u40 u41 u42 u43 u44 u45 wx v' A9 c9 ⟨hk3,hpl,hown,hla⟩;have hrx:=HR6.out.addP HW6.out.blk hgw HTS.out.1 hk3 hpl hown hla HBK6.out (HZ.out p (hmp p (List.mem_singleton.2 rfl)));have HRX:=Lq hrx;clear hrx hk3 hpl hown hla;go_wp2_with fail;go_roundw
    case measure =>
     show strLen (.string r')<strLen (.string r)
     exact HL.out.less
    case rel =>
     refine⟨k+1,ms++[⟨p,A9,c9⟩],cs,v',vc,by omega,by rw[hr'],by rw[HPT.out];simp[LnW.p?],by rw[HCT.out];simp[LnW.c?],by simp;omega,HRX⟩
   | add dw nm kw w1' w2' w3' w4' dy p =>
    have c0:=c0 dw rfl;have hdw:=HL.out.ok.1.2;go_wp2_with fail;refine reg29_13 (p:=p) (wh:=1) (dy:=dy) (cn:=⟨#[]⟩) (by have:=HR5.out.bw.size;omega) (by omega) htg hg0 HR5.out.rowC (fun e=>own_ne HR5.out.rowC HQ5.out (by decide) e.symm) HR5.out.plan HBK5.out (fun W hb=>change86_add g8 n _ dy p.name p.kind p.first p.last p.wlo p.whi p.on nm kw w1' w2' w3' w4' dw W (HWD.out.below hb) HL.out.ok.1.1 HL.out.ok.2) ?_
    rintro u46 u47 u48 u49 u50 u51 wx v' A9 c9 ⟨hk3,hpl,hown,hla⟩;have hz:=HZC.out _ (hmc _ (List.mem_singleton.2 rfl));have hrx:=HR5.out.addC HQ5.out hgw HTS.out.1 hk3 hpl hown hla HBK5.out hz.1 hz.2;have HRX:=Lq hrx;clear hrx hk3 hpl hown hla;go_wp2_with fail;go_roundw
    case measure =>
     show strLen (.string r')<strLen (.string r)
     exact HL.out.less
    case rel =>
     refine⟨k+1,ms,cs++[⟨1,dy,⟨#[]⟩,⟨p,A9,c9⟩⟩],va,v',by omega,by rw[hr'],by rw[HPT.out];simp[LnW.p?],by rw[HCT.out];simp[LnW.c?,csOf,HcM.c],by simp;omega,HRX⟩
   | take dw nm dy =>
    have c0:=c0 dw rfl;have hdw:=HL.out.ok.2;go_wp2_with fail;refine reg29_13 (p:=noP) (wh:=2) (dy:=dy) (cn:=nm) (by have:=HR5.out.bw.size;omega) (by omega) htg hg0 HR5.out.rowC (fun e=>own_ne HR5.out.rowC HQ5.out (by decide) e.symm) HR5.out.plan HBK5.out (fun W hb=>change86_take g8 n _ dy nm dw W (HWD.out.below hb) HL.out.ok.1) ?_
    rintro u46 u47 u48 u49 u50 u51 wx v' A9 c9 ⟨hk3,hpl,hown,hla⟩;have hz:=HZC.out _ (hmc _ (List.mem_singleton.2 rfl));have hrx:=HR5.out.addC HQ5.out hgw HTS.out.1 hk3 hpl hown hla HBK5.out hz.1 hz.2;have HRX:=Lq hrx;clear hrx hk3 hpl hown hla;go_wp2_with fail;go_roundw
    case measure =>
     show strLen (.string r')<strLen (.string r)
     exact HL.out.less
    case rel =>
     refine⟨k+1,ms,cs++[⟨2,dy,nm,⟨noP,A9,c9⟩⟩],va,v',by omega,by rw[hr'],by rw[HPT.out];simp[LnW.p?],by rw[HCT.out];simp[LnW.c?,csOf,HcM.c],by simp;omega,HRX⟩
   | swap dw old nm kw w1' w2' w3' w4' dy p =>
    have c0:=c0 dw rfl;have hdw:=HL.out.ok.1.2;go_wp2_with fail;refine reg29_13 (p:=p) (wh:=3) (dy:=dy) (cn:=old) (by have:=HR5.out.bw.size;omega) (by omega) htg hg0 HR5.out.rowC (fun e=>own_ne HR5.out.rowC HQ5.out (by decide) e.symm) HR5.out.plan HBK5.out (fun W hb=>change86_swap g8 n _ dy p.name p.kind p.first p.last p.wlo p.whi p.on nm kw w1' w2' w3' w4' old dw W (HWD.out.below hb) HL.out.ok.1.1 HL.out.ok.2) ?_
    rintro u46 u47 u48 u49 u50 u51 wx v' A9 c9 ⟨hk3,hpl,hown,hla⟩;have hz:=HZC.out _ (hmc _ (List.mem_singleton.2 rfl));have hrx:=HR5.out.addC HQ5.out hgw HTS.out.1 hk3 hpl hown hla HBK5.out hz.1 hz.2;have HRX:=Lq hrx;clear hrx hk3 hpl hown hla;go_wp2_with fail;go_roundw
    case measure =>
     show strLen (.string r')<strLen (.string r)
     exact HL.out.less
    case rel =>
     refine⟨k+1,ms,cs++[⟨3,dy,old,⟨p,A9,c9⟩⟩],va,v',by omega,by rw[hr'],by rw[HPT.out];simp[LnW.p?],by rw[HCT.out];simp[LnW.c?,csOf,HcM.c],by simp;omega,HRX⟩
  ·obtain rfl:k=lns.length:=by omega
   rw[List.take_of_length_le (lr _)]at hms hcs;have hlast:=HT.out.last;obtain⟨r,hr⟩:=ex (rest lns.length);rw[hr]at hlast ⊢;have hwf:∀c∈cs,Lit.wf (.int .i64 c.what)=true:=fun c hc=>by
    have h:=HC.out c.c (by rw[←hcs];exact List.mem_map_of_mem hc)
    have h1:1≤c.what:=h.1;have h2:c.what≤3:=h.2.1;rcases(show c.what=1∨c.what=2∨c.what=3 by omega)with e | e | e<;>rw[e]<;>rfl
   obtain⟨A,C,cap,capc,rfl,rfl,hpa⟩:=HR.out.planAt hwf;have HPA:=Lq hpa;have HMS:=Lq hms;have HCS:=Lq hcs;have hlk:=HT.out.len;have HCK:=Lq (check68_any A C ms cs wr.heap.size cap capc wr (lr _) hpa.sl hpa.ch hpa.wf);have HTX2:Hid (∀W,BW wr W→Cs 77 #[.agg #[.slice A ms.length cap,.slice C cs.length capc]] W (Rt W (.string s))):=Lq fun W hb=>by
    have h:=text79_any A C cap capc ms cs W (hpa.below hb) (HTAB.out.below (bT HR.out.bw hb) (lr _)) (fun m hm=>HP.out _ (by rw[←hms];exact List.mem_map_of_mem hm)) (fun c hc=>HC.out c.c (by rw[←hcs];exact List.mem_map_of_mem hc)) (by omega) (by omega)
    rw[hms,hcs,HTX.out]at h;exact h
   have d0:=HR.out.plan.c 0;have d1:=HR.out.plan.c 1;clear hms hcs hwf hpa hr;go_wp2_with fail;refine HCK.out.mono ?_;rintro e w2 ⟨p,i,r0,rfl,hr0,hb⟩;rw[HMS.out,HCS.out]at hr0;obtain rfl:=hr0.2 HOK.out;have HB2:=Lq hb;have HR2:=Lq (HR.out.below hb);have e0:=HR2.out.plan.c 0;have e1:=HR2.out.plan.c 1;clear hr0 hb d0 d1;go_wp2_with fail;refine(HTX2.out _ HB2.out).mono ?_;rintro e w3 ⟨rfl,hb⟩;have HR3:=Lq (HR2.out.below hb);have HPA3:=Lq (HPA.out.below (bT HB2.out hb));clear hb e0 e1;go_wp2_with fail;refine(must82_any _).mono ?_;rintro e w4 ⟨rfl,hw4⟩;subst hw4;have htt:t2≠t3:=by have:=HTS.out;omega
   have qp:=HR3.out.plan;have qe:=HR3.out.err;obtain⟨W6,hW6⟩:=ex (((w4.setCell ⟨t2,0,none⟩ (.slice A ms.length cap)).setCell ⟨t2,1,none⟩ (.slice C cs.length capc)).setCell ⟨t3,0,none⟩ (iv 0));have qp6:Blk W6 t2 27 #[.slice A ms.length cap,.slice C cs.length capc]:=by rw[←hW6];exact((qp.set_ 0 _).set_ 1 _).far htt _
   have qe6:Blk W6 t3 29 #[iv 0]:=by rw[←hW6];exact((qe.far (Ne.symm htt) _).far (Ne.symm htt) _).set_ 0 _
   have hb6:BW w4 W6:=by
    refine⟨by rw[←hW6];rfl,by rw[←hW6];rfl,by rw[←hW6];rfl,by rw[←hW6];simp,fun k hk=>?_⟩
    by_cases h2:k=t2
    ·rw[h2];exact qp6.trans qp.symm
    ·by_cases h3:k=t3
     ·rw[h3];exact qe6.trans qe.symm
     ·rw[←hW6,Below.heap_setCell _ _ _ _ h3,Below.heap_setCell _ _ _ _ h2,Below.heap_setCell _ _ _ _ h2]
   have d0:=qp.c 0;have d1:=qp.c 1;have f0:=qp.frozen 0;have f1:=qp.frozen 1;have l0:=qp.lt;have x0:=qe.c 0;have g0:=qe.frozen 0;have l1:=qe.lt;have y0:=qp6.c 0;have y1:=qp6.c 1;have y2:=qe6.c 0;have HPA6:=Lq (HPA3.out.below hb6);have HB6:=Lq (bT HR3.out.bw hb6);clear qp qe qp6 qe6 hb6;go_wp2_with fail;refine leaves_cons (f:=78) (args:=#[.pointer (some ⟨t2,0,none⟩),.pointer (some ⟨t3,0,none⟩)]) (by simp) (by simp[go_sem]) ?_
   refine(catch80_idle t2 t3 _).mono ?_;rintro e u' w'' ⟨rfl,rfl,rfl⟩;simp only[Leaves,settle];exact⟨.tuple #[.agg #[.slice A ms.length cap,.slice C cs.length capc],iv 0],by simp[results,Tryz.results25,go_sem,y0,y1,y2],A,C,cap,capc,ms,cs,rfl,HPA6.out,HMS.out,HCS.out,HB6.out⟩
end
attribute [local go_sem] Oper.semAt_some
theorem words35_same(A B:Option Addr)(l:List ByteArray)(c c':Nat)(w:World)(HA:Rd1 .string w w.heap.size A l)(HB:Rd1 .string w w.heap.size B l)(hl:l.length≤1000000) :
  Cs 31 #[.slice A l.length c,.slice B l.length c'] w (Rt w (.bool true)):=by
 have HSA:Hid (∀W,BW w W→Rd1 .string W w.heap.size A l):=Lq fun W hb=>HA.below hb (lr _)
 have HSB:Hid (∀W,BW w W→Rd1 .string W w.heap.size B l):=Lq fun W hb=>HB.below hb (lr _)
 clear HA HB;go_enter Tryz.func31,Tryz.ntmps31
 go_wp2_with fail;go_loopw [5,6] (fun b i wr=>∃k:Nat,k≤l.length∧i=iv k∧b=.bool true∧Hid (BW w wr)) (fun _ i _=>l.length-(intOf i).toNat)
 case atStart=>exact⟨0,Nat.zero_le _,rfl,rfl,Lq (bR _)⟩
 case round =>
  obtain⟨k,hk,rfl,rfl,HBW⟩:=hrel;have hk0:(0:Int)≤(k:Int):=by omega
  have hkw:IntKind.i64.wrap ((k:Int)+1)=(k:Int)+1:=by rw[IntKind.wrap_i64];omega
  by_cases hlt:k<l.length
  ·obtain⟨x,hx⟩:=gX (l:=l) (i:=k) hlt;have HS:Hid (∀W,BW wr W→(∃b o,A=some ⟨b,o,none⟩∧cA W b (o+k) (.string x))∧(∃b o,B=some ⟨b,o,none⟩∧cA W b (o+k) (.string x))):=Lq fun W hb=>by
    obtain⟨b1,o1,e1,_,h1⟩:=HSA.out W (bT HBW.out hb) k x hx;obtain⟨b2,o2,e2,_,h2⟩:=HSB.out W (bT HBW.out hb) k x hx;exact⟨⟨b1,o1,e1,h1⟩,⟨b2,o2,e2,h2⟩⟩
   obtain⟨⟨b1,o1,rfl,_⟩,⟨b2,o2,rfl,_⟩⟩:=HS.out wr (bR _);have HS2:Hid (∀W,BW wr W→cA W b1 (o1+k) (.string x)∧cA W b2 (o2+k) (.string x)):=Lq fun W hb=>by
    obtain⟨⟨_,_,e1,h1⟩,⟨_,_,e2,h2⟩⟩:=HS.out W hb;injection e1 with e1
    injection e1 with e11 e12
    injection e2 with e2
    injection e2 with e21 e22
    subst e11 e12 e21 e22;exact⟨h1,h2⟩
   clear hx HS;go_wp2_with fail;go_upto_region 5 with fail
   go_region_held3 (fun W=>cA W b1 (o1+k) (.string x)∧cA W b2 (o2+k) (.string x)) (first | exact HS2.out _ (belowDr (bR _)) | exact HS2.out _ (belowDq (bR _))) (first | fail)
   have HBD:Hid (BW w wr.drew):=Lq (bT HBW.out (belowDq (bR wr)));generalize wr.drew=wq at HBD ⊢;have hkl:k+1≤l.length:=hlt;go_wp2_with fail;go_roundw
   case measure=>simp[intOf];omega
   case rel=>exact⟨k+1,hkl,by go_num,rfl,HBD⟩
  ·obtain rfl:k=l.length:=by omega
   go_wp2_with fail;go_ret
   exact⟨rfl,HBW.out⟩
theorem ints36_same(A B:Option Addr)(l:List Int)(c c':Nat)(w:World)(HA:Rd1 iv w w.heap.size A l)(HB:Rd1 iv w w.heap.size B l)(hl:l.length≤1000000) :
  Cs 32 #[.slice A l.length c,.slice B l.length c'] w (Rt w (.bool true)):=by
 have HSA:Hid (∀W,BW w W→Rd1 iv W w.heap.size A l):=Lq fun W hb=>HA.below hb (lr _)
 have HSB:Hid (∀W,BW w W→Rd1 iv W w.heap.size B l):=Lq fun W hb=>HB.below hb (lr _)
 clear HA HB;go_enter Tryz.func32,Tryz.ntmps32
 go_wp2_with fail;go_loopw [5,6] (fun b i wr=>∃k:Nat,k≤l.length∧i=iv k∧b=.bool true∧Hid (BW w wr)) (fun _ i _=>l.length-(intOf i).toNat)
 case atStart=>exact⟨0,Nat.zero_le _,rfl,rfl,Lq (bR _)⟩
 case round =>
  obtain⟨k,hk,rfl,rfl,HBW⟩:=hrel;have hk0:(0:Int)≤(k:Int):=by omega
  have hkw:IntKind.i64.wrap ((k:Int)+1)=(k:Int)+1:=by rw[IntKind.wrap_i64];omega
  by_cases hlt:k<l.length
  ·obtain⟨x,hx⟩:=gX (l:=l) (i:=k) hlt;have HS:Hid (∀W,BW wr W→(∃b o,A=some ⟨b,o,none⟩∧cA W b (o+k) (iv x))∧(∃b o,B=some ⟨b,o,none⟩∧cA W b (o+k) (iv x))):=Lq fun W hb=>by
    obtain⟨b1,o1,e1,_,h1⟩:=HSA.out W (bT HBW.out hb) k x hx;obtain⟨b2,o2,e2,_,h2⟩:=HSB.out W (bT HBW.out hb) k x hx;exact⟨⟨b1,o1,e1,h1⟩,⟨b2,o2,e2,h2⟩⟩
   obtain⟨⟨b1,o1,rfl,_⟩,⟨b2,o2,rfl,_⟩⟩:=HS.out wr (bR _);have HS2:Hid (∀W,BW wr W→cA W b1 (o1+k) (iv x)∧cA W b2 (o2+k) (iv x)):=Lq fun W hb=>by
    obtain⟨⟨_,_,e1,h1⟩,⟨_,_,e2,h2⟩⟩:=HS.out W hb;injection e1 with e1
    injection e1 with e11 e12
    injection e2 with e2
    injection e2 with e21 e22
    subst e11 e12 e21 e22;exact⟨h1,h2⟩
   clear hx HS;go_wp2_with fail;go_upto_region 5 with fail
   go_region_held3 (fun W=>cA W b1 (o1+k) (iv x)∧cA W b2 (o2+k) (iv x)) (first | exact HS2.out _ (belowDr (bR _)) | exact HS2.out _ (belowDq (bR _))) (first | fail)
   have HBD:Hid (BW w wr.drew):=Lq (bT HBW.out (belowDq (bR wr)));generalize wr.drew=wq at HBD ⊢;have hkl:k+1≤l.length:=hlt;go_wp2_with fail;go_roundw
   case measure=>simp[intOf];omega
   case rel=>exact⟨k+1,hkl,by go_num,rfl,HBD⟩
  ·obtain rfl:k=l.length:=by omega
   go_wp2_with fail;go_ret
   exact⟨rfl,HBW.out⟩
attribute [local go_sem] Oper.semAt_some
theorem equal87_same(pn:ByteArray)(pk pf pl pw pz:Int)(pon:List ByteArray)(A B:Option Addr)(c c':Nat)(w:World)(HA:Rd1 .string w w.heap.size A pon)(HB:Rd1 .string w w.heap.size B pon)(hl:pon.length≤1000000) :
  Cs 85 #[.agg #[.string pn,iv pk,iv pf,iv pl,.slice A pon.length c,iv pw,iv pz],.agg #[.string pn,iv pk,iv pf,iv pl,.slice B pon.length c',iv pw,iv pz]] w (Rt w (.bool true)):=by
 obtain⟨W1,hW1⟩:=ex (w.alloc (.cells #[.string pn,iv pk,iv pf,iv pl,.slice A pon.length c,iv pw,iv pz] 43));obtain⟨W2,hW2⟩:=ex (W1.alloc (.cells #[.string pn,iv pk,iv pf,iv pl,.slice B pon.length c',iv pw,iv pz] 43));obtain⟨g2,hg2⟩:=ex w.heap.size;obtain⟨g3,hg3⟩:=ex W1.heap.size;have b1:BW w W1:=by rw[←hW1];exact bA (bR w) _
 have b2:BW W1 W2:=by rw[←hW2];exact bA (bR _) _
 have q1:Blk W1 g2 43 #[.string pn,iv pk,iv pf,iv pl,.slice A pon.length c,iv pw,iv pz]:=by rw[←hW1,←hg2];exact Blk.new w 43 _
 have q2:Blk W2 g3 43 #[.string pn,iv pk,iv pf,iv pl,.slice B pon.length c',iv pw,iv pz]:=by rw[←hW2,←hg3];exact Blk.new W1 43 _
 have q12:=q1.keep b2;obtain⟨d0,d1,d2,d3,d4,d5,d6⟩:=q12.c7;obtain⟨e0,e1,e2,e3,e4,e5,e6⟩:=q2.c7;have HBB:=Lq (bT b1 b2);have HW:=Lq (words35_same A B pon c c' W2 ((HA.below (bT b1 b2) (lr _)).more (bT b1 b2).size) ((HB.below (bT b1 b2) (lr _)).more (bT b1 b2).size) hl);clear b1 b2 q1 q2 q12 HA HB hl;go_enter Tryz.func85,Tryz.ntmps85
 go_wp2_with fail;refine HW.out.mono ?_;rintro e w3 ⟨rfl,hb⟩;have HB3:=Lq (bT HBB.out hb);clear hb;go_wp2_with fail;go_ret
 exact⟨rfl,HB3.out⟩
end Go.Proofs.YtigcophcpboanaaGreatDoor
