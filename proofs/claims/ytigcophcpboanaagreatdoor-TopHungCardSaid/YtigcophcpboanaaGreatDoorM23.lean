/- TopHung's own walk (printed by mkHU2.py). -/
import Derived.Test.YtigcophcpboanaaGreatDoorM9
import Derived.Test.YtigcophcpboanaaGreatDoorM21
import Derived.Test.YtigcophcpboanaaGreatDoorM22
set_option maxRecDepth 1000000
set_option maxHeartbeats 0
namespace Go.Proofs.YtigcophcpboanaaGreatDoor
open Go.RowKit
def prtP(p:HuP):Prt:=⟨p.name,p.wlo,p.whi⟩
theorem Tryz.info45h:(Tryz.prog.info? 45).map (fun i=>(i.zero,i.size,i.bytes))=some (some (.agg #[.string ⟨#[]⟩,iv 0,iv 0]),3,32):=by kernel_rfl
theorem Tryz.info47h:(Tryz.prog.info? 47).map (fun i=>(i.zero,i.size,i.bytes))=some (some (.agg #[iv 0,iv 0]),2,16):=by kernel_rfl
theorem fiveMade(wr:World)(t:TypeId)(a0 a1 a2 a3 a4 b0 b1 b2 b3 b4:Value):∃Wa W2,wr.alloc (.cells #[a0,a1,a2,a3,a4] t)=Wa∧(((((Wa.setCell ⟨wr.heap.size,0,none⟩ b0).setCell ⟨wr.heap.size,1,none⟩ b1).setCell ⟨wr.heap.size,2,none⟩ b2).setCell ⟨wr.heap.size,3,none⟩ b3).setCell ⟨wr.heap.size,4,none⟩ b4)=W2∧BW wr W2∧Blk Wa wr.heap.size t #[a0,a1,a2,a3,a4]∧BW wr Wa∧Blk W2 wr.heap.size t #[b0,b1,b2,b3,b4]:=by
 refine⟨_,_,rfl,rfl, ?_,Blk.new wr t _,bA (bR _) _, ?_⟩
 ·exact((((((OnlyAt.of_below (bR _) wr.heap.size).set 0 _).set 1 _).set 2 _).set 3 _).set 4 _).below (bA (bR _) _) (lr _)
 ·have h:=((((((Blk.new wr t #[a0,a1,a2,a3,a4]).set_ 0 b0).set_ 1 b1).set_ 2 b2).set_ 3 b3).set_ 4 b4)
  simpa using h
theorem topHung_any(A C:Option Addr)(ms:List HuM)(cs:List HcM)(cap capc:Nat)(xd xk mm:Int)(w:World)(HM:SlM w w.heap.size A cap ms)(HC:SlC w w.heap.size C capc cs)(HW:∀c∈cs,Lit.wf (.int .i64 c.what)=true)(hxd:0≤xd∧xd≤65535)(hxk:0≤xk∧xk≤255)(HP:PowTab w)(HL:w.cell? ⟨0,0,none⟩=some (iv mm)) :
  Cs 3 #[.agg #[.slice A ms.length cap,.slice C cs.length capc],.int .u16 xd,.int .u8 xk] w (Rt w (.bool true)):=by
 obtain⟨W3,hW3⟩:=ex (w.alloc (.cells #[.slice A ms.length cap,.slice C cs.length capc] 27));obtain⟨gp,hgp⟩:=ex w.heap.size;have b3:BW w W3:=by rw[←hW3];exact bA (bR w) _
 have q1:Blk W3 gp 27 #[.slice A ms.length cap,.slice C cs.length capc]:=by rw[←hW3,←hgp];exact Blk.new w 27 _
 have HB3:=Lq b3;have HQP:Hid (∀W,BW W3 W→Blk W gp 27 #[.slice A ms.length cap,.slice C cs.length capc]):=Lq fun W hb=>q1.keep hb
 have HAW5:Hid (∀W,BW w W→Cs 5 #[] W (Rt W (.bool true))):=Lq fun W hb=>awake6_any mm W (HP.below hb (lr _)) (kC hb HL)
 have HAW6:Hid (∀W,Cs 6 #[] W (Rt W (.bool true))):=Lq awake_any;have HC4:Hid (Cs 4 #[.agg #[.slice A ms.length cap,.slice C cs.length capc]] W3 (Chk3 (PlanOk (psOf ms) (csOf cs)) W3)):=Lq (check4_any A C ms cs w.heap.size cap capc W3 b3.size (HM.below b3 (lr _)) (HC.below b3 (lr _)));have HMM:Hid (∀W,BW w W→SlM W w.heap.size A cap ms∧SlC W w.heap.size C capc cs):=Lq fun W hb=>⟨HM.below hb (lr _),HC.below hb (lr _)⟩
 have HWW:=Lq HW;have x0:=q1.c 0;have x1:=q1.c 1;clear HM HC HW HP HL b3 q1;go_enter Tryz.func3,Tryz.ntmps3
 go_wp2_with fail;clear hW3 hgp;refine HC4.out.mono ?_;rintro e w4 ⟨p1,i1,r1,rfl,hiff,hb⟩;have HR1:=Lq hiff;have X4:=Lq hb;have Y4:=Lq (bT HB3.out hb);clear hb hiff x0 x1 HC4;by_cases h1:r1=0
 case neg =>
  have h1b:(r1 != 0)=true:=by simpa using h1
  go_wp2_with fail;refine(HAW5.out _ Y4.out).mono ?_;rintro e v8 ⟨rfl,hb⟩;have Y8:=Lq (bT Y4.out hb);clear hb;go_wp2_with fail;refine(HAW6.out _).mono ?_;rintro e v9 ⟨rfl,hb⟩;have Y9:=Lq (bT Y8.out hb);clear hb;go_wp2_with fail;go_ret
  exact⟨rfl,Y9.out⟩
 subst h1;have HPL:=Lq (HR1.out.1 rfl);clear HR1;obtain⟨dy,hdy⟩:=ex (xd%40001);have hdm:xd.tmod 40001=dy:=by rw[←hdy];exact Int.tmod_eq_emod_of_nonneg hxd.1
 have hdy0:0≤dy∧dy≤40000:=by omega
 have hdb:inB 0 40000 dy=true:=by unfold inB;simp;omega
 have HDB:=Lq hdb;have HS7:Hid (Cs 7 #[.agg #[.slice A ms.length cap,.slice C cs.length capc],iv dy] w4 (OpenPost ms cs dy w4)):=Lq (ship8_any A C ms cs w.heap.size cap capc dy w4 Y4.out.size (HMM.out _ Y4.out).1 (HMM.out _ Y4.out).2 HWW.out);have z:=HQP.out _ X4.out;obtain⟨x0,x1⟩:=z.c2;clear z hdb;go_wp2_with fail;clear x0 x1;refine HS7.out.mono ?_;rintro e w7 ⟨r,A7,n7,c7,rfl,hb,hiff,hyes⟩;obtain rfl:r=0:=hiff.2 ⟨HPL.out,HDB.out⟩;obtain⟨whole,rfl,hpo,hsl⟩:=hyes rfl;clear hiff hyes;obtain⟨Wa,W8,hWa,hW8,hb8,hqa,hba,hq8⟩:=oneMade w7 24 (.slice none 0 0) (.slice A7 whole.length c7);obtain⟨g11,hg11⟩:=ex w7.heap.size;rw[hg11]at hW8 hqa hq8;have X8:=Lq (bT X4.out (bT hb hb8));have Y8:=Lq (bT HB3.out X8.out);have HQ11:=Lq hq8;have HSL:=Lq ((hsl.below hb8 (lr _)).more hb8.size);have HPO:=Lq hpo;have HSO:Hid (ShipOk (psOf whole)):=Lq (hpo▸shipOn_ok HPL.out dy);have af:=hqa.frozen 0;have ac:=hqa.c 0;have al:=hqa.lt;clear hb hpo hsl hb8 hqa hba hq8 HS7;obtain⟨Wb,W9,hWb,hW9,hb9,hqb,hbb,hq9⟩:=fiveMade W8 40 (.slice none 0 0) (.slice none 0 0) (iv 0) (iv 0) (iv 0) (.slice none 0 0) (.slice none 0 0) (iv 1000) (iv 1000) (iv 1);obtain⟨g12,hg12⟩:=ex W8.heap.size;rw[hg12]at hW9 hqb hq9;have X9:=Lq (bT X8.out hb9);have Y9:=Lq (bT Y8.out hb9);have HB9:=Lq hb9;have HQ12:=Lq hq9;have HG12:Hid (W8.heap.size≤g12∧g11<g12):=Lq ⟨Nat.le_of_eq hg12,by rw[←hg12];exact HQ11.out.lt⟩
 obtain⟨f0,f1,f2,f3,f4⟩:=hqb.f5;obtain⟨e0,e1,e2,e3,e4⟩:=hqb.c5;have bl:=hqb.lt;clear hb9 hqb hbb hq9;go_wp2_with fail;clear af ac al f0 f1 f2 f3 f4 e0 e1 e2 e3 e4 bl hWa hW8 hWb hW9 hg11 hg12;obtain⟨ps,hps⟩:=ex (psOf whole);have HPS:=Lq hps;have hlen:whole.length=ps.length:=by rw[←hps];simp
 have hmx:whole.length≤12:=by have:=HSO.out.len;simpa using this
 have HLEN:=Lq hlen;go_loopw [13] (fun vi wr=>∃(i:Nat) (vP vJ:Value),i≤whole.length∧vi=iv i∧Hid (wr.ownsRow W9.heap.size 45 3 vP i (((ps.take i).map prtP).flatMap encPrt))∧Hid (wr.ownsRow W9.heap.size 47 2 vJ (jsTo ps i).length ((jsTo ps i).flatMap encSp))∧Hid (Blk wr g12 40 #[vP,vJ,iv 1000,iv 1000,iv 1])∧Hid (OnlyAt W9 wr g12)) (fun vi _=>whole.length-(intOf vi).toNat)
 case atStart=>exact⟨0,_,_,Nat.zero_le _,rfl,Lq (World.ownsRow_nil _ _ _ _),Lq (World.ownsRow_nil _ _ _ _),HQ12,Lq (OnlyAt.refl _ _)⟩
 case round =>
  obtain⟨i,vP,vJ,hin,rfl,OWP,OWJ,KB,HO⟩:=hrel;have hi0:(0:Int)≤(i:Int):=by omega
  have hbr:BW W8 wr:=HO.out.below HB9.out HG12.out.1;have HBR:=Lq hbr;have x0:=(HQ11.out.keep hbr).c 0;by_cases hlt:i<whole.length
  case neg =>
   obtain rfl:i=whole.length:=by omega
   have OWPe:Hid (wr.ownsRow W9.heap.size 45 3 vP (ps.map prtP).length ((ps.map prtP).flatMap encPrt)):=Lq (by
    have h:=OWP.out;rw[HLEN.out,List.take_length]at h
    simpa using h)
   obtain⟨JP,capP,eP,RP, -,leP,maxP⟩:=own_rdN (encs:=encPrt) (k:=3) (fun _=>rfl) OWPe.out
   have OWJe:Hid (wr.ownsRow W9.heap.size 47 2 vJ (jsTo ps ps.length).length ((jsTo ps ps.length).flatMap encSp)):=Lq (HLEN.out▸OWJ.out);obtain⟨JJ,capJ,eJ,RJ, -,leJ,maxJ⟩:=own_rdN (encs:=encSp) (k:=2) (fun _=>rfl) OWJe.out
   obtain⟨H,hH⟩:=ex (hullOf ps);have hHp:H.ps=ps.map prtP:=by rw[←hH];rfl
   have hHj:H.js=jsTo ps ps.length:=by rw[←hH];rfl
   obtain⟨n,hn⟩:=ex whole.length;obtain⟨m,hm⟩:=ex H.js.length;have hnp:H.ps.length=n:=by rw[hHp,List.length_map,←HLEN.out,hn]
   have hHV:hv H JP capP JJ capJ=.agg #[.slice JP n capP,.slice JJ m capJ,iv 1000,iv 1000,iv 1]:=by unfold hv;rw[hnp,hm,←hH];rfl
   have hnm:∀p∈H.ps,p.name.size≤maxLen:=fun p hp=>by rw[hHp,←HPS.out]at hp;obtain⟨q,hq,rfl⟩:=List.mem_map.1 hp;obtain⟨y,hy,rfl⟩:=List.mem_map.1 hq;exact(HSL.out.rd.ok y hy).nm
   have HUL:Hid (∀W,BW wr W→HulRd W wr.heap.size H JP capP JJ capJ):=Lq fun W hb=>HulRd.below ⟨hHp▸RP,hHj▸RJ,by rw[hHp];exact leP,maxP,by rw[hHj];exact leJ,maxJ,hnm⟩ hb (lr _)
   have HQE:Hid (Blk wr g12 40 #[.slice JP n capP,.slice JJ m capJ,iv 1000,iv 1000,iv 1]):=Lq (by have h:=KB.out;rw[eP,eJ,←hHp,←hHj,hnp,hm]at h;exact h)
   have HC9:Hid (Cs 9 #[.agg #[.slice JP n capP,.slice JJ m capJ,iv 1000,iv 1000,iv 1]] wr fun e w'=>e=.returned (ret3 (checkE H))∧BW wr w'):=Lq (hHV▸refCheck_any H JP JJ wr.heap.size capP capJ wr (HUL.out wr (bR _)) (lr _))
   have HHV:=Lq hHV;have HHH:=Lq hH;have HNP:=Lq hnp;have XE:=Lq (bT X8.out hbr);have HOE:=Lq hbr;have YE:=Lq (bT Y8.out hbr);obtain⟨e0,e1,e2,e3,e4⟩:=HQE.out.c5;clear OWPe OWJe eP RP leP maxP eJ RJ leJ maxJ hHp hHj hnm hHV hH hnp hm OWP OWJ KB HO hbr;rw[hn]at x0 ⊢;have HN:=Lq hn;clear hn hlen hlt hin hmx hi0;go_wp2_with fail;clear x0 e0 e1 e2 e3 e4;refine HC9.out.mono ?_;rintro e w19 ⟨rfl,hb⟩;obtain⟨⟨k1,k2,k3⟩,hck⟩:=ex (checkE H);rw[hck];have HCK:=Lq hck;have HB19:=Lq hb;have X19:=Lq (bT XE.out hb);have Y19:=Lq (bT YE.out hb);clear hb hck HC9;unfold ret3;by_cases h3:k3=0
   case neg =>
    have h3b:(k3 != 0)=true:=by simpa using h3
    go_wp2_with fail;refine(HAW5.out _ Y19.out).mono ?_;rintro e v8 ⟨rfl,hb⟩;have Y8:=Lq (bT Y19.out hb);clear hb;go_wp2_with fail;refine(HAW6.out _).mono ?_;rintro e v9 ⟨rfl,hb⟩;have Y9:=Lq (bT Y8.out hb);clear hb;go_wp2_with fail;go_ret
    exact⟨rfl,Y9.out⟩
   subst h3;have hop:openPre H []=0:=openPre_nil (by rw[HCK.out])
   have hok:=hulOk (h:=H) (by rw[HCK.out])
   have hn1:1≤n:=HNP.out▸hok.n1;have hn8:n≤8:=HNP.out▸hok.n8;have HOP:=Lq hop;obtain⟨t,ht⟩:∃k:Nat,xk%(n:Int)=(k:Int):=⟨(xk%(n:Int)).toNat,(Int.toNat_of_nonneg (Int.emod_nonneg _ (by omega))).symm⟩
   have htl:t<n:=by have:=Int.emod_lt_of_pos xk (show 0<(n:Int)by omega);omega
   have kt:xk.tmod (n:Int)=(t:Int):=by rw[←ht];exact Int.tmod_eq_emod_of_nonneg hxk.1
   have ln0:((n:Int)=0)=False:=eq_false (by omega)
   have hb19:BW W8 w19:=bT HOE.out HB19.out;obtain⟨y,hy⟩:=gX (l:=whole) (i:=t) (by rw[HN.out];exact htl)
   obtain⟨b7,o7,rfl,hb7,hMy,c0,c9⟩:=(HSL.out.below hb19 (lr _)).rd.at hy;obtain⟨nm,hnm⟩:=ex y.p.name;rw[hnm]at c0;have hyp:ps[t]?=some y.p:=by rw[←HPS.out];exact ps_at hy
   have HYP:=Lq hyp;have HNM:=Lq hnm;have hhp:hasP ps nm=true:=hasP_iff.2 ⟨y.p,mG ⟨t,hyp⟩,by rw[hnm]⟩
   have HHP:=Lq hhp;have x0:w19.cell? ⟨g11,0,none⟩=some (.slice (some ⟨b7,o7,none⟩) n c7):=by rw[←HN.out];exact(HQ11.out.keep hb19).c 0
   have HAB:Hid (∀W,BW w19 W→Cs 10 #[.agg #[.slice A ms.length cap,.slice C cs.length capc],iv dy,.string nm] W (AbovePost ms cs dy nm W)):=Lq fun W hb=>above9_any A C ms cs w.heap.size cap capc dy nm W (bT Y19.out hb).size (HMM.out _ (bT Y19.out hb)).1 (HMM.out _ (bT Y19.out hb)).2 HWW.out
   have HSA:Hid (∀W,BW w19 W→cA W gp 0 (.slice A ms.length cap)∧cA W gp 1 (.slice C cs.length capc)∧cA W g11 0 (.slice (some ⟨b7,o7,none⟩) n c7)∧cA W b7 (o7+t*7) (.string nm)):=Lq fun W hb=>⟨(HQP.out _ (bT X19.out hb)).c 0,(HQP.out _ (bT X19.out hb)).c 1,kC hb x0,kC hb c0⟩
   have ht0:(0:Int)≤(t:Int):=by omega
   have htz:(t:Int)<(n:Int):=by omega
   clear hb7 hMy c9 c0 hy hnm hyp hhp hop hok hb19 ht;go_wp2_with fail;clear x0 kt ln0;go_upto_region 23 with fail
   refine go0 (ops:=ops3_23) (r:=23) (n:=14) (S:=fun W=>cA W gp 0 (.slice A ms.length cap)∧cA W gp 1 (.slice C cs.length capc)∧cA W g11 0 (.slice (some ⟨b7,o7,none⟩) n c7)∧cA W b7 (o7+t*7) (.string nm)) HSA.out fun V0 HB0 hHeld=>?_
   refine tk 0 (.agg #[.slice A ms.length cap,.slice C cs.length capc]) ?_;refine tk 1 (iv dy) ?_;refine tk 2 (.pointer (some ⟨g11,0,none⟩)) ?_;refine tk 3 (.slice (some ⟨b7,o7,none⟩) n c7) ?_;refine tk 4 (iv t) ?_;refine tk 5 (.pointer (some ⟨b7,o7+t*7,none⟩)) ?_;refine tk 6 (.pointer (some ⟨b7,o7+t*7,none⟩)) ?_;refine tk 7 (.string nm) ?_;refine rd1 8 fun K' hK=>?_
   go_simp;refine(HAB.out _ HB0.out).mono ?_;rintro e w7 ⟨va,ra,na,la,rfl,hb,hrow,hna,hiff,hyes,hno⟩;obtain rfl:ra=0:=hiff.2 ⟨⟨HPL.out,HDB.out⟩,by rw[←HPO.out,HPS.out];exact HHP.out⟩
   have hla:=hyes rfl;rw[←HPO.out,HPS.out]at hla;subst hna;obtain⟨Av,cv,rfl,RA,leA,maxA⟩:=own_str hrow;have hb7:=bT HB0.out hb;have HB23:=Lq hb7;have X23:=Lq (bT X19.out hb7);have Y23:=Lq (bT Y19.out hb7);have HLA:=Lq hla;have HRA:Hid (∀W,BW w7 W→Rd1 .string W w7.heap.size Av la∧la.length≤maxLen):=Lq fun W hb=>⟨RA.below hb (lr _),lT leA maxA⟩
   obtain⟨na,hna⟩:=ex la.length;rw[hna];have HNA:=Lq hna;refine hK.out _ _ (HSA.out _ HB23.out) (fun hHeld=>?_)
   clear hK hb hb7 hrow hiff hyes hno hla RA leA maxA hna HB0;refine tk 9 (.tuple #[.slice Av na cv,iv 0]) ?_;refine tk 10 (.slice Av na cv) ?_;refine tk 11 (iv 0) ?_;refine tk 12 (.slice Av na cv) ?_;refine tk 13 (iv 0) ?_;refine wpAnyH_done (by kernel_rfl) ?_ _
   refine NoPanic.normal ?_;clear hHeld HAB HSA;obtain⟨Wa,W24,hWa,hW24,hb24,hqa,hba,hq24⟩:=twoMade w7 36 (iv 0) (iv 0) (iv 0) (iv 0);obtain⟨g22,hg22⟩:=ex w7.heap.size;rw[hg22]at hW24 hqa hq24;have HQ22:=Lq hq24;have HG22:Hid (w7.heap.size≤g22):=Lq (Nat.le_of_eq hg22);have HB24:=Lq hb24;obtain⟨f0,f1⟩:=hqa.f2;obtain⟨e0,e1⟩:=hqa.c2;have el:=hqa.lt;clear hb24 hqa hba hq24;go_wp2_with fail;clear f0 f1 e0 e1 el hWa hW24 hg22;obtain⟨b,hbd⟩:=ex (inSet ps t nm);obtain⟨wl,hwl⟩:=ex (wf HuP.wlo ps);obtain⟨wh,hwh⟩:=ex (wf HuP.whi ps);have HBD:=Lq hbd;have HWL:=Lq hwl;have HWH:=Lq hwh;have X87:Hid (BW W8 w7):=Lq (bT HOE.out (bT HB19.out HB23.out));have HLN:Hid (ps.length=n):=Lq (HLEN.out▸HN.out);have HPA:Hid (∀V e w',PullPost H [] (setTo b n:Nat) V e w'→BW V w'∧e=.returned (.tuple #[.agg #[iv (sumTo wl b n),iv (sumTo wh b n)],iv 0])):=Lq fun V e w' hp=>by
    have h:=pull_above (l:=ps) (k:=t) (x:=y.p) (V:=V) (e:=e) (w':=w') (HPS.out▸HSO.out) (by rw[HLN.out];exact hn8) HYP.out (by rw[HHH.out];exact HOP.out)
    rw[HNM.out,HBD.out,HWL.out,HWH.out,HLN.out,HHH.out]at h;exact h hp
   obtain⟨BH,hBH⟩:=ex wr.heap.size;have HUL2:Hid (∀W,BW w7 W→HulRd W BH H JP capP JJ capJ∧BH≤W.heap.size):=Lq fun W hb=>⟨hBH▸HUL.out W (bT HB19.out (bT HB23.out hb)),hBH▸(bT HB19.out (bT HB23.out hb)).size⟩
   clear hBH;have HQE2:Hid (∀W,BW w7 W→Blk W g12 40 #[.slice JP n capP,.slice JJ m capJ,iv 1000,iv 1000,iv 1]):=Lq fun W hb=>HQE.out.keep (bT HB19.out (bT HB23.out hb))
   clear hbd hwl hwh;go_loopw [21,23] (fun vs vi wr=>∃i:Nat,i≤n∧vs=iv (setTo b i:Nat)∧vi=iv i∧Hid (Blk wr g22 36 #[iv (sumTo wl b i),iv (sumTo wh b i)])∧Hid (OnlyAt W24 wr g22)) (fun _ vi _=>n-(intOf vi).toNat)
   case atStart=>exact⟨0,Nat.zero_le _,rfl,rfl,HQ22,Lq (OnlyAt.refl _ _)⟩
   case round =>
    obtain⟨i,hin,rfl,rfl,KS,HO⟩:=hrel;have hi0:(0:Int)≤(i:Int):=by omega
    have hbr:BW w7 wr:=HO.out.below HB24.out HG22.out;have HBR:=Lq hbr;have x0:wr.cell? ⟨g11,0,none⟩=some (.slice (some ⟨b7,o7,none⟩) n c7):=by rw[←HN.out];exact(HQ11.out.keep (bT X87.out hbr)).c 0
    by_cases hlt:i<n
    case neg =>
     obtain rfl:i=n:=by omega
     have XQ:=Lq (bT X23.out hbr);have YQ:=Lq (bT Y23.out hbr);have HP12:Hid (∀W,BW wr W→∀st:Nat,Cs 12 #[.agg #[.slice JP i capP,.slice JJ m capJ,iv 1000,iv 1000,iv 1],.slice none 0 0,iv (st:Nat)] W (PullPost H [] (st:Nat) W)):=Lq fun W hb st=>by have h:=pull_any H JP JJ BH capP capJ none [] 0 (st:Nat) W (HUL2.out W (bT HBR.out hb)).1 RdN.nil (lr _) (HUL2.out W (bT HBR.out hb)).2;rw[HHV.out]at h;exact h
     obtain⟨sl,hsl⟩:=ex (sumTo wl b i);obtain⟨sh,hsh⟩:=ex (sumTo wh b i);obtain⟨st,hst⟩:=ex (setTo b i);have hpa:=HPA.out;rw[hsl,hsh,hst]at hpa;have HP1:Hid (Cs 12 #[.agg #[.slice JP i capP,.slice JJ m capJ,iv 1000,iv 1000,iv 1],.slice none 0 0,iv (st:Nat)] wr fun e w'=>e=.returned (.tuple #[.agg #[iv sl,iv sh],iv 0])∧BW wr w'):=Lq ((HP12.out wr (bR _) st).mono fun e w' hp=>⟨(hpa _ _ _ hp).2,(hpa _ _ _ hp).1⟩)
     have HKS:Hid (∀W,BW wr W→Blk W g22 36 #[iv sl,iv sh]):=Lq fun W hb=>by rw[←hsl,←hsh];exact KS.out.keep hb
     have HQF:Hid (∀W,BW wr W→Blk W g12 40 #[.slice JP i capP,.slice JJ m capJ,iv 1000,iv 1000,iv 1]):=Lq fun W hb=>HQE2.out W (bT HBR.out hb)
     have HX0:Hid (∀W,BW wr W→cA W g11 0 (.slice (some ⟨b7,o7,none⟩) i c7)):=Lq fun W hb=>kC hb x0
     rw[hst];obtain⟨e0,e1,e2,e3,e4⟩:_∧_∧_∧_∧_:=⟨(HQF.out wr (bR _)).c 0,(HQF.out wr (bR _)).c 1,(HQF.out wr (bR _)).c 2,(HQF.out wr (bR _)).c 3,(HQF.out wr (bR _)).c 4⟩;clear hpa hsl hsh hst KS HO hbr;go_wp2_with fail;clear x0 e0 e1 e2 e3 e4;refine HP1.out.mono ?_;rintro e w31 ⟨rfl,hb⟩;obtain⟨Wy,W32,hWy,hW32,hb32,hqy,hby,hq32⟩:=twoMade w31 36 (iv 0) (iv 0) (iv sl) (iv sh);obtain⟨g25,hg25⟩:=ex w31.heap.size;rw[hg25]at hW32 hqy hq32;obtain⟨f0,f1⟩:=hqy.f2;obtain⟨e0,e1⟩:=hqy.c2;have el:=hqy.lt;obtain⟨d0,d1⟩:=hq32.c2;have ks:=HKS.out _ (bT hb hb32);obtain⟨s0,s1⟩:=ks.c2;have HB32:=Lq (bT hb hb32);clear hb hb32 hqy hby hq32 ks HP1;go_upto_region 34 with fail
     clear f0 f1 e0 e1 el d0 d1 s0 s1 hWy hW32 hg25;have hp8:2^i≤2^8:=Nat.pow_le_pow_right (by decide) hn8
     have hpos:0<2^i:=Nat.two_pow_pos i;obtain⟨P2,hP2⟩:=ex (2^i);obtain⟨lo,hlo⟩:=ex (loWs 0 40 ps);obtain⟨hi,hhi⟩:=ex (hiWs 0 40 ps);have HT11:Hid (∀W,Cs 11 #[iv i] W fun e w'=>e=.returned (iv (P2:Nat))∧W=w'):=Lq fun W=>hP2▸bit_any i W (by omega)
     rw[hP2]at hp8 hpos;have hq:IntKind.i64.wrap ((P2:Int)-1)=((P2-1:Nat):Int):=by rw[IntKind.wrap_i64];omega
     have HPQ:Hid (∀W,BW W32 W→Cs 12 #[.agg #[.slice JP i capP,.slice JJ m capJ,iv 1000,iv 1000,iv 1],.slice none 0 0,iv ((P2-1:Nat):Int)] W fun e w'=>∃x y r,e=.returned (.tuple #[.agg #[iv x,iv y],iv r])∧((x=lo∧y=hi∧r=0)∨(x=0∧y=0∧r=6))∧BW W w'):=Lq fun W hb=>(HP12.out W (bT HB32.out hb) (P2-1)).mono fun e w' hp=>by
      have h:=pull_all (l:=ps) (V:=W) (e:=e) (w':=w') (HPS.out▸HSO.out) (by rw[HLN.out];exact hn8) (by rw[HLN.out];exact hn1) (by rw[HHH.out];exact HOP.out)
      rw[HLN.out,HHH.out,hP2,hlo,hhi]at h;obtain⟨h1,h2 | h2⟩:=h hp
      ·exact⟨lo,hi,0,h2,.inl ⟨rfl,rfl,rfl⟩,h1⟩
      ·exact⟨0,0,6,h2,.inr ⟨rfl,rfl,rfl⟩,h1⟩
     refine reg3_34 (g11:=g11) (g12:=g12) (n:=i) (m:=m) (cP:=capP) (cJ:=capJ) (c7:=c7) (JP:=JP) (JJ:=JJ) (AW:=some ⟨b7,o7,none⟩) (p:=(P2:Int)) (q:=((P2-1:Nat):Int)) (C:=fun x y r=>(x=lo∧y=hi∧r=0)∨(x=0∧y=0∧r=6)) hq HT11 HPQ (Lq fun W hb=>?_) (Lq ?_)
     ·have k:=HQF.out W (bT HB32.out hb);exact⟨k.c 0,k.c 1,k.c 2,k.c 3,k.c 4,HX0.out W (bT HB32.out hb)⟩
     intro gn x y r u192 u193 u194 u195 u196 u197 u198 u191 u199 u200 w34 ⟨hgn,hb34,hk34,hc⟩;have KG:=Lq hk34;have HB34:=Lq (bT HB32.out hb34);have X34:=Lq (bT XQ.out HB34.out);have Y34:=Lq (bT YQ.out HB34.out);have HC34:=Lq hc;have HWP:Hid (Cs 13 #[.agg #[.slice A ms.length cap,.slice C cs.length capc],iv dy,iv 0,iv 40] w34 (WeighPost ms cs dy 0 40 w34)):=Lq (weigh10_any A C ms cs w.heap.size cap capc dy 0 40 w34 Y34.out.size (HMM.out _ Y34.out).1 (HMM.out _ Y34.out).2 HWW.out);have z:=HQP.out _ X34.out;obtain⟨x0,x1⟩:=z.c2;clear z hgn hb34 hk34 hc hq hp8 hpos hP2 HT11 HPQ;go_wp2_with fail;clear x0 x1;refine HWP.out.mono ?_;rintro e w35 ⟨lo2,hi2,r9,rfl,hb,hiff,hyes⟩;obtain rfl:r9=0:=hiff.2 ⟨⟨HPL.out,HDB.out⟩,by decide,by decide⟩
     obtain⟨rfl,rfl⟩:=hyes rfl;rw[←HPO.out,HPS.out,hlo,hhi];obtain⟨Wz,W36,hWz,hW36,hb36,hqz,hbz,hq36⟩:=twoMade w35 36 (iv 0) (iv 0) (iv lo) (iv hi);obtain⟨g29,hg29⟩:=ex w35.heap.size;rw[hg29]at hW36 hqz hq36;obtain⟨f0,f1⟩:=hqz.f2;obtain⟨e0,e1⟩:=hqz.c2;have el:=hqz.lt;obtain⟨d0,d1⟩:=hq36.c2;have kg:=KG.out.keep (bT hb hb36);obtain⟨s0,s1⟩:=kg.c2;have Y36:=Lq (bT Y34.out (bT hb hb36));clear hb hb36 hqz hbz hq36 kg hiff hyes hlo hhi HWP;rcases HC34.out with⟨rfl,rfl,rfl⟩ | ⟨rfl,rfl,rfl⟩
     ·go_wp2_with fail;refine(HAW5.out _ Y36.out).mono ?_;rintro e v8 ⟨rfl,hb⟩;have Y8:=Lq (bT Y36.out hb);clear hb;go_wp2_with fail;refine(HAW6.out _).mono ?_;rintro e v9 ⟨rfl,hb⟩;have Y9:=Lq (bT Y8.out hb);clear hb;go_wp2_with fail;go_ret
      exact⟨rfl,Y9.out⟩
     ·go_wp2_with fail;refine(HAW5.out _ Y36.out).mono ?_;rintro e v8 ⟨rfl,hb⟩;have Y8:=Lq (bT Y36.out hb);clear hb;go_wp2_with fail;refine(HAW6.out _).mono ?_;rintro e v9 ⟨rfl,hb⟩;have Y9:=Lq (bT Y8.out hb);clear hb;go_wp2_with fail;go_ret
      exact⟨rfl,Y9.out⟩
    obtain⟨y,hy⟩:=gX (l:=whole) (i:=i) (by rw[HN.out];exact hlt)
    have hyp:ps[i]?=some y.p:=by rw[←HPS.out];exact ps_at hy
    obtain⟨b8,o8,hA8,hb8,hMy,c0,c1,c2,c3,c4,c5,c6⟩:=(HSL.out.below (bT X87.out hbr) (lr _)).rd.at hy;injection hA8 with hA8
    injection hA8 with e1 e2
    subst e1 e2;have hon:=above_one (HPS.out▸HSO.out) nm hyp;rw[←HLA.out]at hon;have hw1:=wf_at (f:=HuP.wlo) hyp;have hw2:=wf_at (f:=HuP.whi) hyp;rw[HWL.out]at hw1;rw[HWH.out]at hw2;have hbi:b i=(i==t||overAt ps nm i):=by rw[←HBD.out];rfl
    have hpok:=(HPS.out▸HSO.out:ShipOk ps).part i _ hyp;have hwt:=hpok.wt;obtain⟨⟨yn,yk,yf,yl,yon,yw,yz⟩,yA,yc⟩:=y;simp only at c0 c1 c2 c3 c4 c5 c6 hw1 hw2 hon hwt;have hbl:=wf_bd (wts_bd (HPS.out▸HSO.out:ShipOk ps)).1 b i (by rw[HLN.out];exact hin)
    have hbh:=wf_bd (wts_bd (HPS.out▸HSO.out:ShipOk ps)).2 b i (by rw[HLN.out];exact hin)
    rw[HWL.out]at hbl;rw[HWH.out]at hbh;have hst:=setTo_lt b i;have hp8:2^i≤2^8:=Nat.pow_le_pow_right (by decide) (by omega)
    have hS1:setTo b (i+1)=setTo b i+if b i then 2^i else 0:=rfl
    have hl1:sumTo wl b (i+1)=sumTo wl b i+if b i then yw else 0:=by rw[←hw1];rfl
    have hh1:sumTo wh b (i+1)=sumTo wh b i+if b i then yz else 0:=by rw[←hw2];rfl
    obtain⟨P2,hP2⟩:=ex (2^i);have HT11:Hid (∀W,Cs 11 #[iv i] W fun e w'=>e=.returned (iv (P2:Nat))∧W=w'):=Lq fun W=>hP2▸bit_any i W (by omega)
    rw[hP2]at hst hp8 hS1;obtain⟨S0,hS0⟩:=ex (setTo b i);obtain⟨a0,ha0⟩:=ex (sumTo wl b i);obtain⟨h0,hh0⟩:=ex (sumTo wh b i);obtain⟨S1,hS1e⟩:=ex (setTo b (i+1));obtain⟨a1,ha1e⟩:=ex (sumTo wl b (i+1));obtain⟨h1,hh1e⟩:=ex (sumTo wh b (i+1));rw[hS0]at hst;rw[hS0,hS1e]at hS1;rw[ha0]at hbl;rw[hh0]at hbh;rw[ha0,ha1e]at hl1;rw[hh0,hh1e]at hh1;rw[hS0];have HE1:=Lq hS1e;have HE2:=Lq ha1e;have HE3:=Lq hh1e;have KS0:Hid (Blk wr g22 36 #[iv a0,iv h0]):=Lq (by rw[←ha0,←hh0];exact KS.out)
    have hiz:(i:Int)<(n:Int):=by omega
    obtain⟨bo,hbo⟩:=ex (overAt ps nm i);rw[hbo]at hbi hon;clear KS hS0 ha0 hh0 hS1e ha1e hh1e hpok hyp hy hMy hb8 hP2 hw1 hw2 hbo c1 c2 c3 c4;by_cases hit:i=t
    case pos =>
     have hbt:b i=true:=by rw[hbi,hit];simp
     have hq1:((i:Int)==(t:Int))=true:=by rw[hit];simp
     clear hon hbi hit;rw[if_pos hbt]at hS1 hl1 hh1;have hs1:IntKind.i64.wrap ((S0:Int)+(P2:Int))=(S1:Int):=by rw[IntKind.wrap_i64];omega
     have ha1:IntKind.i64.wrap (a0+yw)=a1:=by rw[IntKind.wrap_i64];omega
     have hb1:IntKind.i64.wrap (h0+yz)=h1:=by rw[IntKind.wrap_i64];omega
     have H3S:=Lq hs1;have H3A:=Lq ha1;have H3B:=Lq hb1;obtain⟨Wx,W29,hWx,hW29,hb29,hqx,hbx,hq29⟩:=twoMade wr 36 (iv 0) (iv 0) (iv yw) (iv yz);obtain⟨g24,hg24⟩:=ex wr.heap.size;rw[hg24]at hW29 hqx hq29;obtain⟨f0,f1⟩:=hqx.f2;obtain⟨e0,e1⟩:=hqx.c2;have el:=hqx.lt;have HQ24:=Lq hq29;have HB29:=Lq hb29;clear hs1 ha1 hb1 hqx hbx hq29 hb29 hS1 hl1 hh1 hbt hst hp8 hbl hbh hwt;go_upto_region 30 with fail
     clear f0 f1 e0 e1 el hWx hW29 hg24 c0 c5 c6 x0;have HS30:Hid (∀W,BW W29 W→cA W g24 0 (iv yw)∧cA W g24 1 (iv yz)∧cA W g22 0 (iv a0)∧cA W g22 1 (iv h0)):=Lq fun W hb=>⟨(HQ24.out.keep hb).c 0,(HQ24.out.keep hb).c 1,(KS0.out.keep (bT HB29.out hb)).c 0,(KS0.out.keep (bT HB29.out hb)).c 1⟩
     refine goL (late:=fun k=>k==16) (ops:=ops3_30) (r:=30) (n:=17) (S:=fun W=>cA W g24 0 (iv yw)∧cA W g24 1 (iv yz)∧cA W g22 0 (iv a0)∧cA W g22 1 (iv h0)) HS30.out fun V0 HB0 hHeld=>?_
     obtain⟨w1,w2,w3⟩:_∧_∧_:=⟨H3S.out,H3A.out,H3B.out⟩;refine tkL 0 (iv S0) ?_;refine tkL 1 (iv i) ?_;refine tkL 4 (.pointer (some ⟨g22,0,none⟩)) ?_;refine tkL 6 (.pointer (some ⟨g24,0,none⟩)) ?_;refine tkL 9 (.pointer (some ⟨g22,1,none⟩)) ?_;refine tkL 11 (.pointer (some ⟨g24,1,none⟩)) ?_;refine tkL 5 (iv a0) ?_;refine tkL 7 (iv yw) ?_;refine tkL 10 (iv h0) ?_;refine tkL 12 (iv yz) ?_;refine tkL 8 (iv a1) ?_;refine tkL 13 (iv h1) ?_;refine tkL 14 (.agg #[iv a1,iv h1]) ?_;refine rdL1 2 fun K' hK=>?_
     go_simp;refine(HT11.out _).mono ?_;rintro e wc ⟨rfl,rfl⟩;refine hK.out _ _ (HS30.out _ HB0.out) (fun hHeld=>?_)
     clear hK;refine tkL 3 (iv S1) ?_;refine tkL 15 (iv S1) ?_;refine rdT 16 fun K' hK=>?_
     have bg:=KS0.out.keep (bT HB29.out HB0.out);obtain⟨zA,zB⟩:=bg.c2;obtain⟨f0,f1⟩:=bg.f2;have hl:=bg.lt;go_simp;have hk:=(bg.set_ 0 (iv a1)).set_ 1 (iv h1);simp only[List.setIfInBounds_toArray,List.set_cons_zero,List.set_cons_succ]at hk;have KS1:=Lq hk;have HO1:=Lq (oT HO.out (((OnlyAt.of_below (bT HB29.out HB0.out) g22).set 0 (iv a1)).set 1 (iv h1)));refine hK.out _ _ ?_;clear hK zA zB f0 f1 hl bg hk w1 w2 w3 hHeld;refine wpAny_of_held (S:=fun _=>True) _ _ _ _ ?_
     refine wpAnyH_done (by kernel_rfl) ?_ _
     refine NoPanic.normal ?_;clear KS0 HO HS30;go_wp2_with fail;go_roundw
     case rel=>exact⟨i+1,hlt,by rw[HE1.out],by go_num,by rw[HE2.out,HE3.out];exact KS1,HO1⟩
     case measure=>simp[intOf];omega
    have hq1:((i:Int)==(t:Int))=false:=by simp;omega
    obtain⟨rp,hrp⟩:=ex (placeI la yn);have HP8:Hid (∀W,BW w7 W→Cs 8 #[.slice Av na cv,.string yn] W fun e w'=>e=.returned (iv rp)∧w'=W):=Lq fun W hb=>by have h:=place62v_any Av la w7.heap.size cv yn W (HRA.out W hb).2 (HRA.out W hb).1;rw[HNA.out,hrp]at h;exact h
    have hneg:rp<0↔oneOf la yn=false:=by rw[←hrp];exact placeI_neg
    rw[hon]at hneg;have hbb:b i=bo:=by rw[hbi];cases bo<;>simp[hit]
    clear hon hrp hbi hit;cases bo
    case false =>
     have hbf:b i=false:=hbb;have hr3:rp<0:=hneg.2 rfl;have hr5:decide (0≤rp)=false:=by simpa using hr3
     rw[if_neg (by rw[hbf];decide)]at hS1 hl1 hh1
     obtain rfl:S1=S0:=by omega
     obtain rfl:a1=a0:=by omega
     obtain rfl:h1=h0:=by omega
     clear hneg hbb hbf hS1 hl1 hh1;go_wp2_with fail;refine(HP8.out _ hbr).mono ?_;rintro e w8 ⟨rfl,rfl⟩;go_wp2_with fail;go_roundw
     case rel=>exact⟨i+1,hlt,by rw[HE1.out],by go_num,by rw[HE2.out,HE3.out];exact KS0,HO⟩
     case measure=>simp[intOf];omega
    case true =>
     have hbt:b i=true:=hbb;have hr3:rp≥0:=by
      rcases Int.lt_or_le rp 0 with h | h
      ·have:=hneg.1 h;cases this
      ·exact h
     have hr4:¬rp<0:=by omega
     have hr5:decide (0≤rp)=true:=by simpa using hr3
     clear hneg hbb;rw[if_pos hbt]at hS1 hl1 hh1;have hs1:IntKind.i64.wrap ((S0:Int)+(P2:Int))=(S1:Int):=by rw[IntKind.wrap_i64];omega
     have ha1:IntKind.i64.wrap (a0+yw)=a1:=by rw[IntKind.wrap_i64];omega
     have hb1:IntKind.i64.wrap (h0+yz)=h1:=by rw[IntKind.wrap_i64];omega
     have H3S:=Lq hs1;have H3A:=Lq ha1;have H3B:=Lq hb1;obtain⟨Wx,W29,hWx,hW29,hb29,hqx,hbx,hq29⟩:=twoMade wr 36 (iv 0) (iv 0) (iv yw) (iv yz);obtain⟨g24,hg24⟩:=ex wr.heap.size;rw[hg24]at hW29 hqx hq29;obtain⟨f0,f1⟩:=hqx.f2;obtain⟨e0,e1⟩:=hqx.c2;have el:=hqx.lt;have HQ24:=Lq hq29;have HB29:=Lq hb29;clear hs1 ha1 hb1 hqx hbx hq29 hb29 hS1 hl1 hh1 hbt hst hp8 hbl hbh hwt;go_wp2_with fail;refine(HP8.out _ hbr).mono ?_;rintro e w8 ⟨rfl,rfl⟩;go_upto_region 30 with fail
     clear f0 f1 e0 e1 el hWx hW29 hg24 c0 c5 c6 x0;have HS30:Hid (∀W,BW W29 W→cA W g24 0 (iv yw)∧cA W g24 1 (iv yz)∧cA W g22 0 (iv a0)∧cA W g22 1 (iv h0)):=Lq fun W hb=>⟨(HQ24.out.keep hb).c 0,(HQ24.out.keep hb).c 1,(KS0.out.keep (bT HB29.out hb)).c 0,(KS0.out.keep (bT HB29.out hb)).c 1⟩
     refine goL (late:=fun k=>k==16) (ops:=ops3_30) (r:=30) (n:=17) (S:=fun W=>cA W g24 0 (iv yw)∧cA W g24 1 (iv yz)∧cA W g22 0 (iv a0)∧cA W g22 1 (iv h0)) HS30.out fun V0 HB0 hHeld=>?_
     obtain⟨w1,w2,w3⟩:_∧_∧_:=⟨H3S.out,H3A.out,H3B.out⟩;refine tkL 0 (iv S0) ?_;refine tkL 1 (iv i) ?_;refine tkL 4 (.pointer (some ⟨g22,0,none⟩)) ?_;refine tkL 6 (.pointer (some ⟨g24,0,none⟩)) ?_;refine tkL 9 (.pointer (some ⟨g22,1,none⟩)) ?_;refine tkL 11 (.pointer (some ⟨g24,1,none⟩)) ?_;refine tkL 5 (iv a0) ?_;refine tkL 7 (iv yw) ?_;refine tkL 10 (iv h0) ?_;refine tkL 12 (iv yz) ?_;refine tkL 8 (iv a1) ?_;refine tkL 13 (iv h1) ?_;refine tkL 14 (.agg #[iv a1,iv h1]) ?_;refine rdL1 2 fun K' hK=>?_
     go_simp;refine(HT11.out _).mono ?_;rintro e wc ⟨rfl,rfl⟩;refine hK.out _ _ (HS30.out _ HB0.out) (fun hHeld=>?_)
     clear hK;refine tkL 3 (iv S1) ?_;refine tkL 15 (iv S1) ?_;refine rdT 16 fun K' hK=>?_
     have bg:=KS0.out.keep (bT HB29.out HB0.out);obtain⟨zA,zB⟩:=bg.c2;obtain⟨f0,f1⟩:=bg.f2;have hl:=bg.lt;go_simp;have hk:=(bg.set_ 0 (iv a1)).set_ 1 (iv h1);simp only[List.setIfInBounds_toArray,List.set_cons_zero,List.set_cons_succ]at hk;have KS1:=Lq hk;have HO1:=Lq (oT HO.out (((OnlyAt.of_below (bT HB29.out HB0.out) g22).set 0 (iv a1)).set 1 (iv h1)));refine hK.out _ _ ?_;clear hK zA zB f0 f1 hl bg hk w1 w2 w3 hHeld;refine wpAny_of_held (S:=fun _=>True) _ _ _ _ ?_
     refine wpAnyH_done (by kernel_rfl) ?_ _
     refine NoPanic.normal ?_;clear KS0 HO HS30;go_wp2_with fail;go_roundw
     case rel=>exact⟨i+1,hlt,by rw[HE1.out],by go_num,by rw[HE2.out,HE3.out];exact KS1,HO1⟩
     case measure=>simp[intOf];omega
  ·obtain⟨y,hy⟩:=gX (l:=whole) (i:=i) hlt;have hpsi:ps[i]?=some y.p:=by rw[←HPS.out];exact ps_at hy
   have HPI:=Lq hpsi;obtain⟨b7,o7,rfl,hb7,hMy,c0,c1,c2,c3,c4,c5,c6⟩:=(HSL.out.below hbr (lr _)).rd.at hy;have HMY:=Lq hMy;have HON:Hid (∀W,BW W8 W→Rd1 .string W W8.heap.size y.A y.p.on):=Lq fun W hb=>(HSL.out.rd.ok y (mG ⟨i,hy⟩)).on.below hb (lr _)
   obtain⟨⟨yn,yk,yf,yl,yon,yw,yz⟩,yA,yc⟩:=y;simp only at c0 c1 c2 c3 c4 c5 c6 HMY HPI HON;obtain⟨Wc,W10,hWc,hW10,hb10,hqc,hbc,hq10⟩:=partMade wr yn yk yf yl yw yz yA yc yon.length;obtain⟨g14,hg14⟩:=ex wr.heap.size;rw[hg14]at hW10 hqc hq10;have HB10:=Lq hb10;have HQ14:=Lq hq10;obtain⟨f0,f1,f2,f3,f4,f5,f6⟩:=hqc.f7;obtain⟨e0,e1,e2,e3,e4,e5,e6⟩:=hqc.c7;have el:=hqc.lt;obtain⟨d0,d5,d6⟩:_∧_∧_:=⟨hq10.c 0,hq10.c 5,hq10.c 6⟩;have k0:=(KB.out.keep hb10).c 0;have OWPa:Hid ((W10.alloc (.cells #[.string yn,iv yw,iv yz] 45)).ownsRow W9.heap.size 45 3 vP i (((ps.take i).map prtP).flatMap encPrt)):=Lq (own_below OWP.out (bA hb10 _));obtain⟨i45,hi45,hz450,hz451,hz452⟩:=info_parts Tryz.info45h;clear hMy hy hpsi hb10 hqc hbc hq10 hlen hps;go_wp2_with (at_builtin;refine wpList_append_own_at _ rfl _ _ 37 rfl W9.heap.size 45 i45 _ 3 32 Tryz.underlying37 hi45 hz450 hz451 hz452 rfl (by decide) _ _ _ rfl OWPa.out ⟨W10.heap.size,0,none⟩ 1 1 [.string yn,iv yw,iv yz] rfl rfl (cells_new _ _ _) ?d2 ?d3 ?d4 ?d5 ?_)
   case d2=>simp[Value.oneCell']
   case d3=>unfold maxLen;omega
   case d4=>omega
   case d5=>(try simp only[World.size_alloc]);have:=HO.out.size;have:=HB10.out.size;omega
   intro v11 w11 hown11 hgr11 _ _;have hbA:BW wr (W10.alloc (.cells #[.string yn,iv yw,iv yz] 45)):=bA HB10.out _;have hgP:some g12≠vP.ownBlock:=fun e=>by have:=(OWP.out.lt g12 e.symm).1;have:=HQ12.out.lt;omega
   have hgQ:some g14≠vP.ownBlock:=fun e=>by have:=(OWP.out.lt g14 e.symm).2;omega
   have ho11:OnlyAt W9 w11 g12:=OnlyAt.grown (oT HO.out (OnlyAt.of_below hbA g12)) OWPa.out hgr11 (lr _);have HO11:=Lq ho11;have KB11:Hid (Blk w11 g12 40 #[vP,vJ,iv 1000,iv 1000,iv 1]):=Lq ((KB.out.keep hbA).grown hgr11 hgP);have OWJ11:=Lq (own_grown (own_below OWJ.out hbA) OWPa.out (by decide) hgr11)
   have HQ14b:=Lq ((HQ14.out.keep (bA (bR _) _)).grown hgr11 hgQ);obtain⟨A11,c11,rfl⟩:=own_slice hown11;have OWP11:=Lq hown11;have k0:=KB11.out.c 0;have kf:=KB11.out.frozen 0;have kl:=KB11.out.lt;clear hgr11 ho11 hown11 hbA hgP hgQ c0 c1 c2 c3 c4 c5 c6 d0 d5 d6 e0 e1 e2 e3 e4 e5 e6 f0 f1 f2 f3 f4 f5 f6 el x0 hWc hW10 hi45 hz450 hz451 hz452;obtain⟨W12,hW12⟩:=ex (w11.setCell ⟨g12,0,none⟩ (.slice A11 (i+1) c11));have o12:OnlyAt w11 W12 g12:=by rw[←hW12];exact OnlyAt.of_set (bR w11) g12 0 _
   have HO12:=Lq (oT HO11.out o12);have KB12:Hid (Blk W12 g12 40 #[.slice A11 (i+1) c11,vJ,iv 1000,iv 1000,iv 1]):=Lq (by
    rw[←hW12];have h:=KB11.out.set_ 0 (.slice A11 (i+1) c11)
    simpa using h)
   have HQ14c:Hid (Blk W12 g14 43 #[.string yn,iv yk,iv yf,iv yl,.slice yA yon.length yc,iv yw,iv yz]):=Lq (HQ14b.out.same (o12.block g14 HQ14b.out.lt (by have:=KB.out.lt;omega)))
   have hg12:g12<W9.heap.size:=HQ12.out.lt;have OWP12:Hid (W12.ownsRow W9.heap.size 45 3 (.slice A11 (i+1) c11) (i+1) (((ps.take (i+1)).map prtP).flatMap encPrt)):=Lq (by
    have h:=own_only OWP11.out o12 hg12;have e:((ps.take (i+1)).map prtP).flatMap encPrt=List.flatMap encPrt (List.take i (List.map prtP ps))++[.string yn,iv yw,iv yz]:=by rw[List.take_add_one,HPI.out];simp[prtP,encPrt]
    rw[e];exact h)
   have OWJ12:Hid (W12.ownsRow W9.heap.size 47 2 vJ (jsTo ps i).length ((jsTo ps i).flatMap encSp)):=Lq (own_only OWJ11.out o12 hg12);clear o12 OWP11 OWJ11 HQ14b KB11 HO11 KB HO OWP OWJ OWPa hbr;go_wp2_with fail;clear hW12 k0 kf kl;go_loopw [15] (fun vk wr=>∃(k:Nat) (vJ2:Value),k≤i∧vk=iv k∧Hid (wr.ownsRow W9.heap.size 45 3 (.slice A11 (i+1) c11) (i+1) (((ps.take (i+1)).map prtP).flatMap encPrt))∧Hid (wr.ownsRow W9.heap.size 47 2 vJ2 (jsTo ps i++jsIn ps i k).length ((jsTo ps i++jsIn ps i k).flatMap encSp))∧Hid (Blk wr g12 40 #[.slice A11 (i+1) c11,vJ2,iv 1000,iv 1000,iv 1])∧Hid (OnlyAt W9 wr g12)∧Hid (Blk wr g14 43 #[.string yn,iv yk,iv yf,iv yl,.slice yA yon.length yc,iv yw,iv yz])) (fun vk _=>i-(intOf vk).toNat)
   case atStart=>exact⟨0,vJ,Nat.zero_le _,rfl,OWP12,Lq (by simpa[jsIn]using OWJ12.out),KB12,HO12,HQ14c⟩
   case round =>
    obtain⟨k,vJ2,hki,rfl,OWP2,OWJ2,KB2,HO2,HQ2⟩:=hrel;have hk0:(0:Int)≤(k:Int):=by omega
    by_cases hlt2:k<i
    case neg =>
     obtain rfl:k=i:=by omega
     go_wp2_with fail;go_roundw
     case rel=>exact⟨k+1,_,vJ2,hlt,by go_num,OWP2,Lq (by rw[jsTo_succ];exact OWJ2.out),KB2,HO2⟩
     case measure=>simp[intOf];omega
    have hbr2:BW W8 wr:=HO2.out.below HB9.out HG12.out.1;have HBR2:=Lq hbr2;obtain⟨z,hz⟩:=gX (l:=whole) (i:=k) (by omega)
    have hpk:ps[k]?=some z.p:=by rw[←HPS.out];exact ps_at hz
    obtain⟨b8,o8,hA8,hb8,hMz,c0,c9⟩:=(HSL.out.below hbr2 (lr _)).rd.at hz;injection hA8 with hA8
    injection hA8 with e1 e2
    subst e1 e2;obtain⟨nk,hnk⟩:=ex z.p.name;rw[hnk]at c0;have hjs:=jsIn_succ (l:=ps) (i:=i) (k:=k) HPI.out hpk;rw[hnk]at hjs;obtain⟨rp,hrp⟩:=ex (placeI yon nk);have hpl:∀W,BW wr W→Cs 8 #[.slice yA yon.length yc,.string nk] W fun e w'=>e=.returned (iv rp)∧w'=W:=fun W hb=>hrp▸place62v_any yA yon W8.heap.size yc nk W (lT HMY.out.le HMY.out.cm) (HON.out W (bT hbr2 hb))
    have HPLk:=Lq hpl;have hneg:rp<0↔oneOf yon nk=false:=by rw[←hrp];exact placeI_neg
    rw[show standsB ⟨yn,yk,yf,yl,yon,yw,yz⟩ nk=oneOf yon nk from rfl]at hjs
    obtain⟨bo,hbo⟩:=ex (oneOf yon nk);rw[hbo]at hneg hjs;have HJS:=Lq hjs;have x0:=(HQ11.out.keep hbr2).c 0;have d4:=HQ2.out.c 4;have hkz:(k:Int)<(whole.length:Int):=by omega
    have hjl:=js_len ps (i:=i) (k:=k) (by omega) hki
    have HJL:=Lq hjl;clear hjs hbo hrp hpl hMz hz hpk c9 hnk hb8 hbr2;cases bo
    ·have hr3:rp<0:=hneg.2 rfl;have hr5:decide (0≤rp)=false:=by simpa using hr3
     clear hneg hjl;go_wp2_with fail;go_quiet ((go_at_call 8;exact Calls.quiet_of_same (HPLk.out _ (belowN (bR _) _))))
     clear x0 d4 c0;go_wp2_with fail;go_roundw
     case rel=>exact⟨k+1,vJ2,hlt2,by go_num,Lq (own_below OWP2.out (belowN (bR _) _)),Lq (by rw[HJS.out];simpa using own_below OWJ2.out (belowN (bR _) _)),Lq (KB2.out.keep (belowN (bR _) _)),Lq (oT HO2.out (OnlyAt.of_below (belowN (bR _) _) g12)),Lq (HQ2.out.keep (belowN (bR _) _))⟩
     case measure=>simp[intOf];omega
    ·have hr3:rp≥0:=by
      rcases Int.lt_or_le rp 0 with h | h
      ·have:=hneg.1 h;cases this
      ·exact h
     have hr4:¬rp<0:=by omega
     have hr5:decide (0≤rp)=true:=by simpa using hr3
     clear hneg;go_wp2_with fail;go_quiet ((go_at_call 8;exact Calls.quiet_of_same (HPLk.out _ (belowN (bR _) _))))
     rename_i nq;obtain⟨W13,hW13⟩:=ex (wr.drewN nq);have hb13:BW wr W13:=by rw[←hW13];exact belowN (bR _) nq
     rw[hW13];obtain⟨J,hJ⟩:=ex (jsTo ps i++jsIn ps i k);rw[hJ]at hjl;have OWJa:Hid ((W13.alloc (.cells #[iv k,iv i] 47)).ownsRow W9.heap.size 47 2 vJ2 J.length (J.flatMap encSp)):=Lq (by rw[←hJ];exact own_below OWJ2.out (bA hb13 _))
     obtain⟨i47,hi47,hz470,hz471,hz472⟩:=info_parts Tryz.info47h;have k1:=(KB2.out.keep hb13).c 1;clear x0 d4 c0 hW13;go_wp2_with (at_builtin;refine wpList_append_own_at _ rfl _ _ 38 rfl W9.heap.size 47 i47 _ 2 16 Tryz.underlying38 hi47 hz470 hz471 hz472 rfl (by decide) _ _ _ rfl OWJa.out ⟨W13.heap.size,0,none⟩ 1 1 [iv k,iv i] rfl rfl (cells_new _ _ _) ?d2 ?d3 ?d4 ?d5 ?_)
     case d2=>simp[Value.oneCell']
     case d3=>unfold maxLen;omega
     case d4=>omega
     case d5=>(try simp only[World.size_alloc]);have:=HO2.out.size;have:=hb13.size;omega
     intro v14 w14 hown14 hgr14 _ _;have hbA:BW wr (W13.alloc (.cells #[iv k,iv i] 47)):=bA hb13 _;have hgP:some g12≠vJ2.ownBlock:=fun e=>by have:=(OWJ2.out.lt g12 e.symm).1;have:=HQ12.out.lt;omega
     have KB14:Hid (Blk w14 g12 40 #[.slice A11 (i+1) c11,vJ2,iv 1000,iv 1000,iv 1]):=Lq ((KB2.out.keep hbA).grown hgr14 hgP);have hgQ:some g14≠vJ2.ownBlock:=own_ne (own_below OWJ2.out hbA) (HQ2.out.keep hbA) (by decide)
     have HO14:=Lq (OnlyAt.grown (oT HO2.out (OnlyAt.of_below hbA g12)) OWJa.out hgr14 (lr _));have OWP14:=Lq (own_grown (own_below OWP2.out hbA) OWJa.out (by decide) hgr14)
     have HQ2b:=Lq ((HQ2.out.keep hbA).grown hgr14 hgQ);obtain⟨A14,c14,rfl⟩:=own_slice hown14;have OWJ14:=Lq hown14;have k1:=KB14.out.c 1;have kf:=KB14.out.frozen 1;have kl:=KB14.out.lt;clear hgr14 hown14 hbA hgP hgQ hi47 hz470 hz471 hz472 hb13;obtain⟨W15,hW15⟩:=ex (w14.setCell ⟨g12,1,none⟩ (.slice A14 (J.length+1) c14));have o15:OnlyAt w14 W15 g12:=by rw[←hW15];exact OnlyAt.of_set (bR w14) g12 1 _
     have hg12:g12<W9.heap.size:=HQ12.out.lt;have KB15:Hid (Blk W15 g12 40 #[.slice A11 (i+1) c11,.slice A14 (J.length+1) c14,iv 1000,iv 1000,iv 1]):=Lq (by
      rw[←hW15];have h:=KB14.out.set_ 1 (.slice A14 (J.length+1) c14)
      simpa using h)
     have OWJ15:Hid (W15.ownsRow W9.heap.size 47 2 (.slice A14 (J.length+1) c14) (jsTo ps i++jsIn ps i (k+1)).length ((jsTo ps i++jsIn ps i (k+1)).flatMap encSp)):=Lq (by
      have h:=own_only OWJ14.out o15 hg12;have e:jsTo ps i++jsIn ps i (k+1)=J++[((k:Int),(i:Int))]:=by rw[HJS.out,←hJ];simp
      rw[e]
      simpa[encSp]using h)
     have OWP15:=Lq (own_only OWP14.out o15 hg12);have HO15:=Lq (oT HO14.out o15);have HQ15:Hid (Blk W15 g14 43 #[.string yn,iv yk,iv yf,iv yl,.slice yA yon.length yc,iv yw,iv yz]):=Lq (HQ2b.out.same (o15.block g14 HQ2b.out.lt (fun e=>by have h1:=HQ2b.out;rw[e]at h1;have h2:=KB14.out;unfold Blk at h1 h2;rw[h1]at h2;injection h2 with h2;injection h2 with _ h2 _;exact absurd h2 (by decide))))
     go_wp2_with fail;go_roundw
     case rel=>exact⟨k+1,_,hlt2,by go_num,OWP15,OWJ15,KB15,HO15,HQ15⟩
     case measure=>simp[intOf];omega
end Go.Proofs.YtigcophcpboanaaGreatDoor
