/- What a set of parts weighs at most and at least, in all truths. block.enter, block.Pull. .. -/
import Derived.Test.YtigcophcpboanaaGreatDoorM5
set_option maxRecDepth 1000000
set_option maxHeartbeats 0
namespace Go.Proofs.YtigcophcpboanaaGreatDoor
open Go.RowKit
section
variable{v v':Int}{BD br cap capJ g km s:Nat}{A J:Option Addr}{w w1 w2:World}
def Feas(h:Hul)(l:List Wgh):Prop:=∃w,TruthP h l w
def IsMost(h:Hul)(l:List Wgh)(s:Nat)(v:Int):Prop:=(∀w,TruthP h l w→sumS w s≤v)∧∃w,TruthP h l w∧sumS w s=v
def IsLeast(h:Hul)(l:List Wgh)(s:Nat)(v:Int):Prop:=(∀w,TruthP h l w→v≤sumS w s)∧∃w,TruthP h l w∧sumS w s=v
theorem IsMost.uniq{h:Hul}{l:List Wgh}(a:IsMost h l s v)(b:IsMost h l s v'):v=v':=by obtain⟨a1,w,a2,a3⟩:=a;obtain⟨b1,w',b2,b3⟩:=b;have:=a1 w' b2;have:=b1 w a2;omega
theorem IsLeast.uniq{h:Hul}{l:List Wgh}(a:IsLeast h l s v)(b:IsLeast h l s v'):v=v':=by obtain⟨a1,w,a2,a3⟩:=a;obtain⟨b1,w',b2,b3⟩:=b;have:=a1 w' b2;have:=b1 w a2;omega
section
variable {h:Hul} {l:List Wgh} {N:List Nd}
theorem feas_iff(hp:openPre h l=0)(hN:IsTree h l N)(set:Nat):(wgh h.ps N set).2=true↔Feas h l:=by
 have hg:=wgh_truth hp hN set;constructor
 ·intro hr;have:=hg.1 hr;obtain⟨w,hw,_⟩:=this.is (wgh h.ps N set).1.alo (Int.le_refl _) this.a;exact⟨w,hw⟩
 ·rintro⟨w,hw⟩;cases hr:(wgh h.ps N set).2 with
  | true=>rfl
  | false=>exact absurd hw (hg.2 hr w)
theorem inP{n p:Nat}(hs:s<2^n):(decide (p<n)&&s.testBit p)=s.testBit p:=by
 rcases Nat.lt_or_ge p n with h1 | h1
 ·simp[h1]
 ·rw[Nat.testBit_lt_two_pow (lz hs (Nat.pow_le_pow_right (by decide) h1))];simp
theorem mostV_is(hp:openPre h l=0)(hN:IsTree h l N)(hf:Feas h l)(hs:s<2^h.ps.length):IsMost h l s (mostV h N s):=by
 have hg:=(wgh_truth hp hN s).1 ((feas_iff hp hN s).2 hf);have e:∀w,sumP w (fun i=>decide (i<h.ps.length)&&s.testBit i)=sumS w s:=fun w=>sumP_congr (fun i _=>inP hs) (fun _ _ _=>rfl)
 refine⟨fun w hw=>?_, ?_⟩
 ·have:=hg.up w hw;rw[e]at this;exact this.2.2.1
 ·obtain⟨w,hw,_,h3⟩:=hg.is (wgh h.ps N s).1.ahi hg.a (Int.le_refl _);rw[e]at h3;refine⟨w,hw, ?_⟩;rw[h3];have:=hg.d;unfold mostV;omega
theorem leastV_is(hp:openPre h l=0)(hN:IsTree h l N)(hf:Feas h l)(hs:s<2^h.ps.length):IsLeast h l s (leastV h N s):=by
 obtain⟨c,hc⟩:=ex (2^h.ps.length-1-s);have hg:=(wgh_truth hp hN c).1 ((feas_iff hp hN c).2 hf);have hb:∀i,c.testBit i=(decide (i<h.ps.length)&&!s.testBit i):=fun i=>by
  rw[←hc,show 2^h.ps.length-1-s=2^h.ps.length-(s+1)from by omega]
  exact Nat.testBit_two_pow_sub_succ hs i
 have e:∀w,sumP w (fun i=>decide (i<h.ps.length))=sumS w s+sumP w (fun i=>decide (i<h.ps.length)&&c.testBit i):=fun w=>by
  unfold sumS;rw[←sumP_union (fun i _ hx=>by rw[hb i]at hx;obtain⟨a,b⟩:=hx;rw[a]at b;simp at b)]
  exact sumP_congr (fun i _=>by rw[hb i];have:=@inP s h.ps.length i hs;cases h1:decide (i<h.ps.length)<;>cases h2:s.testBit i<;>simp_all) (fun _ _ _=>rfl)
 have hlv:leastV h N s=(wgh h.ps N c).1.alo-(wgh h.ps N c).1.slo:=by unfold leastV;rw[hc]
 rw[hlv];refine⟨fun w hw=>?_, ?_⟩
 ·have:=hg.up w hw;have:=e w;omega
 ·obtain⟨w,hw,h2,h3⟩:=hg.is (wgh h.ps N c).1.alo (Int.le_refl _) hg.a;refine⟨w,hw, ?_⟩;have:=e w;have:=hg.s;omega
theorem mostV_bd(hp:openPre h l=0)(hN:IsTree h l N)(hf:Feas h l)(hs:s<2^h.ps.length):0≤mostV h N s∧mostV h N s≤800000:=by obtain⟨_,w,hw,e⟩:=mostV_is hp hN hf hs;have hk:=hulOk (openPre_zero hp).1;have:=truth_bd hk hw hs;have:=hk.n8;omega
theorem leastV_bd(hp:openPre h l=0)(hN:IsTree h l N)(hf:Feas h l)(hs:s<2^h.ps.length):0≤leastV h N s∧leastV h N s≤800000:=by obtain⟨_,w,hw,e⟩:=leastV_is hp hN hf hs;have hk:=hulOk (openPre_zero hp).1;have:=truth_bd hk hw hs;have:=hk.n8;omega
end
open Classical in
noncomputable def openE(h:Hul)(l:List Wgh):Int:=if openPre h l=0 then(if Feas h l then 0 else 9)else openPre h l
structure DeckHere(w w':World)(h:Hul)(A:Option Addr)(cap:Nat)(J:Option Addr)(capJ:Nat)(N:List Nd)(g:Nat)(bs:List Nat)(br km BD:Nat):Prop where
 g0:w.heap.size≤g
 k0:w.heap.size≤km
 st:DeckSt w' BD g h A cap J capJ N bs br km
 kn:KnownAt w' km (mostV h N)
 fz:∀o,w'.frozen? ⟨g,o,none⟩=false
theorem DeckHere.only{h:Hul}{N:List Nd}{bs:List Nat}(H:DeckHere w w1 h A cap J capJ N g bs br km BD)(ho:OnlyAt w1 w2 km)(hk:KnownAt w2 km (mostV h N)):DeckHere w w2 h A cap J capJ N g bs br km BD :=
 ⟨H.g0,H.k0,H.st.only ho (.inl rfl),hk,fun o=>(ho.frozen o (lz H.st.gB H.st.hB) H.st.gk).trans (H.fz o)⟩
theorem DeckHere.below{h:Hul}{N:List Nd}{bs:List Nat}(H:DeckHere w w1 h A cap J capJ N g bs br km BD)(hb:BW w1 w2):DeckHere w w2 h A cap J capJ N g bs br km BD :=
 H.only (OnlyAt.of_below hb km) (H.kn.below hb)
theorem openPost_cases{h:Hul}{l:List Wgh}{w':World}{e:Ending}(H:OpenPostB h A cap J capJ l w e w') :
  BW w w'∧((openE h l≠0∧e=.returned (.tuple #[.pointer none,iv (openE h l)]))∨(openE h l=0∧openPre h l=0∧Feas h l∧∃N g bs br km BD,IsTree h l N∧e=.returned (.tuple #[ptr g,iv 0])∧DeckHere w w' h A cap J capJ N g bs br km BD)):=by
 obtain⟨hb,H⟩:=H;refine⟨hb, ?_⟩;rcases H with⟨h1,h2⟩ | ⟨h1,N,hN,H⟩
 ·have e:openE h l=openPre h l:=by unfold openE;rw[if_neg h1]
  exact .inl ⟨by rw[e];exact h1,by rw[e];exact h2⟩
 ·rcases H with⟨h2,h3⟩ | ⟨h2,g,bs,br,km,BD,h3,h4,h5,h6,h7,h8⟩
  ·have hf:¬Feas h l:=fun hf=>by rw[(feas_iff h1 hN 0).2 hf]at h2;cases h2
   have e:openE h l=9:=by unfold openE;rw[if_pos h1,if_neg hf]
   exact .inl ⟨by rw[e];decide,by rw[e];exact h3⟩
  ·have hf:=(feas_iff h1 hN 0).1 h2;have e:openE h l=0:=by unfold openE;rw[if_pos h1,if_pos hf]
   exact .inr ⟨e,h1,hf,N,g,bs,br,km,BD,hN,h3,h4,h5,h6,h7,h8⟩
end
theorem hulBox(w:World)(h:Hul)(A:Option Addr)(cap:Nat)(J:Option Addr)(capJ:Nat):∃W1,w.alloc (.cells #[.slice A h.ps.length cap,.slice J h.js.length capJ,iv h.slo,iv h.shi,iv h.winch] 40)=W1∧BW w W1∧W1.heap.size=w.heap.size+1 ∧
  W1.cell? ⟨w.heap.size,0,none⟩=some (.slice A h.ps.length cap)∧W1.cell? ⟨w.heap.size,1,none⟩=some (.slice J h.js.length capJ)∧W1.cell? ⟨w.heap.size,2,none⟩=some (iv h.slo)∧W1.cell? ⟨w.heap.size,3,none⟩=some (iv h.shi)∧W1.cell? ⟨w.heap.size,4,none⟩=some (iv h.winch) :=
 ⟨_,rfl,bA (bR _) _,by simp,by go_simp,by go_simp,by go_simp,by go_simp,by go_simp⟩
noncomputable def enterE(h:Hul)(l:List Wgh)(set:Int):Int:=if openE h l=0 then blockE h.ps.length h.js set else openE h l
def EnterPost(h:Hul)(A:Option Addr)(cap:Nat)(J:Option Addr)(capJ:Nat)(l:List Wgh)(set:Int)(w:World)(e:Ending)(w':World):Prop :=
 BW w w'∧((enterE h l set≠0∧∃d,e=.returned (.tuple #[.pointer d,iv (enterE h l set)]))∨(enterE h l set=0∧openPre h l=0∧Feas h l∧blockE h.ps.length h.js set=0∧∃N g bs br km BD,IsTree h l N∧e=.returned (.tuple #[ptr g,iv 0])∧DeckHere w w' h A cap J capJ N g bs br km BD))
theorem enter_any(h:Hul)(A J:Option Addr)(B cap capJ:Nat)(AL:Option Addr)(l:List Wgh)(capL:Nat)(set:Int)(w:World)(hH:HulRd w B h A cap J capJ)(hL:RdN 3 encWgh w B AL l)(hlc:l.length≤capL)(hB:B≤w.heap.size) :
  Cs 55 #[hv h A cap J capJ,.slice AL l.length capL,iv set] w (EnterPost h A cap J capJ l set w):=by
 obtain⟨W1,hW1,hb0,hz1,p0,p1,p2,p3,p4⟩:=hulBox w h A cap J capJ;have hop:=open_any h A J B cap capJ AL l capL W1 (hH.below hb0 hB) (hL.below hb0 hB) hlc (lT hB hb0.size);have HOP:=Lq hop;have HB0:=Lq hb0;have hz1:w.heap.size≤W1.heap.size:=hb0.size;clear hop hb0 hH hL;go_enter Tryz.func55,Tryz.ntmps55
 go_wp2_with fail;refine HOP.out.mono ?_;intro e w1 hpost;obtain⟨hb1,hpost⟩:=openPost_cases hpost;have HB1:=Lq (bT HB0.out hb1);have hz2:=hb1.size;clear hb1 HOP hW1 HB0;rcases hpost with⟨hne,rfl⟩ | ⟨h0,hp,hf,N,g,bs,br,km,BD,hN,rfl,HD⟩
 ·have hee:enterE h l set=openE h l:=by unfold enterE;rw[if_neg hne]
  have HE:=Lq hee;obtain⟨E,hE⟩:=ex (openE h l);rw[hE]at HE hne ⊢;have hcb:(E==0)=false:=by simpa using hne
  clear hee hE;go_wp2_with fail
  go_ret2
  exact⟨HB1.out,.inl ⟨by rw[HE.out];exact hne,none,by rw[HE.out];rfl⟩⟩
 ·have hk:=hulOk (openPre_zero hp).1;have hee:enterE h l set=blockE h.ps.length h.js set:=by unfold enterE;rw[if_pos h0]
  have hbl:=block_any g h.ps.length set A J h.js cap capJ BD w1 hk.n1 hk.n8 hk.js hk.j12 HD.st.c0 HD.st.c1 HD.st.rj HD.st.hB;obtain⟨E,hE⟩:=ex (blockE h.ps.length h.js set);rw[hE]at hbl hee;have HE:=Lq hee;have HEB:=Lq hE;have HBL:=Lq hbl;have HDD:=Lq HD;clear hee hE hbl HD;go_wp2_with fail;refine HBL.out.mono ?_;rintro e w2 ⟨rfl,hb2⟩;have HB2:=Lq hb2;clear hb2 HBL;go_wp2_with fail
  go_ret2
  by_cases hE0:E=0
  ·subst hE0;have hd:=HDD.out.below HB2.out;exact⟨bT HB1.out HB2.out,.inr ⟨HE.out,hp,hf,HEB.out,N,g,bs,br,km,BD,hN,rfl,⟨lT hz1 hd.g0,lT hz1 hd.k0,hd.st,hd.kn,hd.fz⟩⟩⟩
  ·exact⟨bT HB1.out HB2.out,.inl ⟨by rw[HE.out];exact hE0,some ⟨g,0,none⟩,by rw[HE.out];rfl⟩⟩
def upD(n b:Int):Int:=(n+b-1).tdiv b
def pullV(h:Hul)(lo hi:Int):Int×Int:=((lo*h.slo).tdiv 1000,upD (hi*h.shi) 1000)
def PullPost(h:Hul)(l:List Wgh)(set:Int)(w:World)(e:Ending)(w':World):Prop :=
 BW w w'∧((enterE h l set≠0∧e=.returned (.tuple #[.agg #[iv 0,iv 0],iv (enterE h l set)]))∨(enterE h l set=0∧openPre h l=0∧Feas h l∧blockE h.ps.length h.js set=0∧∃N,IsTree h l N∧e=.returned (.tuple #[.agg #[iv (pullV h (leastV h N set.toNat) (mostV h N set.toNat)).1,iv (pullV h (leastV h N set.toNat) (mostV h N set.toNat)).2],iv 0])))
theorem pull_any(h:Hul)(A J:Option Addr)(B cap capJ:Nat)(AL:Option Addr)(l:List Wgh)(capL:Nat)(set:Int)(w:World)(hH:HulRd w B h A cap J capJ)(hL:RdN 3 encWgh w B AL l)(hlc:l.length≤capL)(hB:B≤w.heap.size) :
  Cs 12 #[hv h A cap J capJ,.slice AL l.length capL,iv set] w (PullPost h l set w):=by
 obtain⟨W1,hW1,hb0,hz1,p0,p1,p2,p3,p4⟩:=hulBox w h A cap J capJ;obtain⟨W2,hW2⟩:=ex (W1.alloc (.cells #[iv 0,iv 0] 36));have hb1:BW w W2:=by rw[←hW2];exact bA hb0 _
 have hz2:W2.heap.size=w.heap.size+2:=by rw[←hW2];simp[hz1]
 have hb12:BW W1 W2:=by rw[←hW2];exact bA (bR _) _
 have p0:=kC hb12 p0;have p1:=kC hb12 p1;have p2:=kC hb12 p2;have p3:=kC hb12 p3;have p4:=kC hb12 p4;have q0:W2.cell? ⟨W1.heap.size,0,none⟩=some (iv 0):=by rw[←hW2];clear hW2 hz1 hz2;go_simp
 have q1:W2.cell? ⟨W1.heap.size,1,none⟩=some (iv 0):=by rw[←hW2];clear hW2 hz1 hz2;go_simp
 have qf:∀o,W2.frozen? ⟨W1.heap.size,o,none⟩=false:=by rw[←hW2];clear hW2 hz1 hz2;intro o;go_simp
 have hen:=enter_any h A J B cap capJ AL l capL set W2 (hH.below hb1 hB) (hL.below hb1 hB) hlc (lT hB hb1.size);have HEN:=Lq hen;have HB1:=Lq hb1;have hz3:W1.heap.size<W2.heap.size:=by omega
 have hz4:w.heap.size≤W1.heap.size:=by omega
 have QF:=Lq qf;clear hen hb1 hb0 hb12 hH hL hz2 hz1;go_enter Tryz.func12,Tryz.ntmps12
 go_wp2_with fail;refine HEN.out.mono ?_;rintro e w1 ⟨hb2,hpost⟩;have q0:=kC hb2 q0;have q1:=kC hb2 q1;have f0:w1.frozen? ⟨W1.heap.size,0,none⟩=false:=(hb2.frozen (p:=⟨W1.heap.size,0,none⟩) hz3).trans (QF.out 0);have f1:w1.frozen? ⟨W1.heap.size,1,none⟩=false:=(hb2.frozen (p:=⟨W1.heap.size,1,none⟩) hz3).trans (QF.out 1);have HB2:=Lq (bT HB1.out hb2);have hz5:=hb2.size;clear hb2 HEN hW1 hW2 HB1 QF p0 p1 p2 p3 p4;rcases hpost with⟨hne,d,rfl⟩ | ⟨h0,hp,hf,hbl,N,g,bs,br,km,BD,hN,rfl,HD⟩
 ·obtain⟨E,hE⟩:=ex (enterE h l set);have HE:=Lq hE;rw[hE]at hne ⊢;have hcb:(E==0)=false:=by simpa using hne
  clear hE;go_wp2_with fail;obtain⟨wx,hwx⟩:=ex ((w1.setCell ⟨W1.heap.size,0,none⟩ (iv 0)).setCell ⟨W1.heap.size,1,none⟩ (iv 0));have y0:wx.cell? ⟨W1.heap.size,0,none⟩=some (iv 0):=by rw[←hwx];clear hwx;go_simp
  have y1:wx.cell? ⟨W1.heap.size,1,none⟩=some (iv 0):=by rw[←hwx];clear hwx;go_simp
  have hbx:BW w wx:=by rw[←hwx];exact belowS (belowS HB2.out hz4 _) hz4 _
  rw[hwx];refine bodyPost_ret (v:=.tuple #[.agg #[iv 0,iv 0],iv E]) (by simp[results,Tryz.results12,go_sem,y0,y1]) rfl ?_
  exact⟨hbx,.inl ⟨by rw[HE.out];exact hne,by rw[HE.out]⟩⟩
 ·have hk:=hulOk (openPre_zero hp).1;obtain⟨s,hs,_,hs2,rfl,_⟩:=blockE_zero hk.n8 hbl;have hT:=treeOk_isTree hp hN;have hD0:DeckSt w1.drew BD g h A cap J capJ N bs br km:=HD.st.only (OnlyAt.refl w1 km).drew (.inl rfl);have hle:=least_any hD0 hT s hs2;have hkn0:KnownAt w1.drew km (mostV h N):=HD.kn.drew;have hmo:=fun(W:World) (hb:BW w1.drew W)=>most_any (hD0.below hb) hT (hkn0.below hb) s hs
  have bl:=leastV_bd hp hN hf hs2;have bm:=mostV_bd hp hN hf hs2;have HC:Hid (∀W,OnlyAt w1 W km→W.cell? ⟨g,2,none⟩=some (iv h.slo)∧W.cell? ⟨g,3,none⟩=some (iv h.shi)):=Lq fun W ho=>⟨(HD.st.only ho (.inl rfl)).c2,(HD.st.only ho (.inl rfl)).c3⟩
  have hk1:km≠W1.heap.size:=by have:=HD.k0;omega
  have HQ:Hid (∀W,OnlyAt w1 W km→W.cell? ⟨W1.heap.size,0,none⟩=some (iv 0)∧W.cell? ⟨W1.heap.size,1,none⟩=some (iv 0)∧W.frozen? ⟨W1.heap.size,0,none⟩=false∧W.frozen? ⟨W1.heap.size,1,none⟩=false):=Lq fun W ho=>⟨ho.cell q0 (fun e=>hk1 e.symm),ho.cell q1 (fun e=>hk1 e.symm),(ho.frozen 0 (lt_of_cell q0) (fun e=>hk1 e.symm)).trans f0,(ho.frozen 1 (lt_of_cell q0) (fun e=>hk1 e.symm)).trans f1⟩
  have hg2:=HD.g0;have c2:=HD.st.c2;have c3:=HD.st.c3;have HPV:Hid (pullV h (leastV h N s) (mostV h N s)=((leastV h N s*h.slo).tdiv 1000,upD (mostV h N s*h.shi) 1000)):=Lq rfl;obtain⟨lv,hlv⟩:=ex (leastV h N s);obtain⟨mv,hmv⟩:=ex (mostV h N s);rw[hlv]at hle bl HPV;rw[hmv]at hmo bm HPV;have HLE:=Lq hle;have HMO:=Lq hmo;have hx1:0≤lv*h.slo:=Int.mul_nonneg bl.1 (by have:=hk.s1;omega)
  have hx2:lv*h.slo≤800000*2000:=Int.mul_le_mul bl.2 (by have:=hk.s2;have:=hk.s3;omega) (by have:=hk.s1;omega) (by omega)
  have hy1:0≤mv*h.shi:=Int.mul_nonneg bm.1 (by have:=hk.s1;have:=hk.s2;omega)
  have hy2:mv*h.shi≤800000*2000:=Int.mul_le_mul bm.2 hk.s3 (by have:=hk.s1;have:=hk.s2;omega) (by omega)
  have hw1:IntKind.i64.wrap (lv*h.slo)=lv*h.slo:=wrap62 _ hx1 (by omega)
  have hw2:IntKind.i64.wrap (mv*h.shi)=mv*h.shi:=wrap62 _ hy1 (by omega)
  have hq0:0≤(lv*h.slo).tdiv 1000:=Int.tdiv_nonneg hx1 (by decide)
  have hq1:(lv*h.slo).tdiv 1000≤lv*h.slo:=by rw[Int.tdiv_eq_ediv_of_nonneg hx1];exact Int.ediv_le_self _ hx1
  have hw3:IntKind.i64.wrap ((lv*h.slo).tdiv 1000)=(lv*h.slo).tdiv 1000:=wrap62 _ hq0 (by omega)
  have hup:=fun W=>upDiv_any (w:=W) (mv*h.shi) 1000 hy1 (by omega) (by decide) (by decide)
  have HUP:=Lq hup;have HLV:=Lq hlv;have HMV:=Lq hmv;have HGD:Hid (BW w w1∧w.heap.size≤km∧openPre h l=0∧Feas h l∧blockE h.ps.length h.js s=0∧IsTree h l N∧enterE h l s=0):=Lq ⟨HB2.out,by have:=HD.k0;omega,hp,hf,hbl,hN,h0⟩
  clear hle hmo hup hD0 hkn0 hT HD hlv hmv hN hp hf hbl h0 bl bm hk;go_wp2_with fail;have hg1:g≠W1.heap.size:=by omega
  have HD0:Hid (OnlyAt w1 w1.drew km):=Lq (OnlyAt.refl w1 km).drew;go_region_held3 (fun W=>W.cell? ⟨g,2,none⟩=some (iv h.slo)∧W.cell? ⟨g,3,none⟩=some (iv h.shi)) (first | exact HC.out w1.drew HD0.out | exact HC.out w2 ho2 | exact HC.out w3 ho3 | exact HC.out w4 ho4 | exact⟨keepSet (keepSet (HC.out w4 ho4).1 hg1) hg1,keepSet (keepSet (HC.out w4 ho4).2 hg1) hg1⟩) (first | (go_at_call 56;(with_reducible refine HLE.out.mono ?_);rintro e w2 ⟨rfl,hb2⟩;have ho2:OnlyAt w1 w2 km:=HD0.out.trans (OnlyAt.of_below hb2 km)) | (go_at_call 58;(with_reducible refine(HMO.out w2 hb2).mono ?_);rintro e w3 ⟨rfl,ho3',hk3⟩;have ho3:OnlyAt w1 w3 km:=ho2.trans ho3') | (go_at_call 57;(with_reducible refine(HUP.out w3).mono ?_);rintro e w4 ⟨rfl,hb4⟩;have ho4:OnlyAt w1 w4 km:=ho3.trans (OnlyAt.of_below hb4 km);obtain⟨q0,q1,f0,f1⟩:=HQ.out w4 ho4))
  rename_i hHeld;clear hHeld;obtain⟨wx,hwx⟩:=ex ((w4.setCell ⟨W1.heap.size,0,none⟩ (iv ((lv*h.slo).tdiv 1000))).setCell ⟨W1.heap.size,1,none⟩ (iv ((mv*h.shi+1000-1).tdiv 1000)));have y0:wx.cell? ⟨W1.heap.size,0,none⟩=some (iv ((lv*h.slo).tdiv 1000)):=by rw[←hwx];clear hwx;go_simp
  have y1:wx.cell? ⟨W1.heap.size,1,none⟩=some (iv ((mv*h.shi+1000-1).tdiv 1000)):=by rw[←hwx];clear hwx;go_simp
  obtain⟨g1,g2,g3,g4,g5,g6,g7⟩:=HGD.out;have hbx:BW w wx:=by rw[←hwx];exact belowS (belowS (ho4.below g1 g2) hz4 _) hz4 _
  rw[hwx];clear q0 q1 f0 f1 hwx c2 c3;go_wp2_with fail;refine bodyPost_ret (v:=.tuple #[.agg #[iv ((lv*h.slo).tdiv 1000),iv ((mv*h.shi+1000-1).tdiv 1000)],iv 0]) (by simp[results,Tryz.results12,go_sem,y0,y1]) rfl ?_
  exact⟨hbx,.inr ⟨g7,g3,g4,g5,N,g6,by rw[Int.toNat_natCast,HLV.out,HMV.out,HPV.out];rfl⟩⟩
end Go.Proofs.YtigcophcpboanaaGreatDoor
namespace Go.Proofs.YtigcophcpboanaaGreatDoor
section
variable{p q s:Nat}
def upd(w:Nat→Int)(i:Nat)(v:Int):Nat→Int:=fun k=>if k=i then v else w k
theorem upd_self(w:Nat→Int)(i:Nat)(v:Int):upd w i v i=v:=by simp[upd]
theorem upd_ne{w:Nat→Int}{i k:Nat}{v:Int}(h:k≠i):upd w i v k=w k:=by simp[upd,h]
theorem sumTo_upd(w:Nat→Int)(p:Nat)(v:Int)(P:Nat→Bool):∀k,sumTo (upd w p v) P k=sumTo w P k+if p<k∧P p=true then v-w p else 0:=by
 intro k;induction k with
 | zero=>simp[sumTo]
 | succ k ih =>
  simp only[sumTo,ih];by_cases hk:k=p
  ·subst hk;rw[upd_self];cases hP:P k<;>simp
   omega
  ·rw[upd_ne hk];by_cases h1:p<k
   ·by_cases h2:P p=true
    ·rw[if_pos ⟨h1,h2⟩,if_pos (c:=p<k+1∧P p=true) ⟨by omega,h2⟩];omega
    ·rw[if_neg (by simp[h2]),if_neg (c:=p<k+1∧P p=true) (by simp[h2])];omega
   ·rw[if_neg (by omega),if_neg (c:=p<k+1∧P p=true) (by omega)];omega
theorem sumS_upd(w:Nat→Int)(hp:p<8)(v:Int)(s:Nat):sumS (upd w p v) s=sumS w s+if s.testBit p=true then v-w p else 0:=by unfold sumS sumP;rw[sumTo_upd];simp[hp]
theorem sumTo_le{w w':Nat→Int}{P:Nat→Bool}:∀k,(∀i,i<k→P i=true→w i≤w' i)→sumTo w P k≤sumTo w' P k:=by
 intro k;induction k with
 | zero=>intro _;simp[sumTo]
 | succ k ih =>
  intro h;have:=ih (fun i hi=>h i (by omega))
  have h2:=h k (by omega)
  simp only[sumTo];cases hk:P k with
  | true=>have:=h2 hk;simp only[if_true];omega
  | false=>simp only[Bool.false_eq_true,if_false];omega
theorem sumS_le{w w':Nat→Int}(h:∀i,i<8→s.testBit i=true→w i≤w' i):sumS w s≤sumS w' s:=sumTo_le 8 h
theorem bit_lt{n:Nat}(hs:s<2^n)(hb:s.testBit p=true):p<n:=by
 rcases Nat.lt_or_ge p n with h | h
 ·exact h
 ·rw[Nat.testBit_lt_two_pow (lz hs (Nat.pow_le_pow_right (by decide) h))]at hb;cases hb
structure Lw(h:Hul)(l:List Wgh):Prop where
 n8:h.ps.length≤8
 lam:∀x∈l,∀y∈l,LamW x y
 lt:∀x∈l,x.set.toNat<2^h.ps.length
def Box(h:Hul)(w:Nat→Int):Prop:=∀(i:Nat) (p:Prt),h.ps[i]?=some p→p.lo≤w i∧w i≤p.hi
def loOf(h:Hul)(i:Nat):Int:=(h.ps[i]?.map Prt.lo).getD 0
def hiOf(h:Hul)(i:Nat):Int:=(h.ps[i]?.map Prt.hi).getD 0
theorem box_iff{h:Hul}{w:Nat→Int}:Box h w↔∀i,i<h.ps.length→loOf h i≤w i∧w i≤hiOf h i:=by
 constructor
 ·intro hb i hi;have hg:=gE hi;have:=hb i _ hg
  simpa[loOf,hiOf,hg]using this
 ·intro hb i p hip;have:=hb i (lG hip)
  simpa[loOf,hiOf,hip]using this
theorem Lw.swap{h:Hul}{l:List Wgh}(H:Lw h l){t w:Nat→Int}(ht:TruthP h l t)(hw:∀i,i<h.ps.length→w i≤t i)(hlo:∀i,i<h.ps.length→loOf h i≤w i)(hp:p<h.ps.length)(hq:q<h.ps.length)(hpt:t p=w p)(hqt:w q<t q)(hph:w p+1≤hiOf h p)(hT:∀y∈l,y.set.toNat.testBit p=true→y.set.toNat.testBit q=false→sumS t y.set.toNat+1≤y.hi)(hL:∀y∈l,y.set.toNat.testBit q=true→y.set.toNat.testBit p=false→y.lo≤sumS w y.set.toNat) :
   TruthP h l (upd (upd t p (t p+1)) q (t q-1))∧(∀i,i<h.ps.length→upd w p (w p+1) i≤upd (upd t p (t p+1)) q (t q-1) i):=by
  have hpq:q≠p:=fun hc=>by rw[hc]at hqt;omega
  have hn:=H.n8;have hb:Box h t:=ht.1;rw[box_iff]at hb;refine⟨⟨box_iff.2 fun i hi=>?_,fun y hy=>?_⟩,fun i hi=>?_⟩
  ·have h1:=hb i hi;by_cases hiq:i=q
   ·subst hiq;rw[upd_self];have:=hlo i hi;omega
   ·rw[upd_ne hiq];by_cases hip:i=p
    ·subst hip;rw[upd_self];omega
    ·rw[upd_ne hip];exact h1
  ·have h1:=ht.2 y hy;rw[sumS_upd _ (by omega),sumS_upd _ (by omega),upd_ne hpq]
   cases hyp:y.set.toNat.testBit p with
   | true =>
    cases hyq:y.set.toNat.testBit q with
    | true=>simp only[if_true];omega
    | false =>
     have:=hT y hy hyp hyq;simp only[if_true,Bool.false_eq_true,if_false];omega
   | false =>
    cases hyq:y.set.toNat.testBit q with
    | true =>
     have h2:=hL y hy hyq hyp;have h3:sumS w y.set.toNat+1≤sumS t y.set.toNat:=by
      have h4:sumS (upd w q (w q+1)) y.set.toNat≤sumS t y.set.toNat:=sumS_le fun i _ hbi=>by
       by_cases hiq:i=q
       ·subst hiq;rw[upd_self];omega
       ·rw[upd_ne hiq];exact hw i (bit_lt (H.lt y hy) hbi)
      rw[sumS_upd _ (by omega),hyq]at h4
      simp only[if_true]at h4;omega
     simp only[if_true,Bool.false_eq_true,if_false];omega
    | false=>simp only[Bool.false_eq_true,if_false];omega
  ·by_cases hiq:i=q
   ·subst hiq;rw[upd_self,upd_ne hpq];omega
   ·rw[upd_ne hiq];by_cases hip:i=p
    ·subst hip;rw[upd_self,upd_self];omega
    ·rw[upd_ne hip,upd_ne hip];exact hw i hi
def Full(h:Hul)(l:List Wgh)(w:Nat→Int)(q:Nat):Prop:=hiOf h q≤w q∨∃y∈l,y.set.toNat.testBit q=true∧y.hi≤sumS w y.set.toNat
theorem Full.mono{h:Hul}{l:List Wgh}{w w':Nat→Int}(hf:Full h l w q)(hle:∀i,w i≤w' i):Full h l w' q:=by
 rcases hf with hf | ⟨y,hy,hyq,hyh⟩
 ·exact .inl (Int.le_trans hf (hle q))
 ·exact .inr ⟨y,hy,hyq,Int.le_trans hyh (sumS_le fun i _ _=>hle i)⟩
end
end Go.Proofs.YtigcophcpboanaaGreatDoor
namespace Go.Proofs.YtigcophcpboanaaGreatDoor
open Go.RowKit
section
variable{base km n size:Nat}{v:Value}{w w':World}
theorem Tryz.info36:(Tryz.prog.info? 36).map (fun i=>(i.zero,i.size,i.bytes))=some (some (.agg #[iv 0,iv 0]),2,16):=by kernel_rfl
theorem Tryz.info3b:(Tryz.prog.info? 3).map (fun i=>(i.zero,i.size,i.bytes))=some (some (iv 0),1,8):=by kernel_rfl
theorem own_belowB{e:TypeId}{xs:List Value}(h:w.ownsRow base e size v n xs)(hb:BW w w'):w'.ownsRow base e size v n xs :=
 ownKeepB h fun k hk=>hb.block k (h.lt k hk).2
theorem own_baseB{base':Nat}{e:TypeId}{xs:List Value}(h:w.ownsRow base e size v n xs)(hb:base'≤base):w.ownsRow base' e size v n xs:=by
 obtain⟨h1,h2⟩:=h;refine⟨h1, ?_⟩;rcases h2 with h2 | ⟨g,cap,cur,hv,hg,r⟩
 ·exact Or.inl h2
 ·exact Or.inr ⟨g,cap,cur,hv,lT hb hg,r⟩
theorem own_onlyB{e:TypeId}{xs:List Value}(h:w.ownsRow base e size v n xs)(hb:OnlyAt w w' km)(hk:km<base):w'.ownsRow base e size v n xs :=
 ownKeepB h fun k hk'=>hb.block k (h.lt k hk').2 (by have:=(h.lt k hk').1;omega)
theorem OnlyAt.grown{a:World}{e:TypeId}{xs:List Value}(ho:OnlyAt a w km)(h:w.ownsRow base e size v n xs)(hg:w.grownBy w' v.ownBlock)(hb:a.heap.size≤base):OnlyAt a w' km :=
 ⟨hg.os.trans ho.os,hg.tape.trans ho.tape,hg.output.trans ho.output,lT ho.size hg.size,fun k hk hne=>(hg.block k (lz hk ho.size) (fun e=>by have:=(h.lt k e.symm).1;omega)).trans (ho.block k hk hne)⟩
theorem KnownAt.grown{f:Nat→Int}{e:TypeId}{xs:List Value}(hk:KnownAt w km f)(h:w.ownsRow base e size v n xs)(hg:w.grownBy w' v.ownBlock)(hb:km<base):KnownAt w' km f:=by obtain⟨D,m,ho,hd⟩:=hk;exact⟨D,m,ho.kept hg (fun e=>by have:=(h.lt km e.symm).1;omega),hd⟩
theorem KnownAt.lt{f:Nat→Int}(hk:KnownAt w km f):km<w.heap.size:=by obtain⟨D,m,ho,hd⟩:=hk;exact ho.lt
def spansV(h:Hul)(N:List Nd)(k:Nat):List (Int×Int):=(List.range k).map fun i=>(leastV h N (2^i),mostV h N (2^i))
theorem spansV_len(h:Hul)(N:List Nd)(k:Nat):(spansV h N k).length=k:=by simp[spansV]
theorem spansV_succ(h:Hul)(N:List Nd)(k:Nat):spansV h N (k+1)=spansV h N k++[(leastV h N (2^k),mostV h N (2^k))]:=by simp[spansV,List.range_succ]
theorem encSp_len:∀x:Int×Int,(encSp x).length=2:=fun _=>rfl
def WeightsPost(h:Hul)(l:List Wgh)(w:World)(e:Ending)(w':World):Prop :=
 BW w w'∧((openE h l≠0∧e=.returned (.tuple #[.slice none 0 0,iv (openE h l)]))∨(openE h l=0∧openPre h l=0∧Feas h l∧∃N A cap,IsTree h l N∧e=.returned (.tuple #[.slice A h.ps.length cap,iv 0])∧w'.ownsRow w.heap.size 36 2 (.slice A h.ps.length cap) h.ps.length ((spansV h N h.ps.length).flatMap encSp)))
theorem weights_any(h:Hul)(A J:Option Addr)(B cap capJ:Nat)(AL:Option Addr)(l:List Wgh)(capL:Nat)(w:World)(hH:HulRd w B h A cap J capJ)(hL:RdN 3 encWgh w B AL l)(hlc:l.length≤capL)(hB:B≤w.heap.size) :
  Cs 34 #[hv h A cap J capJ,.slice AL l.length capL] w (WeightsPost h l w):=by
 obtain⟨i0,hi0,hz0,hzz1,hzz2⟩:=info_parts Tryz.info36;obtain⟨W1,hW1,hb0,hz1,p0,p1,p2,p3,p4⟩:=hulBox w h A cap J capJ;have hop:=open_any h A J B cap capJ AL l capL W1 (hH.below hb0 hB) (hL.below hb0 hB) hlc (lT hB hb0.size);have HOP:=Lq hop;have HB0:=Lq hb0;have hz1:w.heap.size≤W1.heap.size:=hb0.size;clear hop hb0 hH hL;go_enter Tryz.func34,Tryz.ntmps34
 go_wp2_with fail;refine HOP.out.mono ?_;intro e w1 hpost;obtain⟨hb1,hpost⟩:=openPost_cases hpost;have HB1:=Lq (bT HB0.out hb1);have hz2:=hb1.size;clear hb1 HOP hW1 HB0 p0 p1 p2 p3 p4;rcases hpost with⟨hne,rfl⟩ | ⟨h0,hp,hf,N,g,bs,br,km,BD,hN,rfl,HD⟩
 ·obtain⟨E,hE⟩:=ex (openE h l);have HE:=Lq hE;rw[hE]at hne ⊢;have hcb:(E==0)=false:=by simpa using hne
  clear hE;go_wp2_with fail
  go_ret2
  exact⟨HB1.out,.inl ⟨by rw[HE.out];exact hne,by rw[HE.out];rfl⟩⟩
 ·have hk:=hulOk (openPre_zero hp).1;have hn8:=hk.n8;have hT:=treeOk_isTree hp hN;have hkm:=HD.kn.lt;have hk0:=HD.k0;have c0:=HD.st.c0;have HD0:=Lq HD;have HFC:Hid (∀e w',(BW w w'∧∃A cap,e=.returned (.tuple #[.slice A h.ps.length cap,iv 0])∧w'.ownsRow w1.heap.size 36 2 (.slice A h.ps.length cap) h.ps.length ((spansV h N h.ps.length).flatMap encSp))→WeightsPost h l w e w'):=Lq fun e w' ⟨a,A,cap,b,c⟩=>⟨a,.inr ⟨h0,hp,hf,N,A,cap,hN,b,own_baseB c (by omega)⟩⟩
  have HLM:Hid (∀(W:World) (i:Nat),i<h.ps.length→DeckSt W BD g h A cap J capJ N bs br km→Cs 56 #[ptr g,iv ((2^i:Nat):Int)] W (Rt W (iv (leastV h N (2^i))))):=Lq fun W i hi H=>least_any H hT (2^i) (Nat.pow_lt_pow_right (by decide) hi)
  have HMM:Hid (∀(W:World) (i:Nat),i<h.ps.length→DeckSt W BD g h A cap J capJ N bs br km→KnownAt W km (mostV h N)→Cs 58 #[ptr g,iv ((2^i:Nat):Int)] W (MostPost (mostV h N (2^i)) km (mostV h N) W)):=Lq fun W i hi H hK=>most_any H hT hK (2^i) (pow_lt (by omega))
  obtain⟨POST,hPOST⟩:=ex (WeightsPost h l w);rw[hPOST]at HFC;clear HD hN hf hT h0;go_wp2_with fail;go_loopw [4,23] (fun vv vi wr=>∃(k:Nat) (vo:Value),k≤h.ps.length∧vi=iv k∧vo=vv∧Hid (wr.ownsRow w1.heap.size 36 2 vo k ((spansV h N k).flatMap encSp))∧Hid (OnlyAt w1 wr km)∧Hid (KnownAt wr km (mostV h N))) (fun _ vi _=>h.ps.length-(intOf vi).toNat)
  case atStart=>exact⟨0,_,Nat.zero_le _,rfl,rfl,Lq (World.ownsRow_nil _ _ _ _),Lq (OnlyAt.refl w1 km),Lq HD0.out.kn⟩
  case round =>
   obtain⟨k,vo,hkk,rfl,rfl,HO,HA,HK⟩:=hrel;by_cases hlt:k<h.ps.length
   ·have hds:=HD0.out.st.only HA.out (.inl rfl);have hds0:DeckSt wr.drew BD g h A cap J capJ N bs br km:=hds.only (OnlyAt.refl wr km).drew (.inl rfl);have hsh:=shl1 k (by omega)
    have HC1:=Lq (HLM.out wr.drew k hlt hds0);have HC2:=Lq (fun W (hb:BW wr.drew W)=>HMM.out W k hlt (hds0.below hb) (HK.out.drew.below hb))
    have hsn:=spansV_succ h N k;obtain⟨x,hx⟩:=ex (leastV h N (2^k));obtain⟨y,hy⟩:=ex (mostV h N (2^k));rw[hx]at HC1 hsn;rw[hy]at HC2 hsn;obtain⟨P,hP⟩:=ex ((2^k:Nat));rw[hP]at HC1 HC2 hsh;obtain⟨F,hF⟩:=ex (mostV h N);rw[hF]at HC2;have HFF:=Lq hF;have HSN:=Lq hsn;have hk9:k+1≤maxLen:=by unfold maxLen;omega
    have hk16:(k+1)*16≤140737488355328:=by omega
    have hzr:=HA.out.size;clear hsn hx hy hP hF hds hds0;go_wp2_with fail;go_region_held3 (fun _=>True) (trivial) (first | (have hownA:=(own_onlyB (own_belowB HO.out (undrew0B hb3)) ho4 hkm).alloc (.cells #[iv x,iv y] 36);have hz4:w1.heap.size≤w4.heap.size:=lT hzr (lT (undrew0B hb3).size ho4.size);refine step_append_lies _ (by rfl) _ _ _ (by rfl) w1.heap.size 36 i0 _ 2 16 Tryz.underlying89 hi0 hz0 hzz1 hzz2 rfl (by omega) _ k _ (by rfl) hownA ⟨w4.heap.size,0,none⟩ 1 1 [iv x,iv y] (by rfl) (by rfl) (World.news_of_block (cs:=#[iv x,iv y]) (t:=36) (fr:=(0,0)) (heap_alloc_new w4 _)) (by simp[Value.oneCell']) (by omega) hk9 hk16 (by simp;omega) (w4.heap.size+1) (by simp) ?_;intro gg cap9 w5 hown5 hgrow hat hlt5) | (go_at_call 56;((with_reducible refine HC1.out.mono ?_);rintro e w3 ⟨rfl,hb3⟩)) | (go_at_call 58;((with_reducible refine(HC2.out w3 hb3).mono ?_);rintro e w4 ⟨rfl,ho4,hk4⟩)))
    have hk5:KnownAt w5 km F:=by have h1:KnownAt (w4.alloc (.cells #[iv x,iv y] 36)) km F:=hk4.below (bA (bR _) _);exact h1.grown hownA hgrow hkm
    have ho5:OnlyAt w1 w5 km:=by have h1:OnlyAt w1 (w4.alloc (.cells #[iv x,iv y] 36)) km:=(((HA.out.trans (OnlyAt.of_below (undrew0B hb3) km)).trans ho4)).trans (OnlyAt.of_below (bA (bR w4) _) km);exact h1.grown hownA hgrow (lr _)
    rw[←HFF.out]at hk5;have HO5:=Lq hown5;have HA5:=Lq ho5;have HK5:=Lq hk5;clear hown5 hgrow hownA hb3 ho4 hk4 ho5 hk5 HC1 HC2;go_wp2_with fail;exact⟨⟨k+1,_,by omega,by go_num,rfl,Lq (by rw[HSN.out,List.flatMap_append];exact HO5.out),HA5,HK5⟩,by simp[intOf];omega⟩
   ·obtain rfl:k=h.ps.length:=by omega
    have hown:=HO.out;have hown':=hown;obtain⟨R,hR⟩:=ex (spansV h N h.ps.length);have hRl:R.length=h.ps.length:=by rw[←hR];exact spansV_len _ _ _
    rw[hR,←hRl]at hown';obtain⟨A5,cap5,rfl,_⟩:=own_rdN encSp_len hown';rw[hRl]at hown;have HO5:=Lq hown;clear hown hown' HO;go_wp2_with fail;rw[hPOST];refine bodyPost_ret (results_tmp2 rfl _ _ _) rfl ?_;exact HFC.out _ _ ⟨HA.out.below HB1.out (by omega),A5,cap5,by rw[hRl];rfl,HO5.out⟩
end
section
variable{g:Nat}{w:World}
def blkTo(c:List Nat):Nat→List Nat
 | 0=>List.replicate 8 0
 | k+1=>match c[k]? with
  | some n=>(blkTo c k).set n ((blkTo c k)[n]?.getD 0|||2^k)
  | none=>blkTo c k
def manyTo(c:List Nat):Nat→Nat
 | 0=>0
 | k+1=>match c[k]? with
  | some n=>max (manyTo c k) (n+1)
  | none=>manyTo c k
theorem blkTo_len(c:List Nat):∀k,(blkTo c k).length=8:=by
 intro k;induction k with
 | zero=>rfl
 | succ k ih =>
  rw[blkTo];split
  ·rw[List.length_set];exact ih
  ·exact ih
theorem blkTo_lt(c:List Nat):∀k,k≤8→∀x∈blkTo c k,x<256:=by
 intro k;induction k with
 | zero =>
  intro _ x hx;rw[blkTo,List.mem_replicate]at hx;omega
 | succ k ih =>
  intro hk x hx;rw[blkTo]at hx;split at hx
  ·rename_i n _;rcases List.mem_or_eq_of_mem_set hx with h | h
   ·exact ih (by omega) x h
   ·rw[h];refine or_lt ?_ (pow_lt (by omega))
    cases hg:(blkTo c k)[n]? with
    | none=>simp
    | some y=>exact ih (by omega) y (List.mem_of_getElem? hg)
  ·exact ih (by omega) x hx
theorem manyTo_le{c:List Nat}(hc:∀x∈c,x<8):∀k,manyTo c k≤8:=by
 intro k;induction k with
 | zero=>simp[manyTo]
 | succ k ih =>
  rw[manyTo];split
  ·rename_i n hn;have:=hc n (List.mem_of_getElem? hn);omega
  ·exact ih
def cutV(c:List Nat):Value:=.agg (c.map nv).toArray
theorem eight{l:List Nat}(h:l.length=8):∃a b c d e f g i,l=[a,b,c,d,e,f,g,i]:=by
 match l,h with
 | [a,b,c,d,e,f,g,i],_=>exact⟨a,b,c,d,e,f,g,i,rfl⟩
theorem Blk.nat{t:TypeId}{l:List Nat}(h:Blk w g t (l.map nv).toArray){i x:Nat}(hi:l[i]?=some x):w.cell? ⟨g,i,none⟩=some (nv x):=by rw[h.cell];simp[hi]
theorem Blk.setNat{t:TypeId}{l:List Nat}(h:Blk w g t (l.map nv).toArray)(i x:Nat):Blk (w.setCell ⟨g,i,none⟩ (nv x)) g t ((l.set i x).map nv).toArray:=by
 have:=h.set_ i (nv x)
 rwa [List.setIfInBounds_toArray,←List.map_set]at this
theorem und123:Tryz.prog.underlying 169=some (.array (Tryz.prog.arrayLen 169) (Tryz.prog.elem 169)):=by kernel_rfl
theorem und122:Tryz.prog.underlying 168=some (.array (Tryz.prog.arrayLen 168) (Tryz.prog.elem 168)):=by kernel_rfl
theorem len123:Tryz.prog.arrayLen 169=8:=by kernel_rfl
theorem len122:Tryz.prog.arrayLen 168=8:=by kernel_rfl
theorem size123(w:World):(sizeOf (Tryz.prog.elem 169)).run Tryz.prog w=.ok 1 w:=by kernel_rfl
theorem size122(w:World):(sizeOf (Tryz.prog.elem 168)).run Tryz.prog w=.ok 1 w:=by kernel_rfl
theorem slice123(w:World)(b n:Nat)(hn:n≤8):(Instr.sliceAt 169 (pT b 0) none (some (iv (n:Int))) none).run Tryz.prog w=.ok (.slice (some ⟨b,0,none⟩) n 8) w:=by
 rw[run_sliceAt_array_h w 169 ⟨b,0,none⟩ und123 .i64 (n:Int) (by omega) (by rw[len123];omega),size123]
 simp[slicedAt,len123,Addr.add]
theorem slice122(w:World)(b n:Nat)(hn:n≤8):(Instr.sliceAt 168 (pT b 0) none (some (iv (n:Int))) none).run Tryz.prog w=.ok (.slice (some ⟨b,0,none⟩) n 8) w:=by
 rw[run_sliceAt_array_h w 168 ⟨b,0,none⟩ und122 .i64 (n:Int) (by omega) (by rw[len122];omega),size122]
 simp[slicedAt,len122,Addr.add]
def BlocksPost(c:List Nat)(n:Nat)(w:World)(e:Ending)(w':World):Prop:=e=.returned (.tuple #[cutV (blkTo c n),nv (manyTo c n)])∧BW w w'
theorem blocks_any(c:List Nat)(n:Nat)(w:World)(hc:c.length=8)(hc8:∀x∈c,x<8)(hn:n≤8) :
  Cs 91 #[cutV c,iv n] w (BlocksPost c n w):=by
 obtain⟨POST,hPOST⟩:=ex (BlocksPost c n w);have HP:Hid (∀e w',e=.returned (.tuple #[cutV (blkTo c n),nv (manyTo c n)])→BW w w'→POST e w'):=Lq fun e w' h1 h2=>by rw[←hPOST];exact⟨h1,h2⟩
 rw[hPOST];clear hPOST;obtain⟨W2,hW2⟩:=ex ((w.alloc (.cells (c.map nv).toArray 169)).alloc (.cells #[iv 0,iv 0,iv 0,iv 0,iv 0,iv 0,iv 0,iv 0] 168));have b0:Blk W2 w.heap.size 169 (c.map nv).toArray:=by rw[←hW2];exact(Blk.new w 169 _).alloc _
 have b1:Blk W2 (w.heap.size+1) 168 ((blkTo c 0).map nv).toArray:=by rw[←hW2];have h:=Blk.new (w.alloc (.cells (c.map nv).toArray 169)) 168 #[iv 0,iv 0,iv 0,iv 0,iv 0,iv 0,iv 0,iv 0];rw[World.size_alloc]at h;exact h
 have hb:BW w W2:=by rw[←hW2];exact bA (bA (bR _) _) _
 have hz:W2.heap.size=w.heap.size+2:=by rw[←hW2];simp
 have B0:=Lq b0;have B1:=Lq b1;have HB:=Lq hb;clear b0 b1 hb hz;have hcv:cutV c=.agg (c.map nv).toArray:=rfl;obtain⟨c0,c1,c2,c3,c4,c5,c6,c7,hce⟩:=eight hc;have HCE:=Lq hce;rw[hcv];rw[hce]at hW2 ⊢;simp only[List.map_cons,List.map_nil]at hW2 ⊢;have hsl:=fun W b=>slice123 W b n hn
 have hwr:∀k:Nat,k<8→IntKind.i64.wrap (2^k)=((2^k:Nat):Int):=fun k hk=>shl1 k (by omega)
 go_enter Tryz.func91,Tryz.ntmps91
 go_wp2_with fail;clear hW2 hsl hcv;go_loopw [5,11] (fun vm vi wr=>∃k:Nat,k≤n∧vi=iv k∧vm=iv (manyTo c k)∧Hid (Blk wr w.heap.size 169 (c.map nv).toArray)∧Hid (Blk wr (w.heap.size+1) 168 ((blkTo c k).map nv).toArray)∧Hid (BW w wr)) (fun _ vi _=>n-(intOf vi).toNat)
 case atStart=>exact⟨0,Nat.zero_le _,rfl,rfl,B0,B1,HB⟩
 case round =>
  clear B0 B1 HB;obtain⟨k,hk,rfl,rfl,B0,B1,HB⟩:=hrel;by_cases hlt:k<n
  ·obtain⟨x,hx⟩:=gX (l:=c) (i:=k) (by omega)
   have hx8:=hc8 x (List.mem_of_getElem? hx);have e0:wr.cell? ⟨w.heap.size,k,none⟩=some (nv x):=B0.out.nat hx;obtain⟨s,hs⟩:∃s,(blkTo c k)[x]?=some s:=⟨_,gE (by rw[blkTo_len];exact hx8)⟩
   have hsl:=blkTo_lt c k (by omega) s (List.mem_of_getElem? hs)
   have e1:wr.cell? ⟨w.heap.size+1,x,none⟩=some (nv s):=B1.out.nat hs;have ef:=B1.out.frozen x;have hst:blkTo c (k+1)=(blkTo c k).set x (s|||2^k):=by rw[blkTo,hx];simp only;rw[hs];rfl
   have hmt:manyTo c (k+1)=max (manyTo c k) (x+1):=by rw[manyTo,hx]
   have hmk:((max (manyTo c k) (x+1):Nat):Int)=max (manyTo c k:Int) ((x:Int)+1):=by omega
   have hsh:=hwr k (by omega)
   have hor:=or64 (a:=s) (b:=2^k) (by omega) (by have:=pow_lt (a:=k) (by omega);omega)
   have HST:=Lq hst;have HMT:=Lq hmt;have HMK:=Lq hmk;obtain⟨P,hP⟩:=ex ((2^k:Nat));have hml:=manyTo_le hc8 k;obtain⟨m,hm⟩:=ex (manyTo c k);rw[hP]at hsh hor HST;rw[hm]at HMT HMK hml ⊢;obtain⟨S,hS⟩:=ex (s|||P)
   rw[hS]at hor HST;clear hst hmt hmk hP hm hS hx hs hwr;go_wp2_with fail
   go_region
   all_goals go_wp2_with fail
   refine⟨⟨k+1,by omega,by go_num,by rw[HMT.out,HMK.out],Lq (B0.out.far (by simp only;omega) _),Lq ?_,Lq (belowDrB (belowS HB.out (by simp only;omega) _))⟩,by simp[intOf];omega⟩
   rw[HST.out];exact B1.out.setNat x S
  ·obtain rfl:k=n:=by omega
   clear hwr;have hml:=manyTo_le hc8 k;obtain⟨s0,s1,s2,s3,s4,s5,s6,s7,hse⟩:=eight (blkTo_len c k);have hB1:=B1.out;rw[hse]at hB1;have e0:wr.cell? ⟨w.heap.size+1,0,none⟩=some (nv s0):=hB1.nat rfl;have e1:wr.cell? ⟨w.heap.size+1,1,none⟩=some (nv s1):=hB1.nat rfl;have e2:wr.cell? ⟨w.heap.size+1,2,none⟩=some (nv s2):=hB1.nat rfl;have e3:wr.cell? ⟨w.heap.size+1,3,none⟩=some (nv s3):=hB1.nat rfl;have e4:wr.cell? ⟨w.heap.size+1,4,none⟩=some (nv s4):=hB1.nat rfl;have e5:wr.cell? ⟨w.heap.size+1,5,none⟩=some (nv s5):=hB1.nat rfl;have e6:wr.cell? ⟨w.heap.size+1,6,none⟩=some (nv s6):=hB1.nat rfl;have e7:wr.cell? ⟨w.heap.size+1,7,none⟩=some (nv s7):=hB1.nat rfl;have f0:=hB1.frozen 0;have f1:=hB1.frozen 1;have f2:=hB1.frozen 2;have f3:=hB1.frozen 3;have f4:=hB1.frozen 4;have f5:=hB1.frozen 5;have f6:=hB1.frozen 6;have f7:=hB1.frozen 7;have HB1:=Lq hB1;have HSE:=Lq hse;clear hB1 hse;go_wp2_with fail;obtain⟨wx,hwx⟩:=ex (((((((((wr.setCell ⟨w.heap.size+1,0,none⟩ (nv s0)).setCell ⟨w.heap.size+1,1,none⟩ (nv s1)).setCell ⟨w.heap.size+1,2,none⟩ (nv s2)).setCell ⟨w.heap.size+1,3,none⟩ (nv s3)).setCell ⟨w.heap.size+1,4,none⟩ (nv s4)).setCell ⟨w.heap.size+1,5,none⟩ (nv s5)).setCell ⟨w.heap.size+1,6,none⟩ (nv s6)).setCell ⟨w.heap.size+1,7,none⟩ (nv s7)));have hbx:Blk wx (w.heap.size+1) 168 ([s0,s1,s2,s3,s4,s5,s6,s7].map nv).toArray:=by rw[←hwx];exact(((((((HB1.out.setNat 0 s0).setNat 1 s1).setNat 2 s2).setNat 3 s3).setNat 4 s4).setNat 5 s5).setNat 6 s6).setNat 7 s7
   have hbw:BW w wx:=by
    rw[←hwx];have hle:w.heap.size≤w.heap.size+1:=by omega
    exact belowS (belowS (belowS (belowS (belowS (belowS (belowS (belowS HB.out hle _) hle _) hle _) hle _) hle _) hle _) hle _) hle _
   rw[hwx];clear hwx e0 e1 e2 e3 e4 e5 e6 e7 f0 f1 f2 f3 f4 f5 f6 f7;have e0:wx.cell? ⟨w.heap.size+1,0,none⟩=some (nv s0):=hbx.nat rfl;have e1:wx.cell? ⟨w.heap.size+1,1,none⟩=some (nv s1):=hbx.nat rfl;have e2:wx.cell? ⟨w.heap.size+1,2,none⟩=some (nv s2):=hbx.nat rfl;have e3:wx.cell? ⟨w.heap.size+1,3,none⟩=some (nv s3):=hbx.nat rfl;have e4:wx.cell? ⟨w.heap.size+1,4,none⟩=some (nv s4):=hbx.nat rfl;have e5:wx.cell? ⟨w.heap.size+1,5,none⟩=some (nv s5):=hbx.nat rfl;have e6:wx.cell? ⟨w.heap.size+1,6,none⟩=some (nv s6):=hbx.nat rfl;have e7:wx.cell? ⟨w.heap.size+1,7,none⟩=some (nv s7):=hbx.nat rfl;refine bodyPost_ret (v:=.tuple #[.agg #[nv s0,nv s1,nv s2,nv s3,nv s4,nv s5,nv s6,nv s7],nv (manyTo c k)]) (by simp[results,Tryz.results91,go_sem,e0,e1,e2,e3,e4,e5,e6,e7]) rfl ?_
   refine HP.out _ _ ?_ hbw;rw[HSE.out];rfl
end
section
variable{g:Nat}{w:World}
theorem below8{a:World}(h:BW a w)(hg:a.heap.size≤g)(v0 v1 v2 v3 v4 v5 v6 v7:Value):BW a ((((((((w.setCell ⟨g,0,none⟩ v0).setCell ⟨g,1,none⟩ v1).setCell ⟨g,2,none⟩ v2).setCell ⟨g,3,none⟩ v3).setCell ⟨g,4,none⟩ v4).setCell ⟨g,5,none⟩ v5).setCell ⟨g,6,none⟩ v6).setCell ⟨g,7,none⟩ v7) :=
 belowS (belowS (belowS (belowS (belowS (belowS (belowS (belowS h hg _) hg _) hg _) hg _) hg _) hg _) hg _) hg _
theorem Blk.set8{t:TypeId}{x0 x1 x2 x3 x4 x5 x6 x7:Value}(h:Blk w g t #[x0,x1,x2,x3,x4,x5,x6,x7])(v0 v1 v2 v3 v4 v5 v6 v7:Value):Blk ((((((((w.setCell ⟨g,0,none⟩ v0).setCell ⟨g,1,none⟩ v1).setCell ⟨g,2,none⟩ v2).setCell ⟨g,3,none⟩ v3).setCell ⟨g,4,none⟩ v4).setCell ⟨g,5,none⟩ v5).setCell ⟨g,6,none⟩ v6).setCell ⟨g,7,none⟩ v7) g t #[v0,v1,v2,v3,v4,v5,v6,v7]:=by
 have:=(((((((h.set_ 0 v0).set_ 1 v1).set_ 2 v2).set_ 3 v3).set_ 4 v4).set_ 5 v5).set_ 6 v6).set_ 7 v7
 simpa using this
theorem reg28_15{Q:Exit→Act→World→Prop}{V:World}{gc:Nat}{c:List Nat}{c0 c1 c2 c3 c4 c5 c6 c7 n cap:Nat}{A:Option Addr}{zA zB zC zD zE zF zG zH zJ zL zM zN zO zP zQ zR zS zT zU zV zW zX zY zZ za zb zc zd ze zf zg zh zi zj zk zl zm zn zo zp zq zr zs zt zu zv zw zx zy zz zAA zAB zAC zAD zAE zAF zAG zAH zAI zAJ zAK zAL zAM zAN zAO zAP zAQ zAR zAS zAT zAU zAV zAW zAX zAY zAZ zAa zAb zAc zAd zAe zAf zAg zAh zAi zAj zAk zAl zAm:Value}(hce:c=[c0,c1,c2,c3,c4,c5,c6,c7])(hc8:∀x∈c,x<8)(hn:n≤8)(hS:∀W,BW V W→W.cell? ⟨gc,0,none⟩=some (nv c0)∧W.cell? ⟨gc,1,none⟩=some (nv c1)∧W.cell? ⟨gc,2,none⟩=some (nv c2)∧W.cell? ⟨gc,3,none⟩=some (nv c3)∧W.cell? ⟨gc,4,none⟩=some (nv c4)∧W.cell? ⟨gc,5,none⟩=some (nv c5)∧W.cell? ⟨gc,6,none⟩=some (nv c6)∧W.cell? ⟨gc,7,none⟩=some (nv c7)∧W.cell? ⟨g,0,none⟩=some (.slice A n cap))(hQ:∀gg u60 u61 u62 u63 u64 u65 u66 u67 u68 u69 u70 wx,V.heap.size≤gg→gg<wx.heap.size→BW V wx→Blk wx gg 168 ((blkTo c n).map nv).toArray→Q .normal ⟨#[zA,zB,zC,zD,zE,zF,zG,zH,ptr g,zJ,pT gc 0,zL,zM,zN,pT gg 0,nv (manyTo c n),zQ,zR,zS,zT,zU,zV,zW,zX,zY,zZ,za,zb,zc,zd,ze,zf,zg,zh,zi,zj,zk,zl,zm,zn,zo,zp,zq,zr,zs,zt,zu,zv,zw,zx,zy,zz,zAA,zAB,zAC,zAD,zAE,zAF,zAG,zAH,u60,u61,u62,u63,u64,u65,u66,u67,u68,u69,u70,zAT,zAU,zAV,zAW,zAX,zAY,zAZ,zAa,zAb,zAc,zAd,zAe,zAf,zAg,zAh,zAi,zAj,zAk,zAl,zAm],[]⟩ wx) :
  (regionOf Tryz.f38 15).wp Tryz.prog Q ⟨#[zA,zB,zC,zD,zE,zF,zG,zH,ptr g,zJ,pT gc 0,zL,zM,zN,zO,zP,zQ,zR,zS,zT,zU,zV,zW,zX,zY,zZ,za,zb,zc,zd,ze,zf,zg,zh,zi,zj,zk,zl,zm,zn,zo,zp,zq,zr,zs,zt,zu,zv,zw,zx,zy,zz,zAA,zAB,zAC,zAD,zAE,zAF,zAG,zAH,zAI,zAJ,zAK,zAL,zAM,zAN,zAO,zAP,zAQ,zAR,zAS,zAT,zAU,zAV,zAW,zAX,zAY,zAZ,zAa,zAb,zAc,zAd,zAe,zAf,zAg,zAh,zAi,zAj,zAk,zAl,zAm],[]⟩ V:=by
 have HQ:=Lq hQ;have HS:=Lq hS;have hcl:c.length=8:=by rw[hce];rfl
 have hbk:=fun W=>blocks_any c n W hcl hc8 hn
 have hcv:cutV c=.agg #[nv c0,nv c1,nv c2,nv c3,nv c4,nv c5,nv c6,nv c7]:=by rw[hce];rfl
 obtain⟨s0,s1,s2,s3,s4,s5,s6,s7,hse⟩:=eight (blkTo_len c n);have hsv:cutV (blkTo c n)=.agg #[nv s0,nv s1,nv s2,nv s3,nv s4,nv s5,nv s6,nv s7]:=by rw[hse];rfl
 unfold BlocksPost at hbk;rw[hcv,hsv]at hbk;have HBK:=Lq hbk;have hQ2:∀gg u60 u61 u62 u63 u64 u65 u66 u67 u68 u69 u70 wx,V.heap.size≤gg→gg<wx.heap.size→BW V wx→Blk wx gg 168 #[nv s0,nv s1,nv s2,nv s3,nv s4,nv s5,nv s6,nv s7]→Q .normal ⟨#[zA,zB,zC,zD,zE,zF,zG,zH,ptr g,zJ,pT gc 0,zL,zM,zN,pT gg 0,nv (manyTo c n),zQ,zR,zS,zT,zU,zV,zW,zX,zY,zZ,za,zb,zc,zd,ze,zf,zg,zh,zi,zj,zk,zl,zm,zn,zo,zp,zq,zr,zs,zt,zu,zv,zw,zx,zy,zz,zAA,zAB,zAC,zAD,zAE,zAF,zAG,zAH,u60,u61,u62,u63,u64,u65,u66,u67,u68,u69,u70,zAT,zAU,zAV,zAW,zAX,zAY,zAZ,zAa,zAb,zAc,zAd,zAe,zAf,zAg,zAh,zAi,zAj,zAk,zAl,zAm],[]⟩ wx:=fun gg u60 u61 u62 u63 u64 u65 u66 u67 u68 u69 u70 wx a b d e=>HQ.out gg u60 u61 u62 u63 u64 u65 u66 u67 u68 u69 u70 wx a b d (by rw[hse];exact e)
 have HQ2:=Lq hQ2;clear hQ hS hbk hcv hsv hse hQ2 HQ hce;conv=>arg 2;whnf
 have hb0:BW V V.drew:=belowDq (bR V);have HB0:=Lq hb0;clear hb0;go_region_held3 (fun W=>W.cell? ⟨gc,0,none⟩=some (nv c0)∧W.cell? ⟨gc,1,none⟩=some (nv c1)∧W.cell? ⟨gc,2,none⟩=some (nv c2)∧W.cell? ⟨gc,3,none⟩=some (nv c3)∧W.cell? ⟨gc,4,none⟩=some (nv c4)∧W.cell? ⟨gc,5,none⟩=some (nv c5)∧W.cell? ⟨gc,6,none⟩=some (nv c6)∧W.cell? ⟨gc,7,none⟩=some (nv c7)∧W.cell? ⟨g,0,none⟩=some (.slice A n cap)) (first | (with_reducible exact HS.out _ HB0.out) | (with_reducible exact HS.out _ (belowDq (bA (bR V) _))) | (with_reducible exact HS.out _ hb1) | (with_reducible exact HS.out _ (bA hb1 _)) | (with_reducible exact HS.out _ (below8 hb1 (lr _) _ _ _ _ _ _ _ _)) | (with_reducible exact HS.out _ (below8 (bA hb1 _) hb1.size _ _ _ _ _ _ _ _))) (((go_at_call 91;(first | ((with_reducible refine(HBK.out V.drew).mono ?_);rintro e w1 ⟨rfl,hb1'⟩;have hb1:=bT HB0.out hb1') | ((with_reducible refine(HBK.out (V.alloc (.cells #[iv 0,iv 0,iv 0,iv 0,iv 0,iv 0,iv 0,iv 0] 168)).drew).mono ?_);rintro e w1 ⟨rfl,hb1'⟩;have hb1:=bT (belowDq (bA (bR V) _)) hb1';have hbl:Blk w1 V.heap.size 168 #[iv 0,iv 0,iv 0,iv 0,iv 0,iv 0,iv 0,iv 0]:=(Blk.new V 168 #[iv 0,iv 0,iv 0,iv 0,iv 0,iv 0,iv 0,iv 0]).same (hb1'.block V.heap.size (by simp));have e0:w1.cell? ⟨V.heap.size,0,none⟩=some (iv 0):=hbl.cell 0;have f0:=hbl.frozen 0;have e1:w1.cell? ⟨V.heap.size,1,none⟩=some (iv 0):=hbl.cell 1;have f1:=hbl.frozen 1;have e2:w1.cell? ⟨V.heap.size,2,none⟩=some (iv 0):=hbl.cell 2;have f2:=hbl.frozen 2;have e3:w1.cell? ⟨V.heap.size,3,none⟩=some (iv 0):=hbl.cell 3;have f3:=hbl.frozen 3;have e4:w1.cell? ⟨V.heap.size,4,none⟩=some (iv 0):=hbl.cell 4;have f4:=hbl.frozen 4;have e5:w1.cell? ⟨V.heap.size,5,none⟩=some (iv 0):=hbl.cell 5;have f5:=hbl.frozen 5;have e6:w1.cell? ⟨V.heap.size,6,none⟩=some (iv 0):=hbl.cell 6;have f6:=hbl.frozen 6;have e7:w1.cell? ⟨V.heap.size,7,none⟩=some (iv 0):=hbl.cell 7;have f7:=hbl.frozen 7;have hlt:=hbl.lt)))))
 ·exact HQ2.out w1.heap.size _ _ _ _ _ _ _ _ _ _ _ _ hb1.size (by simp) (bA hb1 _) (Blk.new w1 168 _)
 ·exact HQ2.out V.heap.size _ _ _ _ _ _ _ _ _ _ _ _ (lr _) (by simpa using hlt) (below8 hb1 (lr _) _ _ _ _ _ _ _ _) (hbl.set8 _ _ _ _ _ _ _ _)
end
section
variable{x:Int}{k m many:Nat}
def numsTo(nums:List Int)(k:Nat):List Nat:=(nums.take k).map Int.toNat++List.replicate (8-k) 0
def cut8(nums:List Int):List Nat:=numsTo nums nums.length
def cutOkTo(nums:List Int):Nat→Bool
 | 0=>true
 | k+1=>cutOkTo nums k&&(match nums[k]? with
  | some x=>decide (0≤x∧x≤(manyTo (cut8 nums) k:Int))
  | none=>true)
theorem numsTo_len(nums:List Int)(hk:k≤nums.length)(h8:nums.length≤8):(numsTo nums k).length=8:=by simp[numsTo];omega
theorem numsTo_set(nums:List Int)(hx:nums[k]?=some x)(h8:nums.length≤8):(numsTo nums k).set k x.toNat=numsTo nums (k+1):=by
 obtain⟨hk,rfl⟩:=List.getElem?_eq_some_iff.1 hx;have e:8-k=(8-(k+1))+1:=by omega
 unfold numsTo;rw[List.set_append_right _ _ (by simp;omega),e,List.replicate_succ,List.take_succ_eq_append_getElem hk,List.map_append]
 have:k-(List.map Int.toNat (List.take k nums)).length=0:=by simp;omega
 rw[this];simp
theorem numsTo_at(nums:List Int)(hk:k<nums.length)(h8:nums.length≤8):(numsTo nums k)[k]?=some 0:=by
 have e:((nums.take k).map Int.toNat).length=k:=by simp;omega
 unfold numsTo;rw[List.getElem?_append_right (by omega),e,List.getElem?_replicate,if_pos (by omega)]
theorem cut8_at(nums:List Int)(hx:nums[k]?=some x):(cut8 nums)[k]?=some x.toNat:=by
 obtain⟨hk,rfl⟩:=List.getElem?_eq_some_iff.1 hx;unfold cut8 numsTo;rw[List.take_length,List.getElem?_append_left (by simpa using hk),List.getElem?_map,gE hk]
 rfl
theorem manyTo_step{c:List Nat}{n:Nat}(h:c[k]?=some n):manyTo c (k+1)=max (manyTo c k) (n+1):=by rw[manyTo,h]
theorem cutOkTo_mono{nums:List Int}:∀k,k≤m→cutOkTo nums m=true→cutOkTo nums k=true:=by
 induction m with
 | zero =>
  intro k hk h;obtain rfl:k=0:=by omega
  exact h
 | succ m ih =>
  intro k hk h;rcases Nat.lt_or_ge k (m+1)with hlt | hge
  ·rw[cutOkTo,Bool.and_eq_true]at h;exact ih k (by omega) h.1
  ·obtain rfl:k=m+1:=by omega
   exact h
theorem cutOkTo_false{nums:List Int}(hk:k≤m)(h:cutOkTo nums k=false):cutOkTo nums m=false:=by
 cases hm:cutOkTo nums m with
 | false=>rfl
 | true=>rw[cutOkTo_mono k hk hm]at h;cases h
theorem many_le_k{nums:List Int}:∀k,k≤nums.length→cutOkTo nums k=true→manyTo (cut8 nums) k≤k:=by
 intro k;induction k with
 | zero=>intro _ _;simp[manyTo]
 | succ k ih =>
  intro hk h;have hx:=gE (show k<nums.length by omega)
  rw[cutOkTo,hx,Bool.and_eq_true]at h;have:=ih (by omega) h.1
  have h2:=h.2;simp only[decide_eq_true_eq]at h2;rw[manyTo_step (cut8_at nums hx)];omega
theorem cut8_lt{nums:List Int}(h8:nums.length≤8)(h:cutOkTo nums nums.length=true):∀x∈cut8 nums,x<8:=by
 intro x hx;unfold cut8 numsTo at hx;rw[List.take_length]at hx;rcases List.mem_append.1 hx with hx | hx
 ·obtain⟨y,hy,rfl⟩:=List.mem_map.1 hx;obtain⟨k,hk⟩:=List.getElem?_of_mem hy;have hkl:=(lG hk);have h1:=cutOkTo_mono (k+1) (by omega) h
  rw[cutOkTo,hk,Bool.and_eq_true]at h1;have h2:=h1.2;simp only[decide_eq_true_eq]at h2;have:=many_le_k k (by omega) h1.1
  omega
 ·rw[List.mem_replicate]at hx;omega
def goodS(h:Hul)(N:List Nd)(s:Nat):Bool:=hangsB h.js s&&decide (mostV h N s*h.shi≤1000*h.winch)
def badAt(h:Hul)(N:List Nd)(sets:List Nat)(many:Nat):Int:=match(List.range many).find? (fun i=>!goodS h N (sets[i]?.getD 0))with
 | some i=>(i:Int)
 | none=>-1
theorem badAt_none{h:Hul}{N:List Nd}{sets:List Nat}(hh:∀i,i<many→goodS h N (sets[i]?.getD 0)=true):badAt h N sets many = -1:=by unfold badAt;rw[List.find?_range_eq_none.2 (fun i hi=>by rw[hh i hi];rfl)]
theorem badAt_some{h:Hul}{N:List Nd}{sets:List Nat}{i:Nat}(hi:i<many)(hh:∀j,j<i→goodS h N (sets[j]?.getD 0)=true)(hb:goodS h N (sets[i]?.getD 0)=false):badAt h N sets many=(i:Int):=by unfold badAt;rw[List.find?_range_eq_some.2 ⟨by rw[hb];rfl,by simpa using hi,fun j hj=>by rw[hh j hj];rfl⟩]
def BadPost(h:Hul)(l:List Wgh)(nums:List Int)(w:World)(e:Ending)(w':World):Prop :=
 BW w w'∧((openE h l≠0∧e=.returned (.tuple #[iv 0,iv (openE h l)]))∨(openE h l=0∧openPre h l=0∧Feas h l ∧
  ((nums.length≠h.ps.length∧e=.returned (.tuple #[iv 0,iv 3]))∨(nums.length=h.ps.length∧cutOkTo nums nums.length=false∧e=.returned (.tuple #[iv 0,iv 6])) ∨
   (nums.length=h.ps.length∧cutOkTo nums nums.length=true∧∃N,IsTree h l N∧e=.returned (.tuple #[iv (badAt h N (blkTo (cut8 nums) h.ps.length) (manyTo (cut8 nums) h.ps.length)),iv 0])))))
theorem blkTo_lt2(c:List Nat):∀k,∀x∈blkTo c k,x<2^k:=by
 intro k;induction k with
 | zero =>
  intro x hx;rw[blkTo,List.mem_replicate]at hx;omega
 | succ k ih =>
  intro x hx;have h2:2^(k+1)=2*2^k:=by rw[Nat.pow_succ];omega
  have hp:1≤2^k:=Nat.one_le_two_pow;rw[blkTo]at hx;split at hx
  ·rename_i n _;rcases List.mem_or_eq_of_mem_set hx with h | h
   ·have:=ih x h;omega
   ·rw[h];refine Nat.or_lt_two_pow (n:=k+1) ?_ (by omega)
    cases hg:(blkTo c k)[n]? with
    | none=>exact Nat.two_pow_pos _
    | some y =>
     have:=ih y (List.mem_of_getElem? hg);simp;omega
  ·have:=ih x hx;omega
theorem bad_any(h:Hul)(A J:Option Addr)(B cap capJ:Nat)(AL:Option Addr)(l:List Wgh)(capL:Nat)(AN:Option Addr)(nums:List Int)(capN:Nat)(w:World)(hH:HulRd w B h A cap J capJ)(hL:RdN 3 encWgh w B AL l)(hlc:l.length≤capL)(hN:Rd1 iv w B AN nums)(hnl:nums.length≤maxLen)(hB:B≤w.heap.size) :
  Cs 38 #[hv h A cap J capJ,.slice AL l.length capL,.slice AN nums.length capN] w (BadPost h l nums w):=by
 have hmx:nums.length≤9223372036854775807:=by unfold maxLen at hnl;omega
 obtain⟨W1,hW1,hb0,hz1,p0,p1,p2,p3,p4⟩:=hulBox w h A cap J capJ;have hop:=open_any h A J B cap capJ AL l capL W1 (hH.below hb0 hB) (hL.below hb0 hB) hlc (lT hB hb0.size);have HOP:=Lq hop;have HB0:=Lq hb0;have HNR:=Lq hN;have hz1:w.heap.size≤W1.heap.size:=hb0.size;clear hop hb0 hH hL hN;go_enter Tryz.func38,Tryz.ntmps38
 go_wp2_with fail;refine HOP.out.mono ?_;intro e w1 hpost;obtain⟨hb1,hpost⟩:=openPost_cases hpost;have HB1:=Lq (bT HB0.out hb1);have hz2:=hb1.size;clear hb1 HOP hW1 HB0 p0 p1 p2 p3 p4;rcases hpost with⟨hne,rfl⟩ | ⟨h0,hp,hf,N,g,bs,br,km,BD,hNT,rfl,HD⟩
 ·obtain⟨E,hE⟩:=ex (openE h l);have HE:=Lq hE;rw[hE]at hne ⊢;have hcb:(E==0)=false:=by simpa using hne
  clear hE;go_wp2_with fail
  go_ret2
  exact⟨HB1.out,.inl ⟨by rw[HE.out];exact hne,by rw[HE.out];rfl⟩⟩
 ·have hk:=hulOk (openPre_zero hp).1;have hn8:=hk.n8;have hT:=treeOk_isTree hp hNT;have hkm:=HD.kn.lt;have hk0:=HD.k0;have c0:=HD.st.c0;have HD0:=Lq HD;by_cases hnn:nums.length=h.ps.length
  case neg =>
   have hcb:((nums.length:Int)==(h.ps.length:Int))=false:=by rw[beq_eq_false_iff_ne];omega
   go_wp2_with fail
   go_ret2
   exact⟨HB1.out,.inr ⟨h0,hp,hf,.inl ⟨hnn,rfl⟩⟩⟩
  case pos =>
  have HFC:Hid (∀e w',BW w w'→((cutOkTo nums nums.length=false∧e=.returned (.tuple #[iv 0,iv 6]))∨(cutOkTo nums nums.length=true∧e=.returned (.tuple #[iv (badAt h N (blkTo (cut8 nums) h.ps.length) (manyTo (cut8 nums) h.ps.length)),iv 0])))→BadPost h l nums w e w'):=Lq fun e w' a b=>⟨a,.inr ⟨h0,hp,hf,b.elim (fun b=>.inr (.inl ⟨hnn,b.1,b.2⟩)) (fun b=>.inr (.inr ⟨hnn,b.1,N,hNT,b.2⟩))⟩⟩
  have HBD:Hid (∀s,s<2^h.ps.length→0≤mostV h N s∧mostV h N s≤42949672960):=Lq fun s hs=>by have:=mostV_bd hp hNT hf hs;omega
  clear HD hf h0;go_wp2_with fail;obtain⟨w2,hw2⟩:=ex (w1.alloc (.cells #[iv 0,iv 0,iv 0,iv 0,iv 0,iv 0,iv 0,iv 0] 169));have hb2:BW w1 w2:=by rw[←hw2];exact bA (bR _) _
  have b2:Blk w2 w1.heap.size 169 ((numsTo nums 0).map nv).toArray:=by rw[←hw2];exact Blk.new w1 169 _
  have B2:=Lq b2;have HB2:=Lq hb2;have hw2z:w1.heap.size<w2.heap.size:=by rw[←hw2];simp
  have HNE:=Lq hnn;rw[hw2];clear hw2 hb2 b2 ;go_loopw [11,40] (fun vm vi wr=>∃k:Nat,k≤h.ps.length∧vi=iv k∧vm=iv (manyTo (cut8 nums) k)∧manyTo (cut8 nums) k≤k∧Hid (cutOkTo nums k=true)∧Hid (Blk wr w1.heap.size 169 ((numsTo nums k).map nv).toArray)∧Hid (BW w1 wr)) (fun _ vi _=>h.ps.length-(intOf vi).toNat)
  case atStart=>exact⟨0,Nat.zero_le _,rfl,rfl,by simp[manyTo],Lq rfl,B2,HB2⟩
  case round =>
   clear B2 HB2 hw2z w2;obtain⟨k,hkk,rfl,rfl,hmk,HOK,B2,HB2⟩:=hrel;have hwrz:=B2.out.lt;by_cases hlt:k<h.ps.length
   ·obtain⟨x,hx⟩:=gX (l:=nums) (i:=k) (by omega)
    obtain⟨bb,off,rfl,hbB,e0⟩:=(HNR.out.below (bT HB1.out HB2.out) hB) k x hx;have hcs:cutOkTo nums (k+1)=decide (0≤x∧x≤(manyTo (cut8 nums) k:Int)):=by rw[cutOkTo,HOK.out,hx];simp
    have HCS:=Lq hcs;obtain⟨m,hm⟩:=ex (manyTo (cut8 nums) k);have HM:=Lq hm;rw[hm]at HCS hmk ⊢;have HX:=Lq hx;clear hcs hm hx;by_cases hok:0≤x∧x≤(m:Int)
    ·have hst:=numsTo_set nums HX.out (by omega)
     have hms:=manyTo_step (cut8_at nums HX.out);rw[HM.out]at hms;obtain⟨x,rfl⟩:∃y:Nat,x=y:=⟨x.toNat,by omega⟩
     rw[Int.toNat_natCast]at hst hms;have hmz:((max m (x+1):Nat):Int)=max (m:Int) ((x:Int)+1):=by omega
     have c1:wr.cell? ⟨w1.heap.size,k,none⟩=some (nv 0):=B2.out.nat (numsTo_at nums (by omega) (by omega))
     have cf:=B2.out.frozen k;have HST:=Lq hst;have HMS:=Lq hms;have HMZ:=Lq hmz;clear hst hms hmz;go_wp2_with fail;refine⟨⟨k+1,by omega,by go_num,by rw[HMS.out,HMZ.out],by rw[HMS.out];omega,Lq (by rw[HCS.out];exact decide_eq_true hok),Lq ?_,Lq (belowS HB2.out (lr _) _)⟩,by simp[intOf];omega⟩
     rw[←HST.out];exact B2.out.setNat k x
    ·have hcf:cutOkTo nums nums.length=false:=cutOkTo_false (k:=k+1) (by omega) (by rw[HCS.out];exact decide_eq_false hok)
     have HCF:=Lq hcf;clear hcf;go_wp2_with fail;all_goals(
      go_ret2
      exact HFC.out _ _ (bT HB1.out HB2.out) (.inl ⟨HCF.out,rfl⟩))
   ·obtain rfl:k=h.ps.length:=by omega
    have hokn:cutOkTo nums nums.length=true:=by rw[hnn];exact HOK.out
    have hc8:=cut8_lt (by omega) hokn
    have hb:Blk wr w1.heap.size 169 ((cut8 nums).map nv).toArray:=by have:=B2.out;unfold cut8;rw[hnn];exact this
    have hcl:(cut8 nums).length=8:=numsTo_len nums (lr _) (by omega)
    obtain⟨c,hc⟩:=ex (cut8 nums);rw[hc]at hc8 hb hcl hmk;have hds:=HD0.out.st.below HB2.out;have hkn:=HD0.out.kn.below HB2.out;have HC:=Lq hc;have HOKN:=Lq hokn;obtain⟨a0,a1,a2,a3,a4,a5,a6,a7,hce⟩:=eight hcl;have hS:∀W,BW wr W→W.cell? ⟨w1.heap.size,0,none⟩=some (nv a0)∧W.cell? ⟨w1.heap.size,1,none⟩=some (nv a1)∧W.cell? ⟨w1.heap.size,2,none⟩=some (nv a2)∧W.cell? ⟨w1.heap.size,3,none⟩=some (nv a3)∧W.cell? ⟨w1.heap.size,4,none⟩=some (nv a4)∧W.cell? ⟨w1.heap.size,5,none⟩=some (nv a5)∧W.cell? ⟨w1.heap.size,6,none⟩=some (nv a6)∧W.cell? ⟨w1.heap.size,7,none⟩=some (nv a7)∧W.cell? ⟨g,0,none⟩=some (.slice A h.ps.length cap):=fun W hb'=>by have hb2:=hb.same (hb'.block _ hb.lt);rw[hce]at hb2;exact⟨hb2.nat rfl,hb2.nat rfl,hb2.nat rfl,hb2.nat rfl,hb2.nat rfl,hb2.nat rfl,hb2.nat rfl,hb2.nat rfl,kC hb' hds.c0⟩
    have HDS:=Lq hds;have HKN:=Lq hkn;have HS:=Lq hS;clear hS hds hkn hb hc hokn HOK B2;go_wp2_with fail;go_upto_region 15 with fail
    rw[HC.out];refine reg28_15 hce hc8 hn8 HS.out ?_;intro gg u60 u61 u62 u63 u64 u65 u66 u67 u68 u69 u70 wx hgg hgl hbx hblk;dsimp only;have hml:=manyTo_le hc8 h.ps.length;have hw5:=HDS.out.below hbx;have hk5:=HKN.out.below hbx;obtain⟨M,hM⟩:=ex (manyTo c h.ps.length);obtain⟨S,hS⟩:=ex (blkTo c h.ps.length);have hSl:S.length=8:=by rw[←hS];exact blkTo_len _ _
    have hS2:∀x∈S,x<2^h.ps.length:=by rw[←hS];exact blkTo_lt2 _ _
    have hS256:∀x∈S,x<256:=by rw[←hS];exact blkTo_lt _ _ hn8
    rw[hM]at hml ⊢;rw[hS]at hblk;have HFC2:Hid (∀e w',BW w w'→e=.returned (.tuple #[iv (badAt h N S M),iv 0])→BadPost h l nums w e w'):=Lq fun e w' a b=>HFC.out e w' a (.inr ⟨HOKN.out,by rw[HC.out,hM,hS];exact b⟩)
    have HBX:=Lq (bT HB2.out hbx);have HBLK:=Lq hblk;have HDS5:=Lq hw5;have HKN5:=Lq hk5;have hkx:=hk5.lt;have hgx:km<wr.heap.size:=HKN.out.lt;have hslx:=fun W=>slice122 W gg M hml
    clear hM hS hw5 hk5 hblk hbx HS HDS HKN HFC HB2 HNR;go_wp2_with fail;clear hslx;go_loopw [74] (fun vi wr2=>∃i:Nat,i≤M∧vi=iv i∧Hid (OnlyAt wx wr2 km)∧Hid (KnownAt wr2 km (mostV h N))∧Hid (∀j,j<i→goodS h N (S[j]?.getD 0)=true)) (fun vi _=>M-(intOf vi).toNat)
    case atStart=>exact⟨0,Nat.zero_le _,rfl,Lq (OnlyAt.refl wx km),HKN5,Lq (fun j hj=>by omega)⟩
    case round =>
     obtain⟨i,hi,rfl,HO,HK,HG⟩:=hrel;by_cases hlt2:i<M
     ·obtain⟨s,hs⟩:=gX (l:=S) (i:=i) (by omega)
      have hsm:=List.mem_of_getElem? hs;have hs256:=hS256 s hsm;have e0:wr.cell? ⟨gg,i,none⟩=some (nv s):=HO.out.cell (HBLK.out.nat hs) (by omega)
      have hds:=HDS5.out.only HO.out (.inl rfl);have hha:=hangs_any g s h.ps.length J h.js capJ BD wr hs256 hn8 hk.js hk.j12 hds.c1 hds.rj hds.hB;have hli:=fun W (hb:BW wr W)=>light_any (hds.below hb) hT (HK.out.below hb) s hs256 (by have:=hk.s1;have:=hk.s2;have:=hk.s3;omega) (by have:=hk.w1;have:=hk.w2;omega) (HBD.out s (hS2 s hsm))
      have hgs:goodS h N (S[i]?.getD 0)=(hangsB h.js s&&decide (mostV h N s*h.shi≤1000*h.winch)):=by rw[hs];rfl
      have HGS:=Lq hgs;have HLI:=Lq hli;obtain⟨q1,hq1⟩:=ex (hangsB h.js s);obtain⟨q2,hq2⟩:=ex (decide (mostV h N s*h.shi≤1000*h.winch));rw[hq1,hq2]at HGS;rw[hq2]at HLI;rw[hq1]at hha;have HHA:=Lq hha;clear hli hgs hq1 hq2 hs hha;go_wp2_with fail;refine HHA.out.mono ?_;rintro e w6 ⟨rfl,hb6⟩;have HB6:=Lq hb6;clear hb6;cases q1
      ·go_wp2_with fail
       go_ret2
       exact HFC2.out _ _ ((HO.out.trans (OnlyAt.of_below HB6.out km)).below (bT HB1.out HBX.out) (by omega)) (by rw[badAt_some hlt2 HG.out HGS.out];rfl)
      ·go_wp2_with fail;refine(HLI.out w6 HB6.out).mono ?_;rintro e w7 ⟨rfl,ho7,hk7⟩;have HO7:=Lq ((HO.out.trans (OnlyAt.of_below HB6.out km)).trans ho7);have HK7:=Lq hk7;clear ho7 hk7;cases q2
       ·go_wp2_with fail
        go_ret2
        exact HFC2.out _ _ (HO7.out.below (bT HB1.out HBX.out) (by omega)) (by rw[badAt_some hlt2 HG.out HGS.out];rfl)
       ·go_wp2_with fail;exact⟨⟨i+1,by omega,by go_num,HO7,HK7,Lq fun j hj=>by
         rcases Nat.lt_or_ge j i with hji | hji
         ·exact HG.out j hji
         ·obtain rfl:j=i:=by omega
          exact HGS.out⟩,by simp[intOf];omega⟩
     ·obtain rfl:i=M:=by omega
      go_wp2_with fail
      go_ret2
      exact HFC2.out _ _ (HO.out.below (bT HB1.out HBX.out) (by omega)) (by rw[badAt_none HG.out];rfl)
end
section
variable{m:Nat}
def firstAt(pred:Nat→Bool)(S:List Nat)(m:Nat):Int:=match(List.range m).find? (fun i=>pred (S[i]?.getD 0))with
 | some i=>(i:Int)
 | none=>-1
def anyToB(pred:Nat→Bool)(S:List Nat)(m:Nat):Bool:=(List.range m).any (fun i=>pred (S[i]?.getD 0))
theorem firstAt_none{pred:Nat→Bool}{S:List Nat}(h:∀i,i<m→pred (S[i]?.getD 0)=false):firstAt pred S m = -1:=by unfold firstAt;rw[List.find?_range_eq_none.2 (fun i hi=>by rw[h i hi];rfl)]
theorem firstAt_some{pred:Nat→Bool}{S:List Nat}{i:Nat}(hi:i<m)(h:∀j,j<i→pred (S[j]?.getD 0)=false)(hb:pred (S[i]?.getD 0)=true):firstAt pred S m=(i:Int):=by
 have e:(List.range m).find? (fun i=>pred (S[i]?.getD 0))=some i:=List.find?_range_eq_some.2 ⟨hb,by simpa using hi,fun j hj=>by rw[h j hj];rfl⟩
 unfold firstAt;rw[e]
theorem firstAt_any(pred:Nat→Bool)(S:List Nat)(m:Nat):decide (0≤firstAt pred S m)=anyToB pred S m:=by
 unfold firstAt anyToB;cases h:(List.range m).find? (fun i=>pred (S[i]?.getD 0))with
 | none =>
  rw[List.find?_eq_none]at h;have:(List.range m).any (fun i=>pred (S[i]?.getD 0))=false:=by rw[List.any_eq_false];exact h
  rw[this];rfl
 | some i =>
  have h1:=List.find?_some h;have h2:=List.mem_of_find?_eq_some h;have:(List.range m).any (fun i=>pred (S[i]?.getD 0))=true:=by rw[List.any_eq_true];exact⟨i,h2,h1⟩
  rw[this];simp
theorem nohang_any(g db s n capJ B:Nat)(Ja:Option Addr)(js:List (Int×Int))(w:World)(hs:s<256)(hn8:n≤8)(hj:JsOk n js)(hjl:js.length≤12)(hd:w.cell? ⟨db,0,none⟩=some (ptr g))(c1:w.cell? ⟨g,1,none⟩=some (.slice Ja js.length capJ))(hR:RdN 2 encSp w B Ja js)(hB:B≤w.heap.size) :
  Cs 132 #[iv s,ptr db] w (Rt w (.bool (!hangsB js s))):=by
 have hh:=hangs_any g s n Ja js capJ B w hs hn8 hj hjl c1 hR hB;have HH:=Lq hh;clear hh c1 hR hj;go_enter Tryz.func132,Tryz.ntmps132
 go_wp2_with fail;refine HH.out.mono ?_;rintro e w1 ⟨rfl,hb⟩;have HB:=Lq hb;clear hb HH hd;go_wp2_with fail;go_ret
 exact⟨rfl,HB.out⟩
theorem index115_any(a:Value)(pred:Nat→Bool)(Inv:World→Prop)(gg m:Nat)(S:List Nat)(w:World)(hm:m≤S.length)(h8:S.length≤8)(hI:Inv w)(hc:∀W,Inv W→∀i x,S[i]?=some x→W.cell? ⟨gg,i,none⟩=some (nv x))(hF:∀W x,Inv W→x∈S→Cs 132 #[iv (x:Nat),a] W fun e w'=>e=.returned (.bool (pred x))∧Inv w') :
  Cs 138 #[.slice (some ⟨gg,0,none⟩) m 8,.func (.func 132) #[] #[a]] w fun e w'=>e=.returned (iv (firstAt pred S m))∧Inv w':=by
 have HF:=Lq hF;have HC:=Lq hc;have HI:=Lq hI;clear hF hc hI;go_enter Tryz.func138,Tryz.ntmps138
 go_wp2_with fail;go_loopw [8] (fun vi wr=>∃i:Nat,i≤m∧vi=iv i∧Hid (Inv wr)∧Hid (∀j,j<i→pred (S[j]?.getD 0)=false)) (fun vi _=>m-(intOf vi).toNat)
 case atStart=>exact⟨0,Nat.zero_le _,rfl,HI,Lq (fun j hj=>by omega)⟩
 case round =>
  clear HI;obtain⟨i,hi,rfl,HI,HN⟩:=hrel;by_cases hlt:i<m
  ·obtain⟨x,hx⟩:=gX (l:=S) (i:=i) (by omega)
   have e0:=HC.out wr HI.out i x hx;have HX:=Lq hx;have hf:=HF.out wr x HI.out (List.mem_of_getElem? hx);have hp:pred (S[i]?.getD 0)=pred x:=by rw[hx];rfl
   have HP:=Lq hp;obtain⟨q,hq⟩:=ex (pred x);rw[hq]at hf HP;have HFF:=Lq hf;clear hf hp hq hx;go_wp2_with fail;refine HFF.out.mono ?_;rintro e w1 ⟨rfl,hI1⟩;have HI1:=Lq hI1;clear hI1;cases q
   ·go_wp2_with fail;exact⟨⟨i+1,by omega,by go_num,HI1,Lq fun j hj=>by
     rcases Nat.lt_or_ge j i with hji | hji
     ·exact HN.out j hji
     ·obtain rfl:j=i:=by omega
      exact HP.out⟩,by simp[intOf];omega⟩
   ·go_wp2_with fail;go_ret
    exact⟨by rw[firstAt_some hlt HN.out HP.out];rfl,HI1.out⟩
  ·obtain rfl:i=m:=by omega
   go_wp2_with fail;go_ret
   exact⟨by rw[firstAt_none HN.out];rfl,HI.out⟩
theorem contains115_any(a:Value)(pred:Nat→Bool)(Inv:World→Prop)(gg m:Nat)(S:List Nat)(w:World)(hm:m≤S.length)(h8:S.length≤8)(hI:Inv w)(hc:∀W,Inv W→∀i x,S[i]?=some x→W.cell? ⟨gg,i,none⟩=some (nv x))(hF:∀W x,Inv W→x∈S→Cs 132 #[iv (x:Nat),a] W fun e w'=>e=.returned (.bool (pred x))∧Inv w') :
  Cs 107 #[.slice (some ⟨gg,0,none⟩) m 8,.func (.func 132) #[] #[a]] w fun e w'=>e=.returned (.bool (anyToB pred S m))∧Inv w':=by
 have hi:=index115_any a pred Inv gg m S w hm h8 hI hc hF;have ha:=firstAt_any pred S m;obtain⟨q,hq⟩:=ex (firstAt pred S m);rw[hq]at hi ha;have HI:=Lq hi;have HA:=Lq ha;clear hi ha hI hc hF;go_enter Tryz.func107,Tryz.ntmps107
 go_wp2_with fail;refine HI.out.mono ?_;rintro e w1 ⟨rfl,hI1⟩;have HI1:=Lq hI1;clear hI1 HI;go_wp2_with fail;go_ret
 exact⟨by rw[←HA.out];rfl,HI1.out⟩
theorem index128_any(a b:Value)(pred:Nat→Bool)(Inv:World→Prop)(gg m:Nat)(S:List Nat)(w:World)(hm:m≤S.length)(h8:S.length≤8)(hI:Inv w)(hc:∀W,Inv W→∀i x,S[i]?=some x→W.cell? ⟨gg,i,none⟩=some (nv x))(hF:∀W x,Inv W→x∈S→Cs 158 #[iv (x:Nat),a,b] W fun e w'=>e=.returned (.bool (pred x))∧Inv w') :
  Cs 138 #[.slice (some ⟨gg,0,none⟩) m 8,.func (.func 158) #[] #[a,b]] w fun e w'=>e=.returned (iv (firstAt pred S m))∧Inv w':=by
 have HF:=Lq hF;have HC:=Lq hc;have HI:=Lq hI;clear hF hc hI;go_enter Tryz.func138,Tryz.ntmps138
 go_wp2_with fail;go_loopw [8] (fun vi wr=>∃i:Nat,i≤m∧vi=iv i∧Hid (Inv wr)∧Hid (∀j,j<i→pred (S[j]?.getD 0)=false)) (fun vi _=>m-(intOf vi).toNat)
 case atStart=>exact⟨0,Nat.zero_le _,rfl,HI,Lq (fun j hj=>by omega)⟩
 case round =>
  clear HI;obtain⟨i,hi,rfl,HI,HN⟩:=hrel;by_cases hlt:i<m
  ·obtain⟨x,hx⟩:=gX (l:=S) (i:=i) (by omega)
   have e0:=HC.out wr HI.out i x hx;have HX:=Lq hx;have hf:=HF.out wr x HI.out (List.mem_of_getElem? hx);have hp:pred (S[i]?.getD 0)=pred x:=by rw[hx];rfl
   have HP:=Lq hp;obtain⟨q,hq⟩:=ex (pred x);rw[hq]at hf HP;have HFF:=Lq hf;clear hf hp hq hx;go_wp2_with fail;refine HFF.out.mono ?_;rintro e w1 ⟨rfl,hI1⟩;have HI1:=Lq hI1;clear hI1;cases q
   ·go_wp2_with fail;exact⟨⟨i+1,by omega,by go_num,HI1,Lq fun j hj=>by
     rcases Nat.lt_or_ge j i with hji | hji
     ·exact HN.out j hji
     ·obtain rfl:j=i:=by omega
      exact HP.out⟩,by simp[intOf];omega⟩
   ·go_wp2_with fail;go_ret
    exact⟨by rw[firstAt_some hlt HN.out HP.out];rfl,HI1.out⟩
  ·obtain rfl:i=m:=by omega
   go_wp2_with fail;go_ret
   exact⟨by rw[firstAt_none HN.out];rfl,HI.out⟩
theorem contains128_any(a b:Value)(pred:Nat→Bool)(Inv:World→Prop)(gg m:Nat)(S:List Nat)(w:World)(hm:m≤S.length)(h8:S.length≤8)(hI:Inv w)(hc:∀W,Inv W→∀i x,S[i]?=some x→W.cell? ⟨gg,i,none⟩=some (nv x))(hF:∀W x,Inv W→x∈S→Cs 158 #[iv (x:Nat),a,b] W fun e w'=>e=.returned (.bool (pred x))∧Inv w') :
  Cs 107 #[.slice (some ⟨gg,0,none⟩) m 8,.func (.func 158) #[] #[a,b]] w fun e w'=>e=.returned (.bool (anyToB pred S m))∧Inv w':=by
 have hi:=index128_any a b pred Inv gg m S w hm h8 hI hc hF;have ha:=firstAt_any pred S m;obtain⟨q,hq⟩:=ex (firstAt pred S m);rw[hq]at hi ha;have HI:=Lq hi;have HA:=Lq ha;clear hi ha hI hc hF;go_enter Tryz.func107,Tryz.ntmps107
 go_wp2_with fail;refine HI.out.mono ?_;rintro e w1 ⟨rfl,hI1⟩;have HI1:=Lq hI1;clear hI1 HI;go_wp2_with fail;go_ret
 exact⟨by rw[←HA.out];rfl,HI1.out⟩
end
end Go.Proofs.YtigcophcpboanaaGreatDoor
namespace Go.Proofs.YtigcophcpboanaaGreatDoor
open Go.RowKit Go.Shelf
section
variable{i n o:Nat}{W X w w':World}
def pad(p:List Nat):List Nat:=p++List.replicate (8-p.length) 0
def hangCut(js:List (Int×Int))(p:List Nat)(n:Nat):Bool:=!anyToB (fun s=>!hangsB js s) (blkTo (pad p) n) (manyTo (pad p) n)
def cutsF(js:List (Int×Int))(n b:Nat):Nat→List Nat→Nat→List (List Nat)
 | 0,p,_=>if hangCut js p n then[pad p]else[]
 | k+1,p,next=>(List.range (min (next+1) b)).flatMap fun i=>cutsF js n b k (p++[i]) (max next (i+1))
def cutsTo(js:List (Int×Int))(n b k:Nat)(p:List Nat)(next i:Nat):List (List Nat):=(List.range i).flatMap fun i=>cutsF js n b k (p++[i]) (max next (i+1))
section
variable {js:List (Int×Int)} {n b k:Nat} {p:List Nat} {next:Nat}
theorem cutsTo_zero:cutsTo js n b k p next 0=[]:=rfl
theorem cutsTo_succ(i:Nat):cutsTo js n b k p next (i+1)=cutsTo js n b k p next i++cutsF js n b k (p++[i]) (max next (i+1)):=by unfold cutsTo;rw[List.range_succ,List.flatMap_append];simp
theorem cutsTo_prefix:∀(d i:Nat),cutsTo js n b k p next i <+: cutsTo js n b k p next (i+d):=by
 intro d;induction d with
 | zero=>intro i;exact List.prefix_refl _
 | succ d ih =>
  intro i;refine(ih i).trans ?_;rw[show i+(d+1)=(i+d)+1 from by omega,cutsTo_succ]
  exact List.prefix_append _ _
end
structure CutOk(n:Nat)(C p:List Nat):Prop where
 len:C.length=8
 lt:∀x∈C,x<8
 take:C.take p.length=p
 drop:C.drop n=List.replicate (8-n) 0
theorem CutOk.pad{C p:List Nat}(h:CutOk n C p)(hp:p.length=n):C=pad p:=by have e:C=C.take n++C.drop n:=(List.take_append_drop n C).symm;have h1:=h.take;rw[hp]at h1;rw[e,h1,h.drop];unfold Go.Proofs.YtigcophcpboanaaGreatDoor.pad;rw[hp]
theorem CutOk.push{C p:List Nat}(h:CutOk n C p)(hp:p.length<n)(hn:n≤8)(hi:i<8):CutOk n (C.set p.length i) (p++[i]):=by
 have hl:=h.len;refine⟨by rw[List.length_set];exact hl,fun x hx=>?_, ?_, ?_⟩
 ·rcases List.mem_or_eq_of_mem_set hx with hx | rfl
  ·exact h.lt x hx
  ·exact hi
 ·have e:(C.set p.length i)[p.length]?=some i:=by rw[List.getElem?_set_self (by omega)]
  obtain⟨h1,h2⟩:=List.getElem?_eq_some_iff.1 e;rw[List.length_append,List.length_singleton,List.take_succ_eq_append_getElem h1,h2,List.take_set_of_le (lr _),h.take]
 ·rw[List.drop_set_of_lt hp,h.drop]
theorem CutOk.pop{C p:List Nat}(h:CutOk n C (p++[i])):CutOk n C p:=by
 refine⟨h.len,h.lt, ?_,h.drop⟩;have:=congrArg (fun l=>l.take p.length) h.take
 simp only[List.take_take]at this;rw[List.length_append,List.length_singleton,Nat.min_eq_left (by omega),List.take_append_of_le_length (lr _),List.take_length]at this
 exact this
structure KeepMB(M:Nat→Prop)(w w':World):Prop where
 size:w.heap.size≤w'.heap.size
 same:∀k,¬M k→k<w.heap.size→w'.heap[k]?=w.heap[k]?
theorem KeepMB.refl(M:Nat→Prop)(w:World):KeepMB M w w:=⟨lr _,fun _ _ _=>rfl⟩
theorem KeepMB.trans{M:Nat→Prop}{Y Z:World}(h:KeepMB M X Y)(k:KeepMB M Y Z):KeepMB M X Z :=
 ⟨lT h.size k.size,fun i hi hlt=>(k.same i hi (lz hlt h.size)).trans (h.same i hi hlt)⟩
theorem KeepMB.of_below{M:Nat→Prop}(h:BW W X):KeepMB M W X:=⟨h.size,fun k _ hk=>h.block k hk⟩
theorem KeepMB.of_only{M:Nat→Prop}{km:Nat}(h:OnlyAt W X km)(hk:M km):KeepMB M W X:=⟨h.size,fun k hm hlt=>h.block k hlt (fun e=>hm (e▸hk))⟩
theorem KeepMB.set_{M:Nat→Prop}(W:World){c:Nat}(u:Value)(h:M c):KeepMB M W (W.setCell ⟨c,o,none⟩ u) :=
 ⟨by simp[World.setCell],fun k hk _=>Below.heap_setCell W ⟨c,o,none⟩ u k (fun e=>hk (e▸h))⟩
structure FillInv(M:Nat→Prop)(bw pb cb db yb qb fb l g n b B0 capJ:Nat)(J:Option Addr)(js:List (Int×Int))(W:World)(C:List Nat):Prop where
 hp:Blk W pb 3 #[nv n]
 hc:Blk W cb 169 (C.map nv).toArray
 hd:Blk W db 113 #[ptr g]
 hy:Blk W yb 216 #[.func (.yield l) #[] #[]]
 hq:Blk W qb 3 #[nv b]
 hf:Blk W fb 217 #[.func (.func 131) #[] #[ptr pb,ptr cb,ptr db,ptr yb,ptr qb,ptr fb]]
 c1:W.cell? ⟨g,1,none⟩=some (.slice J js.length capJ)
 rj:RdN 2 encSp W B0 J js
 size:bw≤W.heap.size
 b0:B0≤bw
 gl:g<bw
structure FillAt(M:Nat→Prop)(bw pb cb db yb qb fb g n b B0:Nat)(js:List (Int×Int)):Prop where
 m:∀k,M k→k<bw
 mp:¬M pb
 md:¬M db
 mq:¬M qb
 mg:¬M g
 m0:∀k,k<B0→¬M k
 c0:bw≤cb
 y0:bw≤yb
 f0:bw≤fb
 p0:pb<bw
 d0:db<bw
 q0:qb<bw
 cy:yb≠cb
 cf:fb≠cb
 n1:1≤n
 n8:n≤8
 jo:JsOk n js
 jl:js.length≤12
section
variable {M:Nat→Prop} {bw pb cb db yb qb fb l g n b B0 capJ:Nat} {J:Option Addr} {js:List (Int×Int)} {W W':World} {C:List Nat}
theorem cell_same{b:Nat}{v:Value}(h:w.cell? ⟨b,o,none⟩=some v)(hs:w'.heap[b]?=w.heap[b]?):w'.cell? ⟨b,o,none⟩=some v:=by rw[←h];simp only[World.cell?,hs]
theorem RdN.same{α:Type}{k:Nat}{enc:α→List Value}{B:Nat}{A:Option Addr}{xs:List α}(h:RdN k enc w B A xs)(hs:∀b,b<B→w'.heap[b]?=w.heap[b]?):RdN k enc w' B A xs :=
 h.keep fun p hp=>by simp only[World.cell?,hs p.block hp]
theorem FillInv.kept(h:FillInv M bw pb cb db yb qb fb l g n b B0 capJ J js W C)(A:FillAt M bw pb cb db yb qb fb g n b B0 js)(hk:KeepMB M W W'):FillInv M bw pb cb db yb qb fb l g n b B0 capJ J js W' C:=by
 have hge:∀k,bw≤k→¬M k:=fun k hk hm=>by have:=A.m k hm;omega
 exact⟨h.hp.same (hk.same _ A.mp h.hp.lt),h.hc.same (hk.same _ (hge _ A.c0) h.hc.lt),h.hd.same (hk.same _ A.md h.hd.lt),h.hy.same (hk.same _ (hge _ A.y0) h.hy.lt),h.hq.same (hk.same _ A.mq h.hq.lt),h.hf.same (hk.same _ (hge _ A.f0) h.hf.lt),
  cell_same h.c1 (hk.same _ A.mg (lt_of_cell h.c1)),h.rj.same (fun b hb=>hk.same _ (A.m0 b hb) (by have:=h.b0;have:=h.size;omega)),lT h.size hk.size,h.b0,h.gl⟩
theorem FillInv.below(h:FillInv M bw pb cb db yb qb fb l g n b B0 capJ J js W C)(A:FillAt M bw pb cb db yb qb fb g n b B0 js)(hb:BW W W'):FillInv M bw pb cb db yb qb fb l g n b B0 capJ J js W' C:=h.kept A (KeepMB.of_below hb)
theorem FillInv.put(h:FillInv M bw pb cb db yb qb fb l g n b B0 capJ J js W C)(A:FillAt M bw pb cb db yb qb fb g n b B0 js)(i x:Nat):FillInv M bw pb cb db yb qb fb l g n b B0 capJ J js (W.setCell ⟨cb,i,none⟩ (nv x)) (C.set i x):=by
 have hf:∀{k},k≠cb→(W.setCell ⟨cb,i,none⟩ (nv x)).heap[k]?=W.heap[k]?:=fun{k} hk=>Below.heap_setCell W ⟨cb,i,none⟩ (nv x) k hk
 have hc:=A.c0;exact⟨h.hp.same (hf (by have:=A.p0;omega)),h.hc.setNat i x,h.hd.same (hf (by have:=A.d0;omega)),h.hy.same (hf A.cy),h.hq.same (hf (by have:=A.q0;omega)),h.hf.same (hf A.cf),
  cell_same h.c1 (hf (by have:=h.gl;omega)),h.rj.same (fun b hb=>hf (by have:=h.b0;omega)),by simpa[World.setCell]using h.size,h.b0,h.gl⟩
theorem FillInv.nohang(h:FillInv M bw pb cb db yb qb fb l g n b B0 capJ J js W C)(A:FillAt M bw pb cb db yb qb fb g n b B0 js){s:Nat}(hs:s<256):Cs 132 #[iv s,ptr db] W (Rt W (.bool (!hangsB js s))) :=
 nohang_any g db s n capJ B0 J js W hs A.n8 A.jo A.jl (h.hd.cell 0) h.c1 h.rj (lT h.b0 h.size)
end
end
end Go.Proofs.YtigcophcpboanaaGreatDoor
