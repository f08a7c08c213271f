/- (*block.deck).weigh. (*block.deck).least, and what is found of a set that is not known. .. -/
import Derived.Maps.OwnSet
import Derived.Maps.OwnOps
import Derived.Maps.Ext
import Derived.Deep.LoopGhost
import Derived.BigRegion
import Derived.Shelf.SlicesE.Clone
import Derived.OneCell
import Derived.Test.YtigcophcpboanaaGreatDoorM3
set_option maxRecDepth 1000000
set_option maxHeartbeats 0
namespace Go.Proofs.YtigcophcpboanaaGreatDoor
open Go.RowKit
theorem reg76_5{Q:Exit→Act→World→Prop}{V:World}{gm gi:Nat}{ma mb mc md:Int}{v:Bool}{zA zB zC zD zG zH zI zJ zK zL zM zN zO zP:Value}(hne:gm≠gi)(k0:V.cell? ⟨gm,0,none⟩=some (iv ma))(k1:V.cell? ⟨gm,1,none⟩=some (iv mb))(k2:V.cell? ⟨gm,2,none⟩=some (iv mc))(k3:V.cell? ⟨gm,3,none⟩=some (iv md))(kv:V.cell? ⟨gi,0,none⟩=some (.bool v))(f0:V.frozen? ⟨gm,0,none⟩=false)(f1:V.frozen? ⟨gm,1,none⟩=false)(f2:V.frozen? ⟨gm,2,none⟩=false)(f3:V.frozen? ⟨gm,3,none⟩=false)(kg:V.frozen? ⟨gi,0,none⟩=false)(hQ:∀u14 u15 wx,wx.cell? ⟨gm,0,none⟩=some (iv ma)→wx.cell? ⟨gm,1,none⟩=some (iv mb)→wx.cell? ⟨gm,2,none⟩=some (iv mc)→wx.cell? ⟨gm,3,none⟩=some (iv md)→wx.cell? ⟨gi,0,none⟩=some (.bool v)→(∀n (a:World),n≤gm→n≤gi→Below n a V→Below n a wx)→Q .normal ⟨#[zA,zB,zC,zD,pT gm 0,pT gi 0,zG,zH,zI,zJ,zK,zL,zM,zN,u14,u15],[]⟩ wx) :
  (regionOf Tryz.f90 5).wp Tryz.prog Q ⟨#[zA,zB,zC,zD,pT gm 0,pT gi 0,zG,zH,zI,zJ,zK,zL,zM,zN,zO,zP],[]⟩ V:=by
 have HQ:=Lq hQ;have hne2:gi≠gm:=fun e=>hne e.symm
 clear hQ;conv=>arg 2;whnf
 go_region_held3 (fun W=>W.cell? ⟨gm,0,none⟩=some (iv ma)∧W.cell? ⟨gm,1,none⟩=some (iv mb)∧W.cell? ⟨gm,2,none⟩=some (iv mc)∧W.cell? ⟨gm,3,none⟩=some (iv md)∧W.cell? ⟨gi,0,none⟩=some (.bool v)) (refine⟨?_, ?_, ?_, ?_, ?_⟩<;>go_simp) (fail)
 exact HQ.out _ _ _ (by go_simp) (by go_simp) (by go_simp) (by go_simp) (by go_simp) (fun n a h1 h2 h=>belowDrB (((((h.setCell (p:=⟨gm,0,none⟩) h1 _).setCell (p:=⟨gm,1,none⟩) h1 _).setCell (p:=⟨gm,2,none⟩) h1 _).setCell (p:=⟨gm,3,none⟩) h1 _).setCell (p:=⟨gi,0,none⟩) h2 _))
structure TreeOk(ps:List Prt)(N:List Nd):Prop where
 po:PsOk ps
 pl:ps.length≤8
 nd:NOk N
 n0:0<N.length
 n7:N.length≤7
 kid:∀(i:Nat) (nd:Nd),N[i]?=some nd→∀j∈nd.kids,j<i
def wgh(ps:List Prt)(N:List Nd)(set:Nat):Mass×Bool:=upF N ps set N.length (N.length-1)
def WeighPostB(m:Mass)(v:Bool)(w:World)(e:Ending)(w':World):Prop:=e=.returned (.tuple #[massV m,.bool v])∧BW w w'
theorem weigh_any(B g:Nat)(A:Option Addr)(cap:Nat)(ps:List Prt)(set:Nat)(N:List Nd)(bs:List Nat)(br:Nat)(w:World)(hT:TreeOk ps N)(hs:set<256)(hbr:bs[N.length-1]?=some br)(htab:TabAt w B N bs)(d0:w.cell? ⟨g,0,none⟩=some (.slice A ps.length cap))(d5:w.cell? ⟨g,5,none⟩=some (ptr br))(hR:RdN 3 encPrt w B A ps)(hgB:g<B)(hB:B≤w.heap.size) :
  Cs 90 #[ptr g,iv set] w (WeighPostB (wgh ps N set).1 (wgh ps N set).2 w):=by
 obtain⟨W1,hW1⟩:=ex (((((w.alloc (.cells #[ptr g] 113)).alloc (.cells #[iv set] 3)).alloc (.cells #[iv 0,iv 0,iv 0,iv 0] 164)).alloc (.cells #[.bool true] 4)).alloc (.cells #[upV w.heap.size (w.heap.size+1) (w.heap.size+1+1+1+1) (w.heap.size+1+1+1)] 212));have hb0:BW w W1:=by rw[←hW1];exact bA (bA (bA (bA (bA (bR _) _) _) _) _) _
 have c0:W1.cell? ⟨w.heap.size,0,none⟩=some (ptr g):=by rw[←hW1];clear hW1;go_simp
 have c1:W1.cell? ⟨w.heap.size+1,0,none⟩=some (iv set):=by rw[←hW1];clear hW1;go_simp
 have m0:W1.cell? ⟨w.heap.size+1+1,0,none⟩=some (iv 0):=by rw[←hW1];clear hW1;go_simp
 have mf:∀o,W1.frozen? ⟨w.heap.size+1+1,o,none⟩=false:=by rw[←hW1];clear hW1;intro o;go_simp
 have m1:W1.cell? ⟨w.heap.size+1+1,1,none⟩=some (iv 0):=by rw[←hW1];clear hW1;go_simp
 have m2:W1.cell? ⟨w.heap.size+1+1,2,none⟩=some (iv 0):=by rw[←hW1];clear hW1;go_simp
 have m3:W1.cell? ⟨w.heap.size+1+1,3,none⟩=some (iv 0):=by rw[←hW1];clear hW1;go_simp
 have c3:W1.cell? ⟨w.heap.size+1+1+1,0,none⟩=some (.bool true):=by rw[←hW1];clear hW1;go_simp
 have c3f:W1.frozen? ⟨w.heap.size+1+1+1,0,none⟩=false:=by rw[←hW1];clear hW1;go_simp
 have c4:W1.cell? ⟨w.heap.size+1+1+1+1,0,none⟩=some (upV w.heap.size (w.heap.size+1) (w.heap.size+1+1+1+1) (w.heap.size+1+1+1)):=by rw[←hW1];clear hW1;go_simp
 have d0:=kC hb0 d0;have d5:=kC hb0 d5;have htab1:TabAt W1 B N bs:=htab.only (OnlyAt.of_below hb0 w.heap.size) hB;have hst:UpSt W1 B g w.heap.size (w.heap.size+1) (w.heap.size+1+1+1+1) (w.heap.size+1+1+1) A cap ps set N bs :=
  ⟨htab1,d0,hR.below hb0 hB,c0,c1,c4,hgB,by omega,by omega,by omega,by omega⟩
 have hup:=up_any B g w.heap.size (w.heap.size+1) (w.heap.size+1+1+1+1) (w.heap.size+1+1+1) A cap ps set N bs hT.po hT.pl hT.nd hs hT.kid N.length (N.length-1) hT.n7 (by have:=hT.n0;omega) (by have:=hT.n0;omega) br true W1.drew hbr
  ⟨fun i nd hi=>htab1 i nd hi,d0,hst.rd,c0,c1,c4,hgB,by omega,by omega,by omega,by omega⟩ c3 c3f
 obtain⟨M,hM⟩:=ex ((upF N ps set N.length (N.length-1)).1);obtain⟨V,hV⟩:=ex ((upF N ps set N.length (N.length-1)).2);rw[hM,hV]at hup;have hres:WeighPostB (wgh ps N set).1 (wgh ps N set).2 w=WeighPostB M V w:=by unfold wgh;rw[hM,hV]
 rw[hres];have HUP:=Lq hup;have HB0:=Lq hb0;clear hup hM hV hres hst htab htab1 hR hT hbr;go_enter Tryz.func90,Tryz.ntmps90
 go_wp2
 clear hW1;have HC:Hid (∀W,OnlyAt W1 W (w.heap.size+1+1+1)→W.cell? ⟨w.heap.size+1+1+1+1,0,none⟩=some (upV w.heap.size (w.heap.size+1) (w.heap.size+1+1+1+1) (w.heap.size+1+1+1))∧W.cell? ⟨w.heap.size,0,none⟩=some (ptr g)∧W.cell? ⟨g,5,none⟩=some (ptr br)):=Lq fun W h=>⟨h.cell c4 (by omega),h.cell c0 (by omega),h.cell d5 (by omega)⟩
 have HM:Hid (∀W,OnlyAt W1 W (w.heap.size+1+1+1)→W.cell? ⟨w.heap.size+1+1,0,none⟩=some (iv 0)∧W.cell? ⟨w.heap.size+1+1,1,none⟩=some (iv 0)∧W.cell? ⟨w.heap.size+1+1,2,none⟩=some (iv 0)∧W.cell? ⟨w.heap.size+1+1,3,none⟩=some (iv 0)):=Lq fun W h=>⟨h.cell m0 (by omega),h.cell m1 (by omega),h.cell m2 (by omega),h.cell m3 (by omega)⟩
 have HMF:Hid (∀W,OnlyAt W1 W (w.heap.size+1+1+1)→∀o,W.frozen? ⟨w.heap.size+1+1,o,none⟩=false):=Lq fun W h o=>(h.frozen o (lt_of_cell m0) (by omega)).trans (mf o)
 clear c0 c1 m0 m1 m2 m3 mf c3 c3f c4 d0 d5;obtain⟨ma,mb,mc,md⟩:=M;have HD0:Hid (OnlyAt W1 W1.drew (w.heap.size+1+1+1)):=Lq ((OnlyAt.refl W1 _).drew);go_region_held3 (fun W=>W.cell? ⟨w.heap.size+1+1+1+1,0,none⟩=some (upV w.heap.size (w.heap.size+1) (w.heap.size+1+1+1+1) (w.heap.size+1+1+1))∧W.cell? ⟨w.heap.size,0,none⟩=some (ptr g)∧W.cell? ⟨g,5,none⟩=some (ptr br)) (first | exact HC.out W1.drew HD0.out | exact HC.out w1 ho | exact⟨keepSet (keepSet (keepSet (keepSet (HC.out _ ho).1 (by omega)) (by omega)) (by omega)) (by omega),keepSet (keepSet (keepSet (keepSet (HC.out _ ho).2.1 (by omega)) (by omega)) (by omega)) (by omega),keepSet (keepSet (keepSet (keepSet (HC.out _ ho).2.2 (by omega)) (by omega)) (by omega)) (by omega)⟩) (((go_at_call 129;refine HUP.out.mono ?_;rintro e w1 ⟨rfl,ho1,hv1,hf1⟩;have ho:OnlyAt W1 w1 (w.heap.size+1+1+1):=⟨ho1.os,ho1.tape,ho1.output,ho1.size,ho1.block⟩;obtain⟨m0,m1,m2,m3⟩:=HM.out _ ho;have f0:=HMF.out _ ho 0;have f1:=HMF.out _ ho 1;have f2:=HMF.out _ ho 2;have f3:=HMF.out _ ho 3)))
 have hb1:BW w w1:=ho.below HB0.out (by omega)
 have hb2:BW w ((((w1.setCell ⟨w.heap.size+1+1,0,none⟩ (iv ma)).setCell ⟨w.heap.size+1+1,1,none⟩ (iv mb)).setCell ⟨w.heap.size+1+1,2,none⟩ (iv mc)).setCell ⟨w.heap.size+1+1,3,none⟩ (iv md)):=belowS (belowS (belowS (belowS hb1 (by simp only;omega) _) (by simp only;omega) _) (by simp only;omega) _) (by simp only;omega) _
 obtain⟨wx,hwx⟩:=ex ((((w1.setCell ⟨w.heap.size+1+1,0,none⟩ (iv ma)).setCell ⟨w.heap.size+1+1,1,none⟩ (iv mb)).setCell ⟨w.heap.size+1+1,2,none⟩ (iv mc)).setCell ⟨w.heap.size+1+1,3,none⟩ (iv md));have k0:wx.cell? ⟨w.heap.size+1+1,0,none⟩=some (iv ma):=by rw[←hwx];clear hwx;go_simp
 have k1:wx.cell? ⟨w.heap.size+1+1,1,none⟩=some (iv mb):=by rw[←hwx];clear hwx;go_simp
 have k2:wx.cell? ⟨w.heap.size+1+1,2,none⟩=some (iv mc):=by rw[←hwx];clear hwx;go_simp
 have k3:wx.cell? ⟨w.heap.size+1+1,3,none⟩=some (iv md):=by rw[←hwx];clear hwx;go_simp
 have kv:wx.cell? ⟨w.heap.size+1+1+1,0,none⟩=some (.bool V):=by rw[←hwx];rw[Bool.true_and]at hv1;exact keepSet (keepSet (keepSet (keepSet hv1 (by omega)) (by omega)) (by omega)) (by omega)
 have kf:∀o,wx.frozen? ⟨w.heap.size+1+1,o,none⟩=false:=by rw[←hwx];intro o;simp only[World.frozen?_setCell];exact HMF.out _ ho o
 have kg:wx.frozen? ⟨w.heap.size+1+1+1,0,none⟩=false:=by rw[←hwx];simp only[World.frozen?_setCell];exact hf1
 have f0:=kf 0;have f1:=kf 1;have f2:=kf 2;have f3:=kf 3;rw[hwx]at hb2 ⊢;have HBX:=Lq hb2;rename_i hHeld;rw[hwx]at hHeld;clear hHeld hwx;clear hb1 hb2 ho ho1 hv1 hf1 m0 m1 m2 m3 HC HM HMF HUP HD0;go_upto_region 5 with fail
 refine reg76_5 (by omega) k0 k1 k2 k3 kv f0 f1 f2 f3 kg ?_
 intro u14 u15 wy y0 y1 y2 y3 yv hby;have hb3:=hby w.heap.size w (by omega) (by omega) HBX.out
 have HB3:=Lq hb3;clear hby hb3 k0 k1 k2 k3 kv f0 f1 f2 f3 kf kg HBX;go_wp2
 refine bodyPost_ret (v:=.tuple #[massV ⟨ma,mb,mc,md⟩,.bool V]) (by simp[results,Tryz.results90,go_sem,y0,y1,y2,y3,yv]) rfl ?_
 exact⟨rfl,HB3.out⟩
section
variable{B br cap capJ g km:Nat}{A J:Option Addr}{W w w1:World}
def TabOff(w:World)(g:Nat)(N:List Nd)(bs:List Nat):Prop:=∀(i:Nat) (nd:Nd),N[i]?=some nd→∀b,bs[i]?=some b→b≠g∧∀(ad:Addr) (n cap:Nat),w.cell? ⟨b,4,none⟩=some (.slice (some ad) n cap)→ad.block≠g
theorem TabAt.only2{N:List Nd}{bs:List Nat}(h:TabAt W B N bs)(hf:TabOff W g N bs)(ho:OnlyAt W w1 g):TabAt w1 B N bs:=by
 intro i nd hi;obtain⟨b,h1,h2,c0,c1,c2,c3,A,cap,c4,hk⟩:=h i nd hi;obtain⟨hbg,hs⟩:=hf i nd hi b h1;refine⟨b,h1,h2,ho.cell c0 hbg,ho.cell c1 hbg,ho.cell c2 hbg,ho.cell c3 hbg,A,cap,ho.cell c4 hbg,fun k j hkj=>?_⟩
 obtain⟨bb,off,bj,e,hb,hj,hc⟩:=hk k j hkj;subst e;exact⟨bb,off,bj,rfl,hb,hj,ho.cell hc (hs _ _ _ c4)⟩
theorem TabOff.keep{N:List Nd}{bs:List Nat}(h:TabAt W B N bs)(hf:TabOff W g N bs)(hk:∀b,b<B→∀v,W.cell? ⟨b,4,none⟩=some v→b≠g→w1.cell? ⟨b,4,none⟩=some v):TabOff w1 g N bs:=by
 intro i nd hi b hb;obtain⟨hbg,hs⟩:=hf i nd hi b hb;refine⟨hbg,fun ad n cap hc=>?_⟩
 obtain⟨b',e',h2,_,_,_,_,A,cap',c4,_⟩:=h i nd hi;rw[hb]at e';injection e' with e'
 subst e';have:=hk b h2 _ c4 hbg;rw[this]at hc;injection hc with hc
 rw[hc]at c4;exact hs ad n cap c4
structure DeckSt(w:World)(B g:Nat)(h:Hul)(A:Option Addr)(cap:Nat)(J:Option Addr)(capJ:Nat)(N:List Nd)(bs:List Nat)(br km:Nat):Prop where
 c0:w.cell? ⟨g,0,none⟩=some (.slice A h.ps.length cap)
 c1:w.cell? ⟨g,1,none⟩=some (.slice J h.js.length capJ)
 c2:w.cell? ⟨g,2,none⟩=some (iv h.slo)
 c3:w.cell? ⟨g,3,none⟩=some (iv h.shi)
 c4:w.cell? ⟨g,4,none⟩=some (iv h.winch)
 c5:w.cell? ⟨g,5,none⟩=some (ptr br)
 c6:w.cell? ⟨g,6,none⟩=some (.map (some km))
 tab:TabAt w B N bs
 off:TabOff w km N bs
 root:bs[N.length-1]?=some br
 rd:∃B0,B0≤B∧B0≤km∧RdN 3 encPrt w B0 A h.ps∧RdN 2 encSp w B0 J h.js
 gB:g<B
 gk:g≠km
 hB:B≤w.heap.size
section
variable {w w1:World} {B g:Nat} {h:Hul} {A:Option Addr} {cap:Nat} {J:Option Addr} {capJ:Nat} {N:List Nd} {bs:List Nat} {br km x:Nat}
theorem DeckSt.rp(H:DeckSt w B g h A cap J capJ N bs br km):RdN 3 encPrt w B A h.ps:=by obtain⟨B0,h1,_,h2,_⟩:=H.rd;exact h2.more h1
theorem DeckSt.rj(H:DeckSt w B g h A cap J capJ N bs br km):RdN 2 encSp w B J h.js:=by obtain⟨B0,h1,_,_,h2⟩:=H.rd;exact h2.more h1
theorem DeckSt.only(H:DeckSt w B g h A cap J capJ N bs br km)(ho:OnlyAt w w1 x)(hx:x=km∨B≤x):DeckSt w1 B g h A cap J capJ N bs br km:=by
 have hg:=H.gB;have hgk:=H.gk;have hgx:g≠x:=by omega
 obtain⟨B0,r1,r2,r3,r4⟩:=H.rd;have htab:TabAt w1 B N bs:=by
  rcases hx with rfl | hx
  ·exact H.tab.only2 H.off ho
  ·exact H.tab.only ho hx
 exact⟨ho.cell H.c0 hgx,ho.cell H.c1 hgx,ho.cell H.c2 hgx,ho.cell H.c3 hgx,ho.cell H.c4 hgx,ho.cell H.c5 hgx,ho.cell H.c6 hgx,htab,TabOff.keep H.tab H.off (fun b hb v hv hbk=>ho.cell hv (by omega)),H.root,⟨B0,r1,r2,ho.rdN r3 (by omega),ho.rdN r4 (by omega)⟩,H.gB,H.gk,lT H.hB ho.size⟩
theorem DeckSt.below(H:DeckSt w B g h A cap J capJ N bs br km)(hb:BW w w1):DeckSt w1 B g h A cap J capJ N bs br km :=
 H.only (OnlyAt.of_below hb w.heap.size) (.inr H.hB)
end
theorem DeckSt.weigh{h:Hul}{N:List Nd}{bs:List Nat}(H:DeckSt w B g h A cap J capJ N bs br km)(hT:TreeOk h.ps N){set:Nat}(hs:set<256):Cs 90 #[ptr g,iv set] w (WeighPostB (wgh h.ps N set).1 (wgh h.ps N set).2 w) :=
 weigh_any B g A cap h.ps set N bs br w hT hs H.root H.tab H.c0 H.c5 H.rp H.gB H.hB
def leastV(h:Hul)(N:List Nd)(set:Nat):Int:=(wgh h.ps N (2^h.ps.length-1-set)).1.alo-(wgh h.ps N (2^h.ps.length-1-set)).1.slo
def mostV(h:Hul)(N:List Nd)(set:Nat):Int:=(wgh h.ps N set).1.shi
theorem wgh_bd{ps:List Prt}{N:List Nd}(hT:TreeOk ps N)(set:Nat):MB 42949672960000000 (wgh ps N set).1:=by
 have:=(upF_bd (set:=set) hT.po hT.pl hT.nd N.length (N.length-1)).mono (bdF_mono (show N.length≤8 by have:=hT.n7;omega))
 rwa [bdF_eight]at this
theorem least_any{h:Hul}{N:List Nd}{bs:List Nat}(H:DeckSt w B g h A cap J capJ N bs br km)(hT:TreeOk h.ps N)(set:Nat)(hs:set<2^h.ps.length) :
  Cs 56 #[ptr g,iv set] w (Rt w (iv (leastV h N set))):=by
 have hp:2^h.ps.length≤256:=by
  have:=Nat.pow_le_pow_right (show 0<2 by decide) hT.pl
  omega
 have hpl:=hT.pl;have hsh:=shl1 h.ps.length (by omega)
 have hw:=H.weigh hT (set:=2^h.ps.length-1-set) (by omega)
 have hbd:=wgh_bd hT (2^h.ps.length-1-set);have hlv:leastV h N set=(wgh h.ps N (2^h.ps.length-1-set)).1.alo-(wgh h.ps N (2^h.ps.length-1-set)).1.slo:=rfl;have hcast:(((2^h.ps.length:Nat):Int)-1-(set:Int))=((2^h.ps.length-1-set:Nat):Int):=by omega
 have c0:=H.c0;obtain⟨P,hP⟩:=ex ((2^h.ps.length:Nat));rw[hP]at hsh hw hbd hlv hcast hp hs;obtain⟨S,hS⟩:=ex (P-1-set);rw[hS]at hw hbd hlv hcast;obtain⟨M,hM⟩:=ex ((wgh h.ps N S).1);obtain⟨V,hV⟩:=ex ((wgh h.ps N S).2);rw[hM]at hw hbd hlv;rw[hV]at hw;rw[hlv];obtain⟨ma,mb,mc,md⟩:=M;simp only[MB]at hbd ⊢;obtain⟨q1,q2,q3,q4,q5,q6,q7,q8⟩:=hbd;have HW:=Lq hw;clear hw hlv hP hS hM hV H;go_enter Tryz.func56,Tryz.ntmps56
 go_wp2_with fail;refine HW.out.mono ?_;rintro e w1 ⟨rfl,hb⟩;have HB:=Lq hb;clear hb hcast;go_wp2
 go_ret
 exact⟨rfl,bA HB.out _⟩
end
end Go.Proofs.YtigcophcpboanaaGreatDoor
namespace Go.Proofs.YtigcophcpboanaaGreatDoor
open Go.RowKit Go.Maps
theorem nodup_lt:∀(n:Nat) (l:List Nat),l.Nodup→(∀x∈l,x<n)→l.length≤n:=by
 intro n;induction n with
 | zero =>
  intro l _ h;cases l with
  | nil=>simp
  | cons x l=>exact absurd (h x (by simp)) (by omega)
 | succ n ih =>
  intro l hn h;have h1:=ih (l.erase n) (hn.erase n) (fun x hx=>by
   have h2:=h x (List.mem_of_mem_erase hx);have h3:x≠n:=fun e=>by subst e;exact(List.Nodup.not_mem_erase hn) hx
   omega)
  have h2:=List.length_erase_le (a:=n) (l:=l);have h3:l.length≤(l.erase n).length+1:=by rw[List.length_erase];split<;>omega
  omega
theorem law3:Keyed Tryz.prog 3:=int_keyed Tryz.underlying3
theorem zero3(w:World):(zeroValue 3).run Tryz.prog w=.ok (.int .i64 0) w:=Tryz.zeroValue3 w
def KnownAt(w:World)(km:Nat)(f:Nat→Int):Prop:=∃(D:DataW Unit) (n:Nat),w.ownsMap Tryz.prog 3 (plainElem Tryz.prog 3) km n D∧∀kl,has D kl=true→∃s:Nat,s<256∧kl=.int .i64 (s:Int)∧D.atKey kl (.lit (.int .i64 0))=.lit (.int .i64 (f s))
theorem KnownAt.few{w:World}{km:Nat}{f:Nat→Int}(h:KnownAt w km f):∃D:DataW Unit,w.ownsMap Tryz.prog 3 (plainElem Tryz.prog 3) km 256 D∧∀kl,has D kl=true→∃s:Nat,s<256∧kl=.int .i64 (s:Int)∧D.atKey kl (.lit (.int .i64 0))=.lit (.int .i64 (f s)):=by
 obtain⟨D,n,ho,hk⟩:=h;refine⟨D, ?_,hk⟩;have ht:=ho.tidy law3;have hc:=ho.canon law3;obtain⟨es,clock,hb,F,hs,hD⟩:=ho;refine⟨es,clock,hb,F, ?_,hD⟩;obtain⟨l,hl,hp⟩:=ht;have hlen:l.length=es.size:=by
  rw[hD]at hl;injection hl with hl
  rw[←hl];exact length_read es
 rw[←hlen];have hkl:∀p∈l,WideAt.IsKeyLit p.1:=by
  obtain⟨l',e',_,h⟩:=hc;rw[hl]at e';injection e' with e'
  subst e';exact h
 have hkeys:∀p∈l,∃s:Nat,s<256∧p.1=.int .i64 (s:Int):=fun p hp'=>by
  obtain⟨s,h1,h2,_⟩:=hk p.1 (by rw[hl,has_eq,List.any_eq_true];exact⟨p,hp',WideAt.sameKey_self (hkl p hp')⟩)
  exact⟨s,h1,h2⟩
 have:=nodup_lt 256 (l.map fun p=>match p.1 with | .int _ n=>n.toNat | _=>0) (by
  rw[List.Nodup,List.pairwise_map];refine hp.imp_of_mem ?_;intro p q hp1 hq1 hne;obtain⟨s,_,e1⟩:=hkeys p hp1;obtain⟨t,_,e2⟩:=hkeys q hq1;rw[e1,e2]at hne ⊢;simp only[Int.toNat_natCast];intro e;subst e;exact hne rfl) (fun x hx=>by
  obtain⟨p,hp1,rfl⟩:=List.mem_map.1 hx;obtain⟨s,h1,e1⟩:=hkeys p hp1;rw[e1]
  simpa using h1)
 simpa using this
theorem wf_i64{n:Int}(h0:-9223372036854775808≤n)(h1:n≤9223372036854775807):(Lit.int .i64 n).wf=true:=by simp[Lit.wf,IntKind.min,IntKind.max,IntKind.bits,IntKind.signed];omega
section
variable {w:World} {B g:Nat} {h:Hul} {A:Option Addr} {cap:Nat} {J:Option Addr} {capJ:Nat} {N:List Nd} {bs:List Nat} {br km:Nat}
theorem most1_any(H:DeckSt w B g h A cap J capJ N bs br km)(hT:TreeOk h.ps N)(set gd:Nat)(hs:set<256)(hc:w.cell? ⟨gd,0,none⟩=some (ptr g)) :
  Cs 106 #[.int .i64 set,ptr gd] w (Rt w (iv (mostV h N set))):=by
 have hw:=H.weigh hT hs;have hlv:mostV h N set=(wgh h.ps N set).1.shi:=rfl;obtain⟨M,hM⟩:=ex ((wgh h.ps N set).1);obtain⟨V,hV⟩:=ex ((wgh h.ps N set).2);rw[hM]at hw hlv;rw[hV]at hw;rw[hlv];obtain⟨ma,mb,mc,md⟩:=M;have HW:=Lq hw;clear hw hlv hM hV H;go_enter Tryz.func106,Tryz.ntmps106
 go_wp2_with fail;refine HW.out.mono ?_;rintro e w1 ⟨rfl,hb⟩;have HB:=Lq hb;clear hb;go_wp2
 go_ret
 exact⟨rfl,bA HB.out _⟩
def MostPost(v:Int)(km:Nat)(f:Nat→Int)(w:World)(e:Ending)(w':World):Prop:=e=.returned (iv v)∧OnlyAt w w' km∧KnownAt w' km f
theorem KnownAt.below{w1:World}{f:Nat→Int}(hk:KnownAt w km f)(hb:BW w w1):KnownAt w1 km f:=by obtain⟨D,n,ho,h⟩:=hk;refine⟨D,n, ?_,h⟩;have hlt:=ho.lt;obtain⟨es,clock,hb',F,hs,hD⟩:=ho;exact⟨es,clock,(hb.block km hlt).trans hb',F,hs,hD⟩
theorem of_any(H:DeckSt w B g h A cap J capJ N bs br km)(hT:TreeOk h.ps N)(hK:KnownAt w km (mostV h N))(set gd:Nat)(hs:set<256)(hc:w.cell? ⟨gd,0,none⟩=some (ptr g)) :
  Cs 105 #[.map (some km),.int .i64 set,.func (.func 106) #[] #[ptr gd]] w (MostPost (mostV h N set) km (mostV h N) w):=by
 have hf:=most1_any H hT set gd hs hc;have hbd:=wgh_bd hT set;have hwf:(Lit.int .i64 (mostV h N set)).wf=true:=by obtain⟨_,_,_,_,_,_,h1,h2⟩:=hbd;exact wf_i64 (by unfold mostV;omega) (by unfold mostV;omega)
 have hkey:keyOf Tryz.prog 3 (.int .i64 (set:Int))=some (.int .i64 (set:Int)):=keyOf_int_mk Tryz.underlying3 (wf_i64 (by omega) (by omega))
 obtain⟨D,ho,hD⟩:=hK.few;have hm:=ho.tidy law3;have HK:=Lq hK;have HDD:=Lq hD;have HO:=Lq ho;have HF:=Lq hf;have HT:=Lq hm;obtain⟨F,hF⟩:=ex (mostV h N);rw[hF]at HK HDD HF hwf ⊢;have HKEY:=Lq hkey;have HWF:=Lq hwf;clear hf hbd hwf hkey hK hD ho hm H hF;cases hh:has D (.int .i64 (set:Int))
 ·have HH:=Lq hh;clear hh;go_enter Tryz.func105,Tryz.ntmps105
  go_wp2_with (at_lookup;refine wpList_lookup_own_ok_int _ rfl _ _ 118 rfl 3 3 .i64 law3 Tryz.underlying118 Tryz.underlying3 (zero3 _) km 256 D rfl HO.out _ _ rfl HKEY.out ?_;intro c hat hwc;rw[HH.out];clear hat hwc)
  go_wp2_with fail;refine HF.out.mono ?_;rintro e w1 ⟨rfl,hb⟩;have ho1:w1.ownsMap Tryz.prog 3 (plainElem Tryz.prog 3) km 256 D:=HO.out.kept (row:=none) ⟨hb.os,hb.tape,hb.output,hb.size,fun k hk _=>hb.block k hk⟩ (by simp)
  have HO1:=Lq ho1;have HB:=Lq hb;clear hb ho1;go_wp2_with (at_mapUpdate;refine wpList_mapUpdate_own _ rfl _ _ _ 118 rfl 3 3 law3 Tryz.underlying118 _ km 256 D rfl HO1.out (by unfold maxLen;omega) _ _ _ rfl rfl HKEY.out _ [] (plainElem_int Tryz.underlying3 HWF.out) ?_;intro w2 hown2 hgrow2)
  have HO2:=Lq hown2;have HG2:=Lq hgrow2;clear hown2 hgrow2;go_wp2
  go_ret
  refine⟨rfl, ?_,⟨_,_,HO2.out,fun kl hkl=>?_⟩⟩
  ·exact(OnlyAt.of_below HB.out km).trans ⟨HG2.out.os,HG2.out.tape,HG2.out.output,HG2.out.size,fun k hk hne=>HG2.out.block k hk (by simpa using hne)⟩
  ·by_cases hkk:kl=.int .i64 (set:Int)
   ·subst hkk;exact⟨set,hs,rfl,atKey_put_same HT.out.isMap (show WideAt.IsKeyLit (.int .i64 (set:Int))from trivial) _ _⟩
   ·rw[has_put_other hkk]at hkl;rw[atKey_put_other hkk];exact HDD.out kl hkl
 ·obtain⟨s,hs',hk',hat'⟩:=HDD.out _ hh;have hss:s=set:=by
   injection hk' with _ hk'
   omega
  subst hss;have HH:=Lq hh;have HAT:=Lq hat';clear hh hat' hk';go_enter Tryz.func105,Tryz.ntmps105
  go_wp2_with (at_lookup;refine wpList_lookup_own_ok_int _ rfl _ _ 118 rfl 3 3 .i64 law3 Tryz.underlying118 Tryz.underlying3 (zero3 _) km 256 D rfl HO.out _ _ rfl HKEY.out ?_;intro c hat hwc;rw[HH.out];have hcf:c=F s:=(by rw[HAT.out]at hat;injection hat with hat;injection hat with _ hat;exact hat.symm);subst hcf;clear hat hwc)
  go_ret
  exact⟨rfl,OnlyAt.refl _ _,HK.out⟩
theorem most_any(H:DeckSt w B g h A cap J capJ N bs br km)(hT:TreeOk h.ps N)(hK:KnownAt w km (mostV h N))(set:Nat)(hs:set<256) :
  Cs 58 #[ptr g,.int .i64 set] w (MostPost (mostV h N set) km (mostV h N) w):=by
 obtain⟨W1,hW1⟩:=ex (w.alloc (.cells #[ptr g] 113));have hb0:BW w W1:=by rw[←hW1];exact bA (bR _) _
 have c0:W1.cell? ⟨w.heap.size,0,none⟩=some (ptr g):=by rw[←hW1];clear hW1;go_simp
 have hof:=of_any (H.below hb0) hT (hK.below hb0) set w.heap.size hs c0;have c6:=(H.below hb0).c6;have HOF:=Lq hof;have HB0:=Lq hb0;obtain⟨F,hF⟩:=ex (mostV h N);rw[hF]at HOF ⊢;clear hof hb0 H hK hT hF;go_enter Tryz.func58,Tryz.ntmps58
 go_wp2_with fail;refine HOF.out.mono ?_;rintro e w1 ⟨rfl,ho,hk⟩;have HO:=Lq ho;have HK:=Lq hk;clear ho hk hW1 c0 c6;go_wp2
 go_ret
 exact⟨rfl,(OnlyAt.of_below HB0.out km).trans HO.out,HK.out⟩
end
end Go.Proofs.YtigcophcpboanaaGreatDoor
namespace Go.Proofs.YtigcophcpboanaaGreatDoor
open Go.RowKit
theorem upDiv_any{w:World}(n b:Int)(h0:0≤n)(h1:n≤4611686018427387904)(b0:0<b)(b1:b≤1000000000) :
  Cs 57 #[iv n,iv b] w (Rt w (iv ((n+b-1).tdiv b))):=by
 have hq:(n+b-1).tdiv b≤n+b-1:=by
  rw[Int.tdiv_eq_ediv_of_nonneg (by omega)]
  exact Int.ediv_le_self _ (by omega)
 have hq0:0≤(n+b-1).tdiv b:=Int.tdiv_nonneg (by omega) (by omega)
 have hwr:∀x:Int,0≤x→x<9223372036854775808→wrap64 x=x:=fun x h h2=>by unfold wrap64;omega
 have hw0:=hwr (n+b) (by omega) (by omega)
 have hw1:=hwr (n+b-1) (by omega) (by omega)
 have hw2:=hwr ((n+b-1).tdiv b) hq0 (by omega)
 have hb0:(b==0)=false:=by simp;omega
 go_enter Tryz.func57,Tryz.ntmps57
 go_wp2
 go_ret
 exact⟨rfl,bR _⟩
section
variable {w:World} {B g:Nat} {h:Hul} {A:Option Addr} {cap:Nat} {J:Option Addr} {capJ:Nat} {N:List Nd} {bs:List Nat} {br km:Nat}
theorem KnownAt.drew{f:Nat→Int}(hk:KnownAt w km f):KnownAt w.drew km f:=hk.below (belowDrB (bR _))
def LightPost(v:Bool)(km:Nat)(f:Nat→Int)(w:World)(e:Ending)(w':World):Prop:=e=.returned (.bool v)∧OnlyAt w w' km∧KnownAt w' km f
theorem light_any(H:DeckSt w B g h A cap J capJ N bs br km)(hT:TreeOk h.ps N)(hK:KnownAt w km (mostV h N))(set:Nat)(hs:set<256)(hsh:1≤h.shi∧h.shi≤100000000)(hwi:0≤h.winch∧h.winch≤100000000000000)(hbd:0≤mostV h N set∧mostV h N set≤42949672960) :
  Cs 93 #[ptr g,iv set] w (LightPost (decide (mostV h N set*h.shi≤1000*h.winch)) km (mostV h N) w):=by
 have hd:OnlyAt w w.drew km:=(OnlyAt.refl w km).drew;have hm:=most_any (H.only hd (.inl rfl)) hT hK.drew set hs;have HM:=Lq hm;have HC:Hid (∀W,OnlyAt w W km→W.cell? ⟨g,3,none⟩=some (iv h.shi)∧W.cell? ⟨g,4,none⟩=some (iv h.winch)):=Lq fun W ho=>⟨(H.only ho (.inl rfl)).c3,(H.only ho (.inl rfl)).c4⟩
 have HD:=Lq hd;have h3:=H.c3;have h4:=H.c4;obtain⟨M,hM⟩:=ex (mostV h N set);rw[hM]at hbd HM ⊢;clear hm hM;have hp0:0≤M*h.shi:=Int.mul_nonneg hbd.1 (by omega)
 have hp1:M*h.shi≤42949672960*100000000:=Int.mul_le_mul hbd.2 hsh.2 (by omega) (by omega)
 have hw1:IntKind.i64.wrap (M*h.shi)=M*h.shi:=wrap62 _ hp0 (by omega)
 have hw2:IntKind.i64.wrap (1000*h.winch)=1000*h.winch:=wrap62 _ (by omega) (by omega)
 obtain⟨F,hF⟩:=ex (mostV h N);rw[hF]at HM ⊢;clear hF H hK hT;go_enter Tryz.func93,Tryz.ntmps93
 go_wp2
 go_region_held3 (fun W=>W.cell? ⟨g,3,none⟩=some (iv h.shi)∧W.cell? ⟨g,4,none⟩=some (iv h.winch)) (first | exact HC.out w.drew HD.out | exact HC.out w1 ho) (((go_at_call 58;refine HM.out.mono ?_;rintro e w1 ⟨rfl,ho1,hk1⟩;have ho:OnlyAt w w1 km:=HD.out.trans ho1)))
 go_wp2
 go_ret
 exact⟨rfl,ho,hk1⟩
end
section
variable{w:World}
def onesN(x:Nat):Nat:=((List.range 8).filter fun i=>x.testBit i).length
theorem onesN_le(x:Nat):onesN x≤8:=by
 have:=List.length_filter_le (fun i=>x.testBit i) (List.range 8)
 simpa[onesN]using this
def os1(x:Int):Int:=IntKind.u64.wrap (bits .and .u64 (x/2) 6148914691236517205+bits .and .u64 x 6148914691236517205)
def os2(x:Int):Int:=IntKind.u64.wrap (bits .and .u64 (x/4) 3689348814741910323+bits .and .u64 x 3689348814741910323)
def os3(x:Int):Int:=bits .and .u64 (IntKind.u64.wrap (x/16+x)) 1085102592571150095
def os4(x:Int):Int:=IntKind.u64.wrap (x+x/256)
def os5(x:Int):Int:=IntKind.u64.wrap (x+x/65536)
def os6(x:Int):Int:=IntKind.u64.wrap (x+x/4294967296)
theorem ones_key:∀x:Nat,x<256→bits .and .i64 (wrap64 (os6 (os5 (os4 (os3 (os2 (os1 (x:Int)))))))) 127=(onesN x:Int):=by decide +kernel
theorem ones64_any(x:Nat)(hx:x<256) :
  Cs 199 #[.int .u64 x] w fun e w'=>e=.returned (iv (onesN x:Int))∧w=w':=by
 have hk:=ones_key x hx;go_enter Tryz.func199,Tryz.ntmps199
 go_wp2
 go_ret
 exact⟨by rw[←hk];rfl,rfl⟩
theorem ones_any(x:Nat)(hx:x<256) :
  Cs 156 #[.int .u64 x] w fun e w'=>e=.returned (iv (onesN x:Int))∧w=w':=by
 have hc:=ones64_any (w:=w) x hx;go_enter Tryz.func156,Tryz.ntmps156
 go_wp2_with (go_at_call 199;refine hc.mono ?_;rintro e w1 ⟨rfl,rfl⟩)
 go_ret
 exact⟨rfl,rfl⟩
theorem cmpNd_any(b1 b2 s1 s2:Nat)(W:World)(h1:s1<256)(h2:s2<256)(c1:W.cell? ⟨b1,2,none⟩=some (iv (s1:Int)))(c2:W.cell? ⟨b2,2,none⟩=some (iv (s2:Int))) :
  Cs 155 #[ptr b1,ptr b2] W fun e w'=>e=.returned (iv ((onesN s1:Int)-(onesN s2:Int)))∧∃q,w'=W.drewN q:=by
 have k1:∀n,Cs 156 #[.int .u64 s1] (W.drewN n) fun e w'=>e=.returned (iv (onesN s1:Int))∧∃q,w'=(W.drewN n).drewN q:=fun n=>(ones_any s1 h1).mono (by rintro e w' ⟨rfl,rfl⟩;exact⟨rfl,0,rfl⟩)
 have k2:∀n,Cs 156 #[.int .u64 s2] (W.drewN n) fun e w'=>e=.returned (iv (onesN s2:Int))∧∃q,w'=(W.drewN n).drewN q:=fun n=>(ones_any s2 h2).mono (by rintro e w' ⟨rfl,rfl⟩;exact⟨rfl,0,rfl⟩)
 have K1:=Lq k1;have K2:=Lq k2;have o1:=onesN_le s1;have o2:=onesN_le s2;have w1:IntKind.u64.wrap (s1:Int)=(s1:Int):=by rw[IntKind.wrap_u64];omega
 have w2:IntKind.u64.wrap (s2:Int)=(s2:Int):=by rw[IntKind.wrap_u64];omega
 clear k1 k2;go_enter Tryz.func155,Tryz.ntmps155
 go_wp2
 go_quiet ((go_at_call 156;first | exact Calls.quiet_of (K1.out _) | exact Calls.quiet_of (K2.out _)))
 go_wp2
 go_ret
 exact⟨rfl,_,rfl⟩
end
end Go.Proofs.YtigcophcpboanaaGreatDoor
namespace Go.Proofs.YtigcophcpboanaaGreatDoor
open Go.RowKit Go.Sort
theorem swap_w{α:Type}[Inhabited α](enc:α→Value)(w:World)(blk off:Nat)(dk:Array α)(n i j:Nat)(hi:i<dk.size)(hj:j<dk.size) :
  ((((putRow enc w blk off dk).drewN n).setCell ⟨blk,off+i,none⟩ (enc dk[j]!)).setCell ⟨blk,off+j,none⟩ (enc dk[i]!)).drew=(putRow enc w blk off (swp dk i j)).drewN (n+1):=by
 rw[←putRow_swp enc w blk off dk i j hi hj];rfl
section
variable {α:Type} [Inhabited α] (lt:α→α→Bool)
theorem inner_go(a j:Nat)(d:Array α)(hj:a<j+1)(hl:lt d[j+1]! d[j]! = true):insInner lt a (j+1) d=insInner lt a j (swp d (j+1) j):=by rw[insInner,if_pos (by simp[hl];omega)]
theorem inner_stop(a j:Nat)(d:Array α)(h:lt d[j+1]! d[j]! = false):insInner lt a (j+1) d=d:=by rw[insInner,if_neg (by simp[h])]
theorem inner_end(a j:Nat)(d:Array α)(h:j≤a):insInner lt a j d=d:=by
 cases j with
 | zero=>rw[insInner]
 | succ k=>rw[insInner,if_neg (by simp;intro h2;omega)]
theorem outer_go(a b i:Nat)(d:Array α)(h:i<b):insOuter lt a b i d=insOuter lt a b (i+1) (insInner lt a i d):=by rw[insOuter,if_pos h]
theorem outer_stop(a b i:Nat)(d:Array α)(h:¬i<b):insOuter lt a b i d=d:=by rw[insOuter,if_neg h]
end
def KeyAt(w:World)(blk:Nat)(K:Nat→Int)(b:Nat):Prop:=b≠blk∧∃s:Nat,s<256∧w.cell? ⟨b,2,none⟩=some (iv (s:Int))∧K b=(onesN s:Int)
def ltK(K:Nat→Int)(x y:Nat):Bool:=decide (K x-K y<0)
def allPB(P:Nat→Prop)(d:Array Nat):Prop:=∀j,j<d.size→P d[j]!
theorem allP_swp{P:Nat→Prop}{d:Array Nat}(h:allPB P d)(i j:Nat)(hi:i<d.size)(hj:j<d.size):allPB P (swp d i j):=by
 intro k hk;rw[size_swp]at hk;have h1:=h k hk;have h2:=h i hi;have h3:=h j hj;unfold swp;rw[getElem!_pos _ k (by simpa using hk),Array.getElem_setIfInBounds (by simpa using hk)]
 split
 ·exact h2
 ·rw[Array.getElem_setIfInBounds (by simpa using hk)]
  split
  ·exact h3
  ·rw[getElem!_pos _ k hk]at h1;exact h1
theorem insertion_any(K:Nat→Int)(blk off cap:Nat)(d:Array Nat)(w:World)(hH:Holds ptr w blk off d)(hlt:allPB (KeyAt w blk K) d)(hsz:d.size<4611686018427387904) :
  Cs 223 #[.slice (some ⟨blk,off,none⟩) d.size cap,iv (0:Int),iv d.size,.func (.func 155) #[] #[]] w fun e w' =>
   e=.returned (.tuple #[])∧∃n,w'=(putRow ptr w blk off (Sort.insertionSort (ltK K) d 0 d.size)).drewN n:=by
 have hcAt:∀(X:Array Nat) (x y m:Nat),KeyAt w blk K x→KeyAt w blk K y→∀n,Cs 155 #[ptr x,ptr y] (((putRow ptr w blk off X).drewN m).drewN n) fun e w'=>e=.returned (iv (K x-K y))∧∃q,w'=(((putRow ptr w blk off X).drewN m).drewN n).drewN q:=fun X x y m hX hY n=>by obtain⟨x1,s,x2,x3,x4⟩:=hX;obtain⟨y1,t,y2,y3,y4⟩:=hY;rw[x4,y4];exact cmpNd_any x y s t _ x2 y2 ((cell?_putRow_other ptr w blk off X ⟨x,2,none⟩ (.inl x1)).trans x3) ((cell?_putRow_other ptr w blk off X ⟨y,2,none⟩ (.inl y1)).trans y3)
 have HC:=Lq hcAt;have HST:Hid (w=(putRow ptr w blk off d).drewN 0):=(putRow_self ptr w blk off d hH).symm;have HH:=Lq hH;have HLT:=Lq hlt;clear hcAt hH hlt;go_enter Tryz.func223,Tryz.ntmps223
 go_wp2
 go_loopg [8] (d.size) (fun g1 vi wr=>∃(i n:Nat) (dk:Array Nat),vi=iv i∧0<i∧i≤d.size+1∧d.size+1-i≤g1+1∧dk.size=d.size∧wr=(putRow ptr w blk off dk).drewN n∧Hid (allPB (KeyAt w blk K) dk)∧Hid (insOuter (ltK K) 0 d.size i dk=insOuter (ltK K) 0 d.size 1 d))
 case atStart=>exact⟨1,0,d,by go_num,by omega,by omega,by omega,rfl,HST.out,HLT,rfl⟩
 case round =>
  obtain⟨i,n,dk,rfl,hai,hib,hg1,hsk,rfl,HA,HO⟩:=hrel;by_cases hlt:i<d.size
  ·have hltz:(i:Int)<(d.size:Int):=by omega
   go_wp2
   go_loopg [9] i (fun g2 vj wr2=>∃(j m:Nat) (dj:Array Nat),vj=iv j∧j≤i∧j≤g2∧dj.size=d.size∧wr2=(putRow ptr w blk off dj).drewN m∧Hid (allPB (KeyAt w blk K) dj)∧Hid (insInner (ltK K) 0 j dj=insInner (ltK K) 0 i dk))
   case atStart=>exact⟨i,n,dk,rfl,lr _,lr _,hsk,rfl,HA,rfl⟩
   case round =>
    obtain⟨j,m,dj,rfl,hji,hg2,hsj,rfl,HAj,HI⟩:=hrel;have out:insInner (ltK K) 0 j dj=dj→Hid (insOuter (ltK K) 0 d.size (i+1) dj=insOuter (ltK K) 0 d.size 1 d):=fun hs=>by
     show _=_
     rw[←HO.out,outer_go _ _ _ _ _ hlt,←HI.out,hs]
    have OUT:=Lq out;clear out;by_cases hja:0<j
    ·have hHj:=holds_putRow ptr w blk off d dj HH.out hsj;obtain⟨jp,rfl⟩:∃jp,j=jp+1:=⟨j-1,by omega⟩
     obtain⟨xj,hxj⟩:=ex (dj[jp+1]!);obtain⟨xp,hxp⟩:=ex (dj[jp]!);obtain⟨cj,fj⟩:=hHj (jp+1) (by omega)
     obtain⟨cp,fp⟩:=hHj jp (by omega)
     have lj:=HAj.out (jp+1) (by omega)
     have lp:=HAj.out jp (by omega)
     rw[hxj]at cj lj;rw[hxp]at cp lp;have hwp:IntKind.i64.wrap (jp:Int)=(jp:Int):=by rw[IntKind.wrap_i64];omega
     have jz:(jp:Int)+1<(d.size:Int):=by omega
     have jz1:(jp:Int)<(d.size:Int):=by omega
     have hjaz':(0:Int)<(jp:Int)+1:=by omega
     have p0:(0:Int)≤(jp:Int)+1:=by omega
     have e0:((jp:Int)+1).toNat=jp+1:=by omega
     have hc:=HC.out dj xj xp m lj lp;clear hHj;have cj':((putRow ptr w blk off dj).drewN m).cell? ⟨blk,off+(jp+1),none⟩=some (ptr xj):=cj;have cp':((putRow ptr w blk off dj).drewN m).cell? ⟨blk,off+jp,none⟩=some (ptr xp):=cp;have fj':((putRow ptr w blk off dj).drewN m).frozen? ⟨blk,off+(jp+1),none⟩=false:=fj;have fp':((putRow ptr w blk off dj).drewN m).frozen? ⟨blk,off+jp,none⟩=false:=fp;clear cj cp fj fp;generalize hwq:(putRow ptr w blk off dj).drewN m=wq at cj' cp' fj' fp' hc ⊢;obtain⟨cv,hcv⟩:∃c:Int,K xj-K xp=c:=⟨_,rfl⟩;rw[hcv]at hc;have HCC:=Lq hc;have HCV:=Lq hcv;have HXJ:=Lq hxj;have HXP:=Lq hxp;have HWQ:=Lq hwq;clear hc hcv hxj hxp hwq;by_cases hlv:cv<0
     ·go_wp2_with fail;go_quiet ((go_at_call 155;exact Calls.quiet_of (HCC.out _)))
      go_wp2_with fail;have hw2:wq.drewN nq=(putRow ptr w blk off dj).drewN (m+nq):=by rw[←HWQ.out,World.drewN_drewN]
      have cj2:(wq.drewN nq).cell? ⟨blk,off+(jp+1),none⟩=some (ptr xj):=cj';have cp2:(wq.drewN nq).cell? ⟨blk,off+jp,none⟩=some (ptr xp):=cp';have fj2:(wq.drewN nq).frozen? ⟨blk,off+(jp+1),none⟩=false:=fj';have fp2:(wq.drewN nq).frozen? ⟨blk,off+jp,none⟩=false:=fp';clear cj' cp' fj' fp';generalize wq.drewN nq=wq2 at hw2 cj2 cp2 fj2 fp2 ⊢;obtain⟨j1,hj1⟩:∃j1,j1=jp+1:=⟨_,rfl⟩;rw[←hj1]at cj2 fj2 e0;have J1:Hid (j1=jp+1):=hj1;have HW2:Hid (wq2=(putRow ptr w blk off dj).drewN (m+nq)):=hw2;clear hj1 hw2
      go_region
      all_goals go_wp2
      go_roundg jp
      case measure=>omega
      case rel =>
       refine⟨jp,m+nq+1,swp dj (jp+1) jp,by first | rfl | go_num | (congr 1;omega),by omega,lr _,by rw[size_swp];exact hsj, ?_,allP_swp HAj.out (jp+1) jp (by omega) (by omega),(show Hid _ from ?_)⟩
       ·rw[J1.out,HW2.out,←HXP.out,←HXJ.out];exact swap_w ptr w blk off dj (m+nq) (jp+1) jp (by omega) (by omega)
       ·show _=_
        rw[←HI.out,inner_go (ltK K) 0 jp dj hja (by rw[HXJ.out,HXP.out];unfold ltK;rw[HCV.out];exact decide_eq_true hlv)]
     ·go_wp2_with fail;go_quiet ((go_at_call 155;exact Calls.quiet_of (HCC.out _)))
      go_wp2
      go_roundg (d.size-(i+1))
      case measure=>omega
      case rel=>exact⟨i+1,m+nq,dj,by go_num,by omega,by omega,by omega,hsj,by rw[←HWQ.out,World.drewN_drewN],HAj,OUT.out (inner_stop _ _ _ _ (by rw[HXJ.out,HXP.out];unfold ltK;rw[HCV.out];exact decide_eq_false (by omega)))⟩
    ·obtain rfl:j=0:=by omega
     have hjaz:decide (((0:Nat):Int)>(0:Int))=false:=by decide
     generalize hwq:(putRow ptr w blk off dj).drewN m=wq;have HWQ:=Lq hwq;clear hwq;go_wp2_with fail;go_quiet (fail)
     go_wp2
     go_roundg (d.size-(i+1))
     case measure=>omega
     case rel=>exact⟨i+1,m+nq,dj,by go_num,by omega,by omega,by omega,hsj,by rw[←HWQ.out,World.drewN_drewN],HAj,OUT.out (inner_end _ _ _ _ (by omega))⟩
  ·have hltz:¬(i:Int)<(d.size:Int):=by omega
   go_wp2
   go_end0
   exact⟨rfl,n,by unfold Sort.insertionSort;rw[←HO.out,outer_stop _ _ _ _ _ hlt]⟩
theorem stable_any(K:Nat→Int)(blk off cap:Nat)(d:Array Nat)(w:World)(hH:Holds ptr w blk off d)(hlt:allPB (KeyAt w blk K) d)(hsz:d.size≤8) :
  Cs 197 #[.slice (some ⟨blk,off,none⟩) d.size cap,iv d.size,.func (.func 155) #[] #[]] w fun e w' =>
   e=.returned (.tuple #[])∧∃n,w'=(putRow ptr w blk off (Sort.insertionSort (ltK K) d 0 d.size)).drewN n:=by
 have hc:=insertion_any K blk off cap d w hH hlt (by omega)
 have HC:=Lq hc;clear hc hH hlt;have e1:((20:Int)<(d.size:Int))=False:=by simp;omega
 have e2:((20:Int)≤(d.size:Int))=False:=by simp;omega
 go_enter Tryz.func197,Tryz.ntmps197
 go_wp2
 refine wp_loop_rounds 1 ?_;rw[rounds_succ];go_wp2_with (go_at_call 223;refine HC.out.mono ?_;rintro e w1 ⟨rfl,n,rfl⟩)
 refine wp_loop_rounds 1 ?_;rw[rounds_succ];go_wp2
 go_end0
 exact⟨rfl,n,rfl⟩
theorem sortNd_any(K:Nat→Int)(blk off cap:Nat)(d:Array Nat)(w:World)(hH:Holds ptr w blk off d)(hlt:allPB (KeyAt w blk K) d)(hsz:d.size≤8) :
  Cs 154 #[.slice (some ⟨blk,off,none⟩) d.size cap,.func (.func 155) #[] #[]] w fun e w' =>
   e=.returned (.tuple #[])∧∃n,w'=(putRow ptr w blk off (Sort.insertionSort (ltK K) d 0 d.size)).drewN n:=by
 have hc:=stable_any K blk off cap d w hH hlt hsz;have HC:=Lq hc;clear hc hH hlt;go_enter Tryz.func154,Tryz.ntmps154
 go_wp2_with (go_at_call 197;refine HC.out.mono ?_;rintro e w1 ⟨rfl,n,rfl⟩)
 go_end0
 exact⟨rfl,n,rfl⟩
end Go.Proofs.YtigcophcpboanaaGreatDoor
namespace Go.Proofs.YtigcophcpboanaaGreatDoor
open Go.RowKit Go.Shelf
section
variable{b:Nat}
def Tryz.laysC122_ren:Go.Shelf.Ren:=⟨fun | 41=>153 | n=>n,fun | 22=>93 | 23=>159 | 4=>4 | n=>n,fun | n=>n⟩
theorem Tryz.laysC122:Go.Proofs.SlLaysE0.n41 Tryz.prog Tryz.laysC122_ren:={
 mixed:=by kernel_rfl
 f41:=⟨Tryz.f153.name,by decide,Tryz.func153.trans (congrArg some (by kernel_rfl))⟩
 t4:=Tryz.underlying4
 a4:=Tryz.isAgg4
 z4:=Tryz.sizeOf4
 v4:=Tryz.zeroValue4
 t22:=Tryz.underlying93
 a22:=Tryz.isAgg93
 z22:=Tryz.sizeOf93
 v22:=Tryz.zeroValue93 }
theorem Tryz.info159:(Tryz.prog.info? 159).map (fun i=>(i.zero,i.size,i.bytes))=some (some (.agg #[iv 0,iv 0,iv 0]),3,24):=by kernel_rfl
theorem Tryz.info213:(Tryz.prog.info? 116).map (fun i=>(i.zero,i.size,i.bytes))=some (some (.pointer none),1,8):=by kernel_rfl
theorem encWgh_len(c:Wgh):(encWgh c).length=3:=rfl
theorem info_parts{t:TypeId}{z:Option Value}{s:Nat}(h:(Tryz.prog.info? t).map (fun i=>(i.zero,i.size,i.bytes))=some (z,s,b)):∃i0,Tryz.prog.info? t=some i0∧i0.zero=z∧i0.size=s∧i0.bytes=b:=by
 rcases hi:Tryz.prog.info? t with _ | i0
 ·rw[hi]at h;cases h
 ·rw[hi]at h;simp only[Option.map_some,Option.some.injEq,Prod.mk.injEq]at h;exact⟨i0,rfl,h.1,h.2.1,h.2.2⟩
theorem flat_cellsB{α:Type}{k:Nat}(hk:0<k){encs:α→List Value}(he:∀x,(encs x).length=k){w:World}{B off:Nat}{xs:List α}(hR:RdN k encs w B (some ⟨b,off,none⟩) xs):∀j u,(xs.flatMap encs)[j]?=some u→w.cell? ⟨b,off+j,none⟩=some u:=by
 intro j u hu;have hj:j<xs.length*k:=by rw[←flat_len he];exact(lG hu)
 have hi:j/k<xs.length:=Nat.div_lt_of_lt_mul (by rw[Nat.mul_comm];exact hj)
 have hr:j%k<k:=Nat.mod_lt _ hk;obtain⟨x,hx⟩:∃x,xs[j/k]?=some x:=⟨_,gE hi⟩;obtain⟨v,hv⟩:∃v,(encs x)[j%k]?=some v:=⟨_,gE (by rw[he];exact hr)⟩
 have hf:=flat_get he xs _ x hx _ v hv;have e:j/k*k+j%k=j:=by rw[Nat.mul_comm];exact Nat.div_add_mod j k
 rw[e,hu]at hf;injection hf with hf
 subst hf;obtain⟨b',off',eA,_,hc⟩:=hR _ x hx;injection eA with eA
 injection eA with e1 e2
 subst e1 e2;have:=hc _ _ hv
 rwa [Nat.add_assoc,e]at this
theorem clone0_any(ad:Addr)(cap:Nat)(w:World) :
  Cs 153 #[.slice (some ad) 0 cap] w fun e w'=>∃v',e=.returned v'∧w'.ownsRow w.heap.size 159 3 v' 0 []∧BW w w':=by
 obtain⟨i0,hi,hz0,hz1,hz2⟩:=info_parts Tryz.info159;have hlit:=World.ownsRow_lit (e:=159) (size:=3) (base:=w.heap.size) w #[] 0 (lr _) (by decide) (by simp)
 have HL:=Lq hlit;clear hlit;have q28:∀(w:World) (a:Option Addr) (n c n' c':Nat),(binOp .eql 93 (.slice a n c) (.slice none n' c')).run Tryz.prog w=.ok (.bool a.isNone) w:=fun w a n c n' c'=>Lib.run_eql_slice_nil w _ _ a n c n' c' Tryz.underlying93
 go_enter Tryz.func153,Tryz.ntmps153
 go_wp2_with (at_builtin;refine wpList_append_own _ rfl _ _ 93 rfl w.heap.size 159 i0 (.agg #[iv 0,iv 0,iv 0]) 3 24 Tryz.underlying93 hi hz0 hz1 hz2 rfl (by decide) _ _ _ rfl HL.out ad 0 cap [] rfl rfl ?d1 ?d2 ?d3 ?d4 ?d5 ?_)
 intro v' w3 hown hg _;have hb:=grownB HL.out hg (lr _) (bA (bR w) _);have HO:=Lq hown;have HB:=Lq hb;clear hown hg hb HL;go_wp2
 go_ret
 exact⟨v',rfl,HO.out,HB.out⟩
theorem cloneWgh_any(A:Option Addr)(l:List Wgh)(B cap:Nat)(w:World)(hm:l.length≤6)(hR:RdN 3 encWgh w B A l) :
  Cs 153 #[.slice A l.length cap] w fun e w'=>∃v',e=.returned v'∧w'.ownsRow w.heap.size 159 3 v' l.length (l.flatMap encWgh)∧BW w w':=by
 rcases Nat.eq_zero_or_pos l.length with h0 | h0
 ·have:l=[]:=List.length_eq_zero_iff.1 h0;subst this;cases A with
  | none =>
   refine(AnyE.slices_Clone_nil Tryz.laysC122 0 cap w).mono ?_;rintro e w' ⟨rfl,rfl⟩;exact⟨_,rfl,World.ownsRow_nil _ _ _ _,bR _⟩
  | some ad=>exact clone0_any ad cap w
 ·obtain⟨i0,hi,hz0,hz1,hz2⟩:=info_parts Tryz.info159;obtain⟨b,off,rfl,_,_⟩:=hR 0 _ (gE h0);refine(AnyE.slices_Clone Tryz.laysC122 i0 _ 3 24 hi hz0 hz1 hz2 rfl (by decide) Tryz.sizeOf159 b off l.length cap (l.flatMap encWgh) w (flat_len encWgh_len l) (by unfold maxLen;omega) (by omega) (flat_cellsB (by decide) encWgh_len hR) ?_).mono ?_
  ·intro u hu;obtain⟨c,_,hc⟩:=List.mem_flatMap.1 hu;simp[encWgh]at hc;rcases hc with rfl | rfl | rfl<;>rfl
  ·rintro e w' ⟨v',rfl,h1,_,h3⟩;exact⟨v',rfl,h1,h3⟩
end
end Go.Proofs.YtigcophcpboanaaGreatDoor
namespace Go.Proofs.YtigcophcpboanaaGreatDoor
def subN(a b:Nat):Bool:=a&&&(255-b)==0
def setAt(N:List Nd)(i:Nat):Nat:=match N[i]? with
 | some nd=>nd.set
 | none=>0
def findUp(N:List Nd)(i:Nat):Option Nat:=(List.range N.length).find? fun m=>decide (i<m)&&subN (setAt N i) (setAt N m)
def giveTo(N:List Nd)(i m:Nat):List Nd:=N.modify m fun nd=>{ nd with own:=nd.own&&&(255-setAt N i),kids:=nd.kids++[i] }
def treeTo(N0:List Nd):Nat→List Nd
 | 0=>N0
 | i+1=>match findUp (treeTo N0 i) i with
  | none=>treeTo N0 i
  | some m=>giveTo (treeTo N0 i) i m
theorem giveTo_len(N:List Nd)(i m:Nat):(giveTo N i m).length=N.length:=by simp[giveTo]
theorem treeTo_len(N0:List Nd):∀i,(treeTo N0 i).length=N0.length:=by
 intro i;induction i with
 | zero=>rfl
 | succ i ih =>
  rw[treeTo];split
  ·exact ih
  ·rw[giveTo_len];exact ih
theorem giveTo_get(N:List Nd)(i m j:Nat)(nd:Nd)(h:(giveTo N i m)[j]?=some nd):∃nd0,N[j]?=some nd0∧nd.lo=nd0.lo∧nd.hi=nd0.hi∧nd.set=nd0.set∧((j≠m∧nd=nd0)∨(j=m∧nd.own=nd0.own&&&(255-setAt N i)∧nd.kids=nd0.kids++[i])):=by
 unfold giveTo at h;rw[List.getElem?_modify]at h;by_cases hj:m=j
 ·subst hj;simp only[if_true]at h;cases hn:N[m]? with
  | none=>rw[hn]at h;simp at h
  | some nd0 =>
   rw[hn]at h;simp at h;subst h;exact⟨nd0,rfl,rfl,rfl,rfl,.inr ⟨rfl,rfl,rfl⟩⟩
 ·simp only[if_neg hj]at h;cases hn:N[j]? with
  | none=>rw[hn]at h;simp at h
  | some nd0 =>
   rw[hn]at h;simp at h;subst h;exact⟨nd0,rfl,rfl,rfl,rfl,.inl ⟨fun e=>hj e.symm,rfl⟩⟩
theorem findUp_some{N:List Nd}{i m:Nat}(h:findUp N i=some m):i<m∧m<N.length∧subN (setAt N i) (setAt N m)=true:=by have h1:=List.find?_some h;have h2:=List.mem_of_find?_eq_some h;simp at h1 h2;exact⟨h1.1,h2,h1.2⟩
structure Shaped(N0 N:List Nd):Prop where
 len:N.length=N0.length
 same:∀(j:Nat) (nd:Nd),N[j]?=some nd→∃nd0,N0[j]?=some nd0∧nd.lo=nd0.lo∧nd.hi=nd0.hi∧nd.set=nd0.set∧nd.own≤nd0.own
 kid:∀(j:Nat) (nd:Nd),N[j]?=some nd→∀k∈nd.kids,k<j
theorem shaped_tree{N0:List Nd}(h0:∀nd∈N0,nd.kids=[]):∀i,Shaped N0 (treeTo N0 i):=by
 intro i;induction i with
 | zero =>
  exact⟨rfl,fun j nd h=>⟨nd,h,rfl,rfl,rfl,lr _⟩,fun j nd h k hk=>by rw[h0 nd (List.mem_of_getElem? h)]at hk;cases hk⟩
 | succ i ih =>
  rw[treeTo];split
  ·exact ih
  ·rename_i m hm;obtain⟨h1,_,_⟩:=findUp_some hm;refine⟨(giveTo_len _ _ _).trans ih.len,fun j nd h=>?_,fun j nd h k hk=>?_⟩
   ·obtain⟨nd1,e1,e2,e3,e4,e5⟩:=giveTo_get _ _ _ _ _ h;obtain⟨nd0,f1,f2,f3,f4,f5⟩:=ih.same j nd1 e1;refine⟨nd0,f1,e2.trans f2,e3.trans f3,e4.trans f4, ?_⟩;rcases e5 with⟨_,rfl⟩ | ⟨_,e6,_⟩
    ·exact f5
    ·rw[e6];exact lT Nat.and_le_left f5
   ·obtain⟨nd1,e1,_,_,_,e5⟩:=giveTo_get _ _ _ _ _ h;rcases e5 with⟨_,rfl⟩ | ⟨rfl,_,e7⟩
    ·exact ih.kid j nd e1 k hk
    ·rw[e7]at hk;rcases List.mem_append.1 hk with hk | hk
     ·exact ih.kid j nd1 e1 k hk
     ·have:k=i:=by simpa using hk
      omega
theorem kids_len{N0:List Nd}(h0:∀nd∈N0,nd.kids=[]):∀(i j:Nat) (nd:Nd),(treeTo N0 i)[j]?=some nd→nd.kids.length≤i:=by
 intro i;induction i with
 | zero =>
  intro j nd h;rw[h0 nd (List.mem_of_getElem? h)];simp
 | succ i ih =>
  intro j nd h;rw[treeTo]at h;split at h
  ·have:=ih j nd h;omega
  ·obtain⟨nd1,e1,_,_,_,e5⟩:=giveTo_get _ _ _ _ _ h;have h1:=ih j nd1 e1;rcases e5 with⟨_,rfl⟩ | ⟨_,_,e7⟩
   ·omega
   ·rw[e7];simp;omega
theorem treeOk_of{ps:List Prt}{N0:List Nd}(hp:PsOk ps)(hl:ps.length≤8)(h0:∀nd∈N0,nd.kids=[])(hb:∀nd∈N0,0≤nd.lo∧nd.lo≤1000000∧0≤nd.hi∧nd.hi≤1000000∧nd.own<256)(n0:0<N0.length)(n7:N0.length≤7):TreeOk ps (treeTo N0 N0.length):=by
 have hs:=shaped_tree h0 N0.length;refine⟨hp,hl,fun nd hnd=>?_,by rw[hs.len];exact n0,by rw[hs.len];exact n7,hs.kid⟩
 obtain⟨j,hj⟩:=List.getElem?_of_mem hnd;obtain⟨nd0,e1,e2,e3,_,e5⟩:=hs.same j nd hj;obtain⟨b1,b2,b3,b4,b5⟩:=hb nd0 (List.mem_of_getElem? e1);have:=kids_len h0 N0.length j nd hj;rw[e2,e3];exact⟨b1,b2,b3,b4,by omega,by omega⟩
end Go.Proofs.YtigcophcpboanaaGreatDoor
namespace Go.Proofs.YtigcophcpboanaaGreatDoor
open Go.RowKit
structure NodeAt(w:World)(b:Nat)(x:Wgh):Prop where
 c0:w.cell? ⟨b,0,none⟩=some (iv x.lo)
 c1:w.cell? ⟨b,1,none⟩=some (iv x.hi)
 c2:w.cell? ⟨b,2,none⟩=some (iv x.set)
 c3:w.cell? ⟨b,3,none⟩=some (iv x.set)
 c4:w.cell? ⟨b,4,none⟩=some (.slice none 0 0)
 fz:∀o,w.frozen? ⟨b,o,none⟩=false
structure LaidB(w0:World)(w:World)(X:List Wgh)(v:Value)(bs:List Nat):Prop where
 own:w.ownsRow w0.heap.size 116 1 v bs.length (bs.map ptr)
 node:∀(i b:Nat) (x:Wgh),bs[i]?=some b→X[i]?=some x→NodeAt w b x
 apart:∀b∈bs,w0.heap.size≤b∧b<w.heap.size∧v.ownBlock≠some b
 nodup:bs.Nodup
 below:BW w0 w
theorem cellNew(w:World)(l:List Value)(t:TypeId)(o:Nat):(w.alloc (.cells l.toArray t)).cell? ⟨w.heap.size,o,none⟩=l[o]?:=by
 have hh:(w.alloc (.cells l.toArray t)).heap[w.heap.size]?=some (.cells l.toArray t):=by rw[←World.alloc_eq];simp
 simp only[World.cell?,hh];simp
theorem frozenNew(w:World)(cs:Array Value)(t:TypeId)(o:Nat):(w.alloc (.cells cs t)).frozen? ⟨w.heap.size,o,none⟩=false:=by go_simp
theorem LaidB.more{w0 w w3:World}{X:List Wgh}{v v':Value}{bs:List Nat}{x:Wgh}{o1 o3:Obj}(h:LaidB w0 w X v bs)(hx:X[bs.length]?=some x)(hg:(((w.alloc o1).alloc (.cells #[iv x.lo,iv x.hi,iv x.set,iv x.set,.slice none 0 0] 215)).alloc o3).grownBy w3 v.ownBlock)(ho:w3.ownsRow w0.heap.size 116 1 v' (bs.length+1) (bs.map ptr++[ptr (w.heap.size+1)]))(hv:v'.ownBlock=v.ownBlock∨v'.ownBlock=some (w.heap.size+3)):LaidB w0 w3 X v' (bs++[w.heap.size+1]):=by
 have hb3:=bA (bA (bA h.below o1) (.cells #[iv x.lo,iv x.hi,iv x.set,iv x.set,.slice none 0 0] 215)) o3;have hsz:=hg.size;simp only[World.size_alloc]at hsz;have hz0:=h.below.size;have hvb:∀b,v.ownBlock=some b→w0.heap.size≤b∧b<w.heap.size:=fun b hb=>h.own.lt b hb
 have hvn:∀b,w.heap.size≤b→v.ownBlock≠some b:=fun b hb e=>by have:=(hvb b e).2;omega
 refine⟨by simpa using ho,fun i b y hi hy=>?_,fun b hb=>?_, ?_, ?_⟩
 ·rcases Nat.lt_or_ge i bs.length with hlt | hge
  ·rw[List.getElem?_append_left hlt]at hi;have hn:=h.node i b y hi hy;obtain⟨a1,a2,a3⟩:=h.apart b (List.mem_of_getElem? hi);have k:∀{o u},w.cell? ⟨b,o,none⟩=some u→w3.cell? ⟨b,o,none⟩=some u:=fun hc=>hg.cell (keepA (keepA (keepA hc _) _) _) (fun e=>a3 e.symm)
   refine⟨k hn.c0,k hn.c1,k hn.c2,k hn.c3,k hn.c4,fun o=>?_⟩
   rw[World.frozen?_of_block (a:=⟨b,o,none⟩) (hg.block b (by simp;omega) (fun e=>a3 e.symm)),keepAF (by simp;omega),keepAF (by simp;omega),keepAF a2]
   exact hn.fz o
  ·have hil:i<(bs++[w.heap.size+1]).length:=(lG hi);rw[List.length_append,List.length_singleton]at hil;obtain rfl:i=bs.length:=by omega
   rw[List.getElem?_append_right (lr _)]at hi;simp at hi;subst hi;rw[hx]at hy;injection hy with hy
   subst hy;obtain⟨W1,hW1⟩:=ex (w.alloc o1);have e:W1.heap.size=w.heap.size+1:=by rw[←hW1];simp
   rw[hW1]at hg;rw[←e];have hne:v.ownBlock≠some W1.heap.size:=hvn _ (by omega)
   have k:∀{o u},[iv x.lo,iv x.hi,iv x.set,iv x.set,Value.slice none 0 0][o]?=some u→w3.cell? ⟨W1.heap.size,o,none⟩=some u:=fun{o u} hu=>hg.cell (keepA ((cellNew W1 [iv x.lo,iv x.hi,iv x.set,iv x.set,.slice none 0 0] 215 o).trans hu) _) (fun e2=>hne e2.symm)
   refine⟨k rfl,k rfl,k rfl,k rfl,k rfl,fun o=>?_⟩
   rw[World.frozen?_of_block (a:=⟨W1.heap.size,o,none⟩) (hg.block _ (by simp;omega) (fun e2=>hne e2.symm)),keepAF (by simp),frozenNew]
 ·rcases List.mem_append.1 hb with hb | hb
  ·obtain⟨a1,a2,a3⟩:=h.apart b hb;refine⟨a1,by omega,fun e=>?_⟩
   rcases hv with hv | hv
   ·exact a3 (hv▸e)
   ·rw[hv]at e;injection e with e;omega
  ·have hbe:b=w.heap.size+1:=by simpa using hb
   subst hbe;refine⟨by omega,by omega,fun e=>?_⟩
   rcases hv with hv | hv
   ·exact hvn _ (by omega) (hv▸e)
   ·rw[hv]at e;injection e with e;omega
 ·rw[List.nodup_append];refine⟨h.nodup,by simp,fun a ha b hb=>?_⟩
  have hbe:b=w.heap.size+1:=by simpa using hb
  have:=(h.apart a ha).2.1;omega
 ·exact hb3.grown hg hb3.size (fun k hk=>(hvb k hk).1)
end Go.Proofs.YtigcophcpboanaaGreatDoor
namespace Go.Proofs.YtigcophcpboanaaGreatDoor
open Go.Sort
section
variable{x:Nat}
theorem toList_swp{d:Array Nat}{P S:List Nat}{y:Nat}(h:d.toList=P++y::x::S):(swp d (P.length+1) P.length).toList=P++x::y::S:=by
 have h1:d[P.length]! = y:=by rw[getElem!_def,←Array.getElem?_toList,h];simp
 have h2:d[P.length+1]! = x:=by rw[getElem!_def,←Array.getElem?_toList,h];simp
 unfold swp;rw[h1,h2,Array.toList_setIfInBounds,Array.toList_setIfInBounds,h];simp
variable (lt:Nat→Nat→Bool)
theorem insInner_list:∀(j:Nat) (d:Array Nat) (P S:List Nat) (x:Nat),d.toList=P++x::S→P.length=j →
  ∃P1 P2,P=P1++P2∧(∀y∈P2,lt x y=true)∧(∀z,P1.getLast?=some z→lt x z=false)∧(insInner lt 0 j d).toList=P1++x::(P2++S):=by
 intro j;induction j with
 | zero =>
  intro d P S x h hl;have hP:P=[]:=List.length_eq_zero_iff.1 hl;subst hP;exact⟨[],[],rfl,by simp,by simp,by rw[insInner,h];rfl⟩
 | succ j ih =>
  intro d P S x h hl;rcases List.eq_nil_or_concat P with rfl | ⟨Q,y,rfl⟩
  ·simp at hl
  have hq:Q.length=j:=by simpa using hl
  have hd:d.toList=Q++y::x::S:=by rw[h];simp
  have h1:d[j]! = y:=by rw[getElem!_def,←Array.getElem?_toList,hd];simp[←hq]
  have h2:d[j+1]! = x:=by rw[getElem!_def,←Array.getElem?_toList,hd];simp[←hq]
  cases hlt:lt x y
  ·refine⟨Q.concat y,[],by simp,by simp,fun z hz=>?_, ?_⟩
   ·have:z=y:=by simpa using hz.symm
    rw[this];exact hlt
   ·rw[insInner,if_neg (by rw[h1,h2];simp[hlt]),h]
    simp
  ·have hs:=toList_swp hd;rw[hq]at hs;obtain⟨P1,P2,e,hall,hlast,hr⟩:=ih (swp d (j+1) j) Q (y::S) x hs hq;refine⟨P1,P2++[y],by simp[e], ?_,hlast, ?_⟩
   ·intro z hz;rcases List.mem_append.1 hz with hz | hz
    ·exact hall z hz
    ·have:z=y:=by simpa using hz
     rw[this];exact hlt
   ·rw[insInner,if_pos (by rw[h1,h2];simp[hlt]),hr]
    simp
def KO(day:Nat→Int)(a b:Nat):Prop:=day a<day b∨(day a=day b∧a<b)
theorem KO_irrefl(day:Nat→Int)(a:Nat):¬KO day a a:=by unfold KO;omega
theorem insert_sorted{day:Nat→Int}{P1 P2:List Nat}(hs:(P1++P2).Pairwise (KO day))(hx:∀y∈P1++P2,y<x)(h2:∀y∈P2,day x<day y)(h1:∀z,P1.getLast?=some z→¬day x<day z):(P1++x::P2).Pairwise (KO day):=by
 rw[List.pairwise_append]at hs ⊢;obtain⟨a,b,c⟩:=hs;have hP1:∀y∈P1,KO day y x:=by
  intro y hy;rcases List.eq_nil_or_concat P1 with rfl | ⟨Q,z,rfl⟩
  ·simp at hy
  have hz:=h1 z (by simp)
  have hy':y<x:=hx y (List.mem_append_left _ hy);have hyz:day y≤day z:=by
   rw[List.concat_eq_append,List.pairwise_append]at a;rw[List.concat_eq_append,List.mem_append]at hy;rcases hy with hy | hy
   ·have:=a.2.2 y hy z (by simp)
    unfold KO at this;omega
   ·have:y=z:=by simpa using hy
    rw[this];omega
  unfold KO;omega
 refine⟨a, ?_, ?_⟩
 ·rw[List.pairwise_cons];exact⟨fun y hy=>by have:=h2 y hy;unfold KO;omega,b⟩
 ·intro y hy z hz;rcases List.mem_cons.1 hz with rfl | hz
  ·exact hP1 y hy
  ·exact c y hy z hz
theorem insOuter_list(day:Nat→Int):∀(S:List Nat) (d:Array Nat) (P:List Nat),d.toList=P++S→P.Pairwise (KO day)→(∀y∈P,∀z∈S,y<z)→S.Pairwise (· < ·) →
  ∃o,(insOuter (fun x y=>decide (day x-day y<0)) 0 d.size P.length d).toList=o∧o.Pairwise (KO day)∧(∀x,x∈o↔x∈P∨x∈S)∧o.length=d.size:=by
 intro S;induction S with
 | nil =>
  intro d P h hP _ _;have hl:d.size=P.length:=by rw[←Array.length_toList,h];simp
  rw[insOuter,if_neg (by omega)]
  exact⟨_,rfl,by rw[h];simpa using hP,by rw[h];simp,by rw[h];simp[hl]⟩
 | cons x S ih =>
  intro d P h hP hlt hS;have hl:d.size=P.length+(S.length+1):=by rw[←Array.length_toList,h];simp
  rw[List.pairwise_cons]at hS;rw[insOuter,if_pos (by omega)]
  obtain⟨P1,P2,e,h2,h1,hr⟩:=insInner_list (fun x y=>decide (day x-day y<0)) P.length d P S x h rfl
  generalize hd':insInner (fun x y=>decide (day x-day y<0)) 0 P.length d=d' at hr
  have hsz:d'.size=d.size:=by rw[←Array.length_toList,hr,hl,e];simp;omega
  have hd2:d'.toList=(P1++x::P2)++S:=by rw[hr];simp
  have hPl:(P1++x::P2).length=P.length+1:=by rw[e];simp;omega
  obtain⟨o,ho,hs,hm,hlen⟩:=ih d' (P1++x::P2) hd2
   (insert_sorted (e▸hP) (fun y hy=>hlt y (e▸hy) x (by simp)) (fun y hy=>by have:=h2 y hy;simp at this;omega) (fun z hz=>by have:=h1 z hz;simp at this;omega))
   (fun y hy z hz=>by
    rcases List.mem_append.1 hy with hy | hy
    ·exact hlt y (e▸List.mem_append_left _ hy) z (by simp[hz])
    ·rcases List.mem_cons.1 hy with rfl | hy
     ·exact hS.1 z hz
     ·exact hlt y (e▸List.mem_append_right _ hy) z (by simp[hz])) hS.2
  rw[hPl,hsz]at ho;refine⟨o,ho,hs,fun z=>?_,by omega⟩
  rw[hm z,e];simp only[List.mem_append,List.mem_cons];constructor
  ·rintro((a | a | a) | a)
   ·exact .inl (.inl a)
   ·exact .inr (.inl a)
   ·exact .inl (.inr a)
   ·exact .inr (.inr a)
  ·rintro((a | a) | (a | a))
   ·exact .inl (.inl a)
   ·exact .inl (.inr (.inr a))
   ·exact .inl (.inr (.inl a))
   ·exact .inr a
theorem insertionSort_list(day:Nat→Int)(d:Array Nat)(h:d.toList.Pairwise (· < ·)) :
  ∃o,(Sort.insertionSort (fun x y=>decide (day x-day y<0)) d 0 d.size).toList=o∧o.Pairwise (KO day)∧(∀x,x∈o↔x∈d.toList)∧o.length=d.size:=by
 unfold Sort.insertionSort;cases hd:d.toList with
 | nil =>
  have hz:d.size=0:=by rw[←Array.length_toList,hd];rfl
  rw[insOuter,if_neg (by omega)]
  exact⟨_,rfl,by rw[hd];simp,by rw[hd];simp,by simp⟩
 | cons x S =>
  rw[hd,List.pairwise_cons]at h;obtain⟨o,ho,hs,hm,hl⟩:=insOuter_list day S d [x] (by rw[hd];rfl) (by simp) (by simpa using h.1) h.2
  exact⟨o,ho,hs,fun z=>by rw[hm z];simp,hl⟩
end
end Go.Proofs.YtigcophcpboanaaGreatDoor
namespace Go.Proofs.YtigcophcpboanaaGreatDoor
open Go.RowKit Go.Sort
section
variable{base cap g i n:Nat}{v:Value}{w w':World}
def ptrAt(bs:List Nat)(j:Nat):Value:=ptr (bs[j]?.getD 0)
def ndOf(x:Wgh):Nd:=⟨x.lo,x.hi,x.set.toNat,x.set.toNat,[]⟩
structure TreeAt(base:Nat)(w:World)(v:Value)(N:List Nd)(bs:List Nat)(ks:Nat→Value):Prop where
 row:w.ownsRow base 116 1 v bs.length (bs.map ptr)
 len:N.length=bs.length
 c0:∀(i b:Nat) (nd:Nd),bs[i]?=some b→N[i]?=some nd→w.cell? ⟨b,0,none⟩=some (iv nd.lo)
 c1:∀(i b:Nat) (nd:Nd),bs[i]?=some b→N[i]?=some nd→w.cell? ⟨b,1,none⟩=some (iv nd.hi)
 c2:∀(i b:Nat) (nd:Nd),bs[i]?=some b→N[i]?=some nd→w.cell? ⟨b,2,none⟩=some (iv (nd.set:Int))
 c3:∀(i b:Nat) (nd:Nd),bs[i]?=some b→N[i]?=some nd→w.cell? ⟨b,3,none⟩=some (iv (nd.own:Int))
 c4:∀(i b:Nat) (nd:Nd),bs[i]?=some b→N[i]?=some nd→w.cell? ⟨b,4,none⟩=some (ks i)
 fz:∀b∈bs,∀o,w.frozen? ⟨b,o,none⟩=false
 ap:∀b∈bs,base≤b∧b<w.heap.size∧v.ownBlock≠some b
 kid:∀(i:Nat) (nd:Nd),N[i]?=some nd→w.ownsRow base 116 1 (ks i) nd.kids.length (nd.kids.map (ptrAt bs))
 ka:∀i,i<bs.length→∀g,(ks i).ownBlock=some g→v.ownBlock≠some g∧(∀b∈bs,b≠g)∧∀j,j<bs.length→j≠i→(ks j).ownBlock≠some g
 nodup:bs.Nodup
theorem ownKeepB{e:TypeId}{size:Nat}{xs:List Value}(h:w.ownsRow base e size v n xs)(hk:∀k,v.ownBlock=some k→w'.heap[k]?=w.heap[k]?):w'.ownsRow base e size v n xs:=by
 obtain⟨h1,h2⟩:=h;refine⟨h1, ?_⟩;rcases h2 with h2 | ⟨g,cap,cur,hv,hg,hh,r⟩
 ·exact Or.inl h2
 ·subst hv;exact Or.inr ⟨g,cap,cur,rfl,hg,by rw[hk g rfl];exact hh,r⟩
theorem TreeAt.keep{N:List Nd}{bs:List Nat}{ks:Nat→Value}(h:TreeAt base w v N bs ks)(hb:BW w w'):TreeAt base w' v N bs ks:=by
 have hr:∀{v:Value} {n:Nat} {xs:List Value},w.ownsRow base 116 1 v n xs→w'.ownsRow base 116 1 v n xs:=fun hv=>ownKeepB hv fun k hk=>hb.block k (hv.lt k hk).2
 refine⟨hr h.row,h.len,fun i b nd h1 h2=>kC hb (h.c0 i b nd h1 h2),fun i b nd h1 h2=>kC hb (h.c1 i b nd h1 h2),fun i b nd h1 h2=>kC hb (h.c2 i b nd h1 h2),fun i b nd h1 h2=>kC hb (h.c3 i b nd h1 h2),fun i b nd h1 h2=>kC hb (h.c4 i b nd h1 h2),fun b hbm o=>?_,fun b hbm=>?_,fun i nd hi=>hr (h.kid i nd hi),h.ka,h.nodup⟩
 ·rw[World.frozen?_of_block (a:=⟨b,o,none⟩) (hb.block b (h.ap b hbm).2.1)];exact h.fz b hbm o
 ·obtain⟨a1,a2,a3⟩:=h.ap b hbm;exact⟨a1,lz a2 hb.size,a3⟩
theorem getElem_inj{l:List Nat}(h:l.Nodup){j b:Nat}(hi:l[i]?=some b)(hj:l[j]?=some b):i=j:=by obtain⟨h1,e1⟩:=List.getElem?_eq_some_iff.1 hi;obtain⟨h2,e2⟩:=List.getElem?_eq_some_iff.1 hj;exact(List.getElem_inj h).1 (e1.trans e2.symm)
theorem TreeAt.give{w2:World}{N:List Nd}{bs:List Nat}{ks:Nat→Value}{kv:Value}(h:TreeAt base w v N bs ks){m bm:Nat}{nd:Nd}(hbm:bs[m]?=some bm)(hm:N[m]?=some nd)(hg:w.grownBy w2 (ks m).ownBlock)(ho:w2.ownsRow base 116 1 kv (nd.kids.length+1) (nd.kids.map (ptrAt bs)++[ptrAt bs i]))(hv:kv.ownBlock=(ks m).ownBlock∨∃k,kv.ownBlock=some k∧w.heap.size≤k) :
  TreeAt base ((w2.setCell ⟨bm,4,none⟩ kv).setCell ⟨bm,3,none⟩ (iv ((nd.own&&&(255-setAt N i):Nat):Int))) v (giveTo N i m) bs (fun j=>if j=m then kv else ks j):=by
 have hml:m<bs.length:=(lG hbm);have hmem:bm∈bs:=List.mem_of_getElem? hbm;have hz:=hg.size;have hfresh:∀k,kv.ownBlock=some k→(∀b∈bs,b≠k)∧v.ownBlock≠some k∧∀j,j<bs.length→j≠m→(ks j).ownBlock≠some k:=fun k hk=>by
  rcases hv with hv | ⟨k',hv,hlt⟩
  ·rw[hv]at hk;obtain⟨a1,a2,a3⟩:=h.ka m hml k hk;exact⟨a2,a1,a3⟩
  ·rw[hv]at hk;injection hk with hk
   subst hk;refine⟨fun b hb e=>by have:=(h.ap b hb).2.1;omega,fun e=>by have:=(h.row.lt _ e).2;omega,fun j hj _ e=>?_⟩
   have:=((h.kid j (N[j]'(by rw[h.len];exact hj)) (gE _)).lt _ e).2
   omega
 have hcell:∀{b o u},b∈bs→w.cell? ⟨b,o,none⟩=some u→w2.cell? ⟨b,o,none⟩=some u:=fun{b o u} hb hc=>hg.cell hc (fun e=>(h.ka m hml b e.symm).2.1 b hb rfl)
 have hset:∀{W:World} {b o:Nat} {u:Value} (p:Nat) (x:Value),b≠bm∨o≠p→W.cell? ⟨b,o,none⟩=some u→(W.setCell ⟨bm,p,none⟩ x).cell? ⟨b,o,none⟩=some u:=fun{W b o u} p x hne hc=>by
  rw[←hc];refine World.cell?_setCell_other _ _ _ _ fun e=>?_
  injection e with e1 e2
  rcases hne with hne | hne
  ·exact hne e1.symm
  ·exact hne e2.symm
 have hfin:∀{b o u},b∈bs→(b≠bm∨(o≠4∧o≠3))→w.cell? ⟨b,o,none⟩=some u→((w2.setCell ⟨bm,4,none⟩ kv).setCell ⟨bm,3,none⟩ (iv ((nd.own&&&(255-setAt N i):Nat):Int))).cell? ⟨b,o,none⟩=some u:=fun{b o u} hb hne hc =>
  hset 3 _ (hne.imp id (·.2)) (hset 4 _ (hne.imp id (·.1)) (hcell hb hc))
 have hrow:∀{v0:Value} {n:Nat} {xs:List Value},w2.ownsRow base 116 1 v0 n xs→v0.ownBlock≠some bm→((w2.setCell ⟨bm,4,none⟩ kv).setCell ⟨bm,3,none⟩ (iv ((nd.own&&&(255-setAt N i):Nat):Int))).ownsRow base 116 1 v0 n xs:=fun h0 hne=>ownsRow_setCell_other (ownsRow_setCell_other h0 hne _) hne _
 have hold:∀{v0:Value} {n:Nat} {xs:List Value},w.ownsRow base 116 1 v0 n xs→(∀k,v0.ownBlock=some k→(ks m).ownBlock≠some k)→w2.ownsRow base 116 1 v0 n xs:=fun h0 hne=>ownKeepB h0 fun k hk=>hg.block k (h0.lt k hk).2 (fun e=>hne k hk e.symm)
 refine⟨hrow (hold h.row fun k hk e=>(h.ka m hml k e).1 hk) (h.ap bm hmem).2.2,(giveTo_len _ _ _).trans h.len,fun j b nd1 h1 h2=>?_,fun j b nd1 h1 h2=>?_,fun j b nd1 h1 h2=>?_,fun j b nd1 h1 h2=>?_,fun j b nd1 h1 h2=>?_,fun b hb o=>?_,fun b hb=>?_,fun j nd1 h1=>?_,fun j hj g hgk=>?_,h.nodup⟩
 ·obtain⟨nd0,e1,e2,_,_,_⟩:=giveTo_get _ _ _ _ _ h2;rw[e2];exact hfin (List.mem_of_getElem? h1) (.inr ⟨by decide,by decide⟩) (h.c0 j b nd0 h1 e1)
 ·obtain⟨nd0,e1,_,e2,_,_⟩:=giveTo_get _ _ _ _ _ h2;rw[e2];exact hfin (List.mem_of_getElem? h1) (.inr ⟨by decide,by decide⟩) (h.c1 j b nd0 h1 e1)
 ·obtain⟨nd0,e1,_,_,e2,_⟩:=giveTo_get _ _ _ _ _ h2;rw[e2];exact hfin (List.mem_of_getElem? h1) (.inr ⟨by decide,by decide⟩) (h.c2 j b nd0 h1 e1)
 ·obtain⟨nd0,e1,_,_,_,e2⟩:=giveTo_get _ _ _ _ _ h2;rcases e2 with⟨hj,rfl⟩ | ⟨rfl,e3,_⟩
  ·exact hfin (List.mem_of_getElem? h1) (.inl fun e=>hj (getElem_inj h.nodup h1 (e▸hbm))) (h.c3 j b nd1 h1 e1)
  ·rw[hbm]at h1;injection h1 with h1
   subst h1;rw[hm]at e1;injection e1 with e1
   subst e1;rw[e3];exact World.cell?_setCell_same _ _ _ (hset 4 _ (.inr (by decide)) (hcell hmem (h.c3 j bm nd hbm hm)))
 ·obtain⟨nd0,e1,_,_,_,e2⟩:=giveTo_get _ _ _ _ _ h2;by_cases hj:j=m
  ·subst hj;rw[hbm]at h1;injection h1 with h1
   subst h1;rw[if_pos rfl];exact hset 3 _ (.inr (by decide)) (World.cell?_setCell_same _ _ _ (hcell hmem (h.c4 j bm nd hbm hm)))
  ·rw[if_neg hj];exact hfin (List.mem_of_getElem? h1) (.inl fun e=>hj (getElem_inj h.nodup h1 (e▸hbm))) (h.c4 j b nd0 h1 e1)
 ·rw[World.frozen?_setCell,World.frozen?_setCell,World.frozen?_of_block (a:=⟨b,o,none⟩) (hg.block b (h.ap b hb).2.1 (fun e=>(h.ka m hml b e.symm).2.1 b hb rfl))]
  exact h.fz b hb o
 ·obtain⟨a1,a2,a3⟩:=h.ap b hb;exact⟨a1,by simp;omega,a3⟩
 ·obtain⟨nd0,e1,_,_,_,e2⟩:=giveTo_get _ _ _ _ _ h1;rcases e2 with⟨hj,rfl⟩ | ⟨rfl,_,e3⟩
  ·rw[if_neg hj];have hjl:j<bs.length:=by rw[←h.len];exact(lG e1)
   exact hrow (hold (h.kid j nd1 e1) fun k hk e=>(h.ka m hml k e).2.2 j hjl hj hk) fun e=>(h.ka j hjl bm e).2.1 bm hmem rfl
  ·rw[if_pos rfl];rw[hm]at e1;injection e1 with e1
   subst e1;rw[e3,List.map_append,List.length_append];exact hrow ho fun e=>(hfresh bm e).1 bm hmem rfl
 ·by_cases hjm:j=m
  ·subst hjm;rw[if_pos rfl]at hgk;obtain⟨f1,f2,f3⟩:=hfresh g hgk;refine⟨f2,f1,fun j' hj' hne=>?_⟩
   rw[if_neg hne];exact f3 j' hj' hne
  ·rw[if_neg hjm]at hgk;obtain⟨f1,f2,f3⟩:=h.ka j hj g hgk;refine⟨f1,f2,fun j' hj' hne=>?_⟩
   by_cases hj2:j'=m
   ·subst hj2;rw[if_pos rfl];intro e;exact(hfresh g e).2.2 j hj hjm hgk
   ·rw[if_neg hj2];exact f3 j' hj' hne
theorem perm_zip{α β:Type}{bs bs':List α}(hp:bs.Perm bs'):∀X:List β,X.length=bs.length→∃X':List β,(bs.zip X).Perm (bs'.zip X')∧X'.length=bs'.length∧X.Perm X':=by
 induction hp with
 | nil=>intro X h;exact⟨X,by simp,h,.refl _⟩
 | cons x _ ih =>
  intro X h;cases X with
  | nil=>simp at h
  | cons y X =>
   obtain⟨X',h1,h2,h3⟩:=ih X (by simpa using h)
   exact⟨y::X',by rw[List.zip_cons_cons,List.zip_cons_cons];exact h1.cons _,by simp[h2],h3.cons _⟩
 | swap x y l =>
  intro X h
  match X,h with
  | a::b::X,h=>exact⟨b::a::X,by simp only[List.zip_cons_cons];exact List.Perm.swap _ _ _,by simpa using h,List.Perm.swap _ _ _⟩
  | [_],h=>simp at h
  | [],h=>simp at h
 | trans _ _ ih1 ih2 =>
  intro X h;obtain⟨X1,a1,a2,a3⟩:=ih1 X h;obtain⟨X2,b1,b2,b3⟩:=ih2 X1 a2;exact⟨X2,a1.trans b1,b2,a3.trans b3⟩
theorem belowPut{a:World}(h:BW a w)(hg:a.heap.size≤g)(off:Nat)(d:Array Nat):BW a (putRow ptr w g off d) :=
 h.trans ⟨rfl,rfl,rfl,by simp[putRow,mapBlock],fun k hk=>by simp only[putRow,mapBlock,Array.getElem?_modify];rw[if_neg (by omega)]⟩
theorem own_put{bs ts:List Nat}(hl:ts.length=bs.length)(h:w.ownsRow base 116 1 (.slice (some ⟨g,0,none⟩) bs.length cap) bs.length (bs.map ptr)):(putRow ptr w g 0 ts.toArray).ownsRow base 116 1 (.slice (some ⟨g,0,none⟩) ts.length cap) ts.length (ts.map ptr):=by
 obtain⟨_,h2⟩:=h;rcases h2 with⟨h0,_⟩ | ⟨g',cap',cur,hv,hg,hh,h3,h4,h5,_⟩
 ·cases h0
 ·injection hv with hv1 hv2 hv3
  injection hv1 with hv1
  injection hv1 with hv1
  subst hv1 hv3;refine⟨by simp,.inr ⟨g,cap,putCells ptr 0 ts.toArray cur,rfl,hg, ?_,by omega,h4,by simp[putCells,h5], ?_⟩⟩
  ·simp[putRow,mapBlock,Array.getElem?_modify,hh,onCells]
  ·rw[Nat.mul_one];apply List.ext_getElem?;intro j;by_cases hj:j<ts.length
   ·rw[List.getElem?_take_of_lt hj,Array.getElem?_toList];simp[putCells,hj,show j<cur.size by omega]
   ·rw[List.getElem?_take_eq_none (by omega),List.getElem?_eq_none (by simp;omega)]
theorem own_holdsP{e:TypeId}{xs:List Nat}(h:w.ownsRow base e 1 (.slice (some ⟨g,0,none⟩) xs.length cap) xs.length (xs.map ptr)) :
  Go.Sort.Holds ptr w g 0 xs.toArray:=by
 intro j hj;have hj':j<xs.length:=by simpa using hj
 refine⟨?_,by rw[Nat.zero_add];exact h.frozenAt j⟩
 rw[Nat.zero_add,h.cellAt j (by omega),List.getElem?_map,gE hj']
 simp[hj']
def keyOf(w:World)(b:Nat):Int:=match w.cell? ⟨b,2,none⟩with
 | some (.int _ s)=>(onesN s.toNat:Int)
 | _=>0
theorem sortedTree{w0:World}{X:List Wgh}{bs d':List Nat}(h:LaidB w0 w X (.slice (some ⟨g,0,none⟩) bs.length cap) bs)(hX:X.length=bs.length)(hs:∀x∈X,∃s:Nat,s<256∧x.set=(s:Int))(hp:bs.Perm d')(ho:d'.Pairwise (KO (keyOf w))) :
  ∃X':List Wgh,X.Perm X'∧X'.Pairwise (fun a b=>onesN a.set.toNat≤onesN b.set.toNat)∧TreeAt w0.heap.size ((putRow ptr w g 0 d'.toArray).drewN n) (.slice (some ⟨g,0,none⟩) bs.length cap) (X'.map ndOf) d' (fun _=>.slice none 0 0):=by
 obtain⟨X',h1,h2,h3⟩:=perm_zip hp X hX;have hnode:∀(i b:Nat) (x:Wgh),d'[i]?=some b→X'[i]?=some x→NodeAt w b x∧∃s:Nat,s<256∧x.set=(s:Int):=fun i b x hi hx=>by
  have hm:(b,x)∈d'.zip X':=by
   have:(d'.zip X')[i]?=some (b,x):=by rw[List.getElem?_zip_eq_some];exact⟨hi,hx⟩
   exact List.mem_of_getElem? this
  have hm2:=h1.mem_iff.2 hm;obtain⟨j,hj⟩:=List.getElem?_of_mem hm2;rw[List.getElem?_zip_eq_some]at hj;exact⟨h.node j b x hj.1 hj.2,hs x (List.mem_of_getElem? hj.2)⟩
 have hlen:d'.length=bs.length:=hp.length_eq.symm;have hkey:∀(i b:Nat) (x:Wgh),d'[i]?=some b→X'[i]?=some x→keyOf w b=(onesN x.set.toNat:Int):=fun i b x hi hx=>by have:=(hnode i b x hi hx).1.c2;simp[keyOf,this]
 have hmem:∀b∈d',b∈bs:=fun b hb=>hp.mem_iff.2 hb
 have hrow:(putRow ptr w g 0 d'.toArray).ownsRow w0.heap.size 116 1 (.slice (some ⟨g,0,none⟩) d'.length cap) d'.length (d'.map ptr):=own_put hlen h.own;have hc:∀{b o:Nat} {u:Value},b∈d'→w.cell? ⟨b,o,none⟩=some u→((putRow ptr w g 0 d'.toArray).drewN n).cell? ⟨b,o,none⟩=some u:=fun{b o u} hb hc=>by have:=(h.apart b (hmem b hb)).2.2;exact(cell?_putRow_other ptr w g 0 d'.toArray ⟨b,o,none⟩ (.inl fun e=>this (by subst e;rfl))).trans hc
 have hget:∀(i b:Nat) (nd:Nd),d'[i]?=some b→(X'.map ndOf)[i]?=some nd→∃x,X'[i]?=some x∧nd=ndOf x:=fun i b nd _ h2=>by
  rw[List.getElem?_map]at h2;cases hx:X'[i]? with
  | none=>rw[hx]at h2;simp at h2
  | some x=>rw[hx]at h2;simp at h2;exact⟨x,rfl,h2.symm⟩
 refine⟨X',h3, ?_, ?_⟩
 ·rw[List.pairwise_iff_getElem]at ho ⊢;intro i j hi hj hij;have k:=ho i j (by omega) (by omega) hij
  have k1:=hkey i _ _ (gE (by omega)) (gE hi)
  have k2:=hkey j _ _ (gE (by omega)) (gE hj)
  unfold KO at k;rw[k1,k2]at k;omega
 ·refine⟨by rw[←hlen];exact hrow,by simp[h2],fun i b nd h1 h2=>?_,fun i b nd h1 h2=>?_,fun i b nd h1 h2=>?_,fun i b nd h1 h2=>?_,fun i b nd h1 h2=>?_,fun b hb o=>?_,fun b hb=>?_,fun i nd hi=>?_,fun i hi g' hg'=>by simp[Value.ownBlock]at hg',(hp.nodup_iff).1 h.nodup⟩
  ·obtain⟨x,hx,rfl⟩:=hget i b nd h1 h2;exact hc (List.mem_of_getElem? h1) (hnode i b x h1 hx).1.c0
  ·obtain⟨x,hx,rfl⟩:=hget i b nd h1 h2;exact hc (List.mem_of_getElem? h1) (hnode i b x h1 hx).1.c1
  ·obtain⟨x,hx,rfl⟩:=hget i b nd h1 h2;obtain⟨hn,s,_,hs2⟩:=hnode i b x h1 hx;have:=hn.c2;rw[hs2]at this
   simpa[ndOf,hs2]using hc (List.mem_of_getElem? h1) this
  ·obtain⟨x,hx,rfl⟩:=hget i b nd h1 h2;obtain⟨hn,s,_,hs2⟩:=hnode i b x h1 hx;have:=hn.c3;rw[hs2]at this
   simpa[ndOf,hs2]using hc (List.mem_of_getElem? h1) this
  ·obtain⟨x,hx,rfl⟩:=hget i b nd h1 h2;exact hc (List.mem_of_getElem? h1) (hnode i b x h1 hx).1.c4
  ·obtain⟨i,hi⟩:=List.getElem?_of_mem hb;have hil:=(lG hi);have:=(hnode i b _ hi (gE (by omega))).1.fz o
   exact(frozen?_putRow ptr w g 0 d'.toArray ⟨b,o,none⟩).trans this
  ·obtain⟨a1,a2,a3⟩:=h.apart b (hmem b hb);refine⟨a1, ?_,a3⟩;show b<(putRow ptr w g 0 d'.toArray).heap.size
   simpa[putRow,mapBlock]using a2
  ·rw[List.getElem?_map]at hi;cases hx:X'[i]? with
   | none=>rw[hx]at hi;simp at hi
   | some x =>
    rw[hx]at hi;simp at hi;subst hi;exact⟨by simp[ndOf],.inl ⟨rfl,rfl⟩⟩
end
end Go.Proofs.YtigcophcpboanaaGreatDoor
namespace Go.Proofs.YtigcophcpboanaaGreatDoor
open Go.RowKit
section
variable{base cap g i m:Nat}{v:Value}{w w0:World}
theorem findUp_at{N:List Nd}(h1:i<m)(h2:m<N.length)(h3:subN (setAt N i) (setAt N m)=true)(h4:∀k,i<k→k<m→subN (setAt N i) (setAt N k)=false):findUp N i=some m:=by
 unfold findUp;rw[List.find?_range_eq_some];refine⟨by simp[h1,h3],by simp[h2],fun k hk=>?_⟩
 by_cases hik:i<k
 ·simp[hik,h4 k hik hk]
 ·simp[hik]
theorem findUp_no{N:List Nd}(h4:∀k,i<k→k<N.length→subN (setAt N i) (setAt N k)=false):findUp N i=none:=by
 unfold findUp;rw[List.find?_range_eq_none];intro k hk;by_cases hik:i<k
 ·simp[hik,h4 k hik hk]
 ·simp[hik]
theorem tree_go{N0:List Nd}(h:findUp (treeTo N0 i) i=some m):treeTo N0 (i+1)=giveTo (treeTo N0 i) i m:=by rw[treeTo,h]
theorem tree_no{N0:List Nd}(h:findUp (treeTo N0 i) i=none):treeTo N0 (i+1)=treeTo N0 i:=by rw[treeTo,h]
theorem setAt_some{N:List Nd}{nd:Nd}(h:N[i]?=some nd):setAt N i=nd.set:=by unfold setAt;rw[h]
theorem TreeAt.tab{N:List Nd}{bs:List Nat}{ks:Nat→Value}(h:TreeAt base w v N bs ks)(hk:∀(i:Nat) (nd:Nd),N[i]?=some nd→∀j∈nd.kids,j<i):TabAt w w.heap.size N bs:=by
 intro i nd hi;have hil:i<bs.length:=by rw[←h.len];exact(lG hi)
 have hb:=gE hil;have hbm:=h.ap _ (List.mem_of_getElem? hb);obtain⟨A,cap,hv,hR,_⟩:=own_rd1 (h.kid i nd hi);refine⟨bs[i],hb,hbm.2.1,h.c0 i _ nd hb hi,h.c1 i _ nd hb hi,h.c2 i _ nd hb hi,h.c3 i _ nd hb hi,A,cap,by rw[h.c4 i _ nd hb hi,hv],fun k j hkj=>?_⟩
 obtain⟨b,off,e,hlt,hc⟩:=hR k j hkj;have hj:=hk i nd hi j (List.mem_of_getElem? hkj);refine⟨b,off,bs[j]'(by omega),e,hlt,gE (by omega), ?_⟩
 rw[hc,ptrAt,gE (by omega)]
 rfl
theorem TreeAt.tabOff{N:List Nd}{bs:List Nat}{ks:Nat→Value}(h:TreeAt base w v N bs ks){km:Nat}(hkm:km<base):TabOff w km N bs:=by
 intro i nd hi b hb;refine⟨fun e=>by have:=(h.ap b (List.mem_of_getElem? hb)).1;omega,fun ad n cap hc=>?_⟩
 rw[h.c4 i b nd hb hi]at hc;injection hc with hc
 have:=((h.kid i nd hi).lt ad.block (by rw[hc];rfl)).1
 omega
theorem TreeAt.at{N:List Nd}{bs:List Nat}{ks:Nat→Value}(h:TreeAt base w v N bs ks)(hi:i<bs.length):∃b nd,bs[i]?=some b∧N[i]?=some nd∧setAt N i=nd.set∧w.cell? ⟨b,2,none⟩=some (iv (nd.set:Int))∧w.cell? ⟨b,3,none⟩=some (iv (nd.own:Int))∧w.cell? ⟨b,4,none⟩=some (ks i)∧(∀o,w.frozen? ⟨b,o,none⟩=false)∧base≤b∧b<w.heap.size:=by
 have hb:=gE hi;have hn:=gE (show i<N.length by rw[h.len];exact hi)
 obtain⟨a1,a2,_⟩:=h.ap _ (List.mem_of_getElem? hb);exact⟨bs[i],N[i]'(by rw[h.len];exact hi),hb,hn,setAt_some hn,h.c2 i _ _ hb hn,h.c3 i _ _ hb hn,h.c4 i _ _ hb hn,h.fz _ (List.mem_of_getElem? hb),a1,a2⟩
theorem TreeAt.cells{N:List Nd}{bs:List Nat}{ks:Nat→Value}(h:TreeAt base w v N bs ks){b:Nat}{nd:Nd}(hb:bs[i]?=some b)(hn:N[i]?=some nd):w.cell? ⟨b,2,none⟩=some (iv (nd.set:Int))∧w.cell? ⟨b,3,none⟩=some (iv (nd.own:Int))∧w.cell? ⟨b,4,none⟩=some (ks i)∧w.frozen? ⟨b,3,none⟩=false∧w.frozen? ⟨b,4,none⟩=false∧b<w.heap.size := 
 ⟨h.c2 i _ _ hb hn,h.c3 i _ _ hb hn,h.c4 i _ _ hb hn,h.fz _ (List.mem_of_getElem? hb) 3,h.fz _ (List.mem_of_getElem? hb) 4,(h.ap _ (List.mem_of_getElem? hb)).2.1⟩
theorem laid_keys{X:List Wgh}{bs:List Nat}(h:LaidB w0 w X (.slice (some ⟨g,0,none⟩) m cap) bs)(hX:X.length=bs.length)(hs:∀x∈X,∃s:Nat,s<256∧x.set=(s:Int)):allPB (KeyAt w g (keyOf w)) bs.toArray:=by
 intro j hj;have hj':j<bs.length:=by simpa using hj
 have e:bs.toArray[j]! = bs[j]:=by simp[hj']
 rw[e];obtain⟨_,_,a3⟩:=h.apart bs[j] (List.getElem_mem hj');have hx:=gE (show j<X.length by omega)
 obtain⟨s,hs1,hs2⟩:=hs _ (List.mem_of_getElem? hx);have hc:=(h.node j _ _ (gE hj') hx).c2;rw[hs2]at hc;exact⟨fun e=>a3 (by rw[e];rfl),s,hs1,hc,by simp[keyOf,hc]⟩
theorem laid_sorted{X:List Wgh}{bs:List Nat}(h:LaidB w0 w X (.slice (some ⟨g,0,none⟩) bs.length cap) bs)(hX:X.length=bs.length)(hs:∀x∈X,∃s:Nat,s<256∧x.set=(s:Int))(hup:bs.Pairwise (· < ·))(hg:w0.heap.size≤g)(n:Nat) :
  ∃X' d':List _,X.Perm X'∧X'.Pairwise (fun a b=>onesN a.set.toNat≤onesN b.set.toNat)∧d'.length=bs.length∧TreeAt w0.heap.size ((Go.Sort.putRow ptr w g 0 (Go.Sort.insertionSort (ltK (keyOf w)) bs.toArray 0 bs.toArray.size)).drewN n) (.slice (some ⟨g,0,none⟩) bs.length cap) (X'.map ndOf) d' (fun _=>.slice none 0 0)∧BW w0 ((Go.Sort.putRow ptr w g 0 (Go.Sort.insertionSort (ltK (keyOf w)) bs.toArray 0 bs.toArray.size)).drewN n):=by
 obtain⟨o,e,h1,h2,h3⟩:=insertionSort_list (keyOf w) bs.toArray (by simpa using hup)
 have ha:Go.Sort.insertionSort (ltK (keyOf w)) bs.toArray 0 bs.toArray.size=o.toArray:=by rw[←e,Array.toArray_toList];rfl
 rw[ha];have hn:o.Nodup:=h1.imp fun{a b} k e=>by subst e;exact KO_irrefl _ _ k
 have hp:bs.Perm o:=(List.perm_ext_iff_of_nodup h.nodup hn).2 fun x=>by rw[h2 x]
 obtain⟨X',k1,k2,k3⟩:=sortedTree (n:=n) h hX hs hp h1;exact⟨X',o,k1,k2,hp.length_eq.symm,k3,belowD (belowPut h.below hg 0 _) n⟩
end
end Go.Proofs.YtigcophcpboanaaGreatDoor
