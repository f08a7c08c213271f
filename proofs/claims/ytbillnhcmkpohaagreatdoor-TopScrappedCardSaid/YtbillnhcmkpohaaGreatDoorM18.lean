/- waste: by how much the first place has too much or too little (printed by mkWE3.py). .. -/
import Derived.Laws.ShiftsVarLaws
import Derived.Test.YtbillnhcmkpohaaGreatDoorM17
set_option maxRecDepth 1000000
set_option maxHeartbeats 0
namespace Go.Proofs.YtbillnhcmkpohaaGreatDoor
open Go.RowKit
section
variable{o0 o1:Int}{g11 g4 g6:Nat}{w wr:World}
noncomputable def yi:Array Oper:=aU (aF Tryz.f113 13)
noncomputable def yj:Array Oper:=aU (aF Tryz.f113 22)
noncomputable def yq:Array Oper:=aU (aF Tryz.f113 24)
theorem Tryz.idx250_0(W:World):(Instr.index 250 (.agg #[bG,bH,bH,bG]) (iv 0)).run Tryz.prog W=.ok (.agg #[bG,bH]) W:=by kernel_rfl
theorem Tryz.idx250_1(W:World):(Instr.index 250 (.agg #[bG,bH,bH,bG]) (iv 1)).run Tryz.prog W=.ok (.agg #[bH,bG]) W:=by kernel_rfl
structure dt(w:World)(y:ar)(A:aI)(g4 g6 g11:Nat)(wr:World)(o0 o1:Int):Prop where
 b4:aa wr g4 74 (ak y A)
 b6:aa wr g6 3 #[iv 1]
 b11:aa wr g11 246 #[iv o0,iv o1]
 bw:BW w wr
 l11:w.heap.size≤g11
theorem dt.below{w':World}{y:ar}{A:aI}(h:dt w y A g4 g6 g11 wr o0 o1)(a:BW wr w'):dt w y A g4 g6 g11 w' o0 o1 :=
 ⟨h.b4.keep a,h.b6.keep a,h.b11.keep a,bT h.bw a,h.l11⟩
theorem dt.put0{y:ar}{A:aI}(h:dt w y A g4 g6 g11 wr o0 o1)(v:Int):dt w y A g4 g6 g11 (wr.setCell ⟨g11,0,none⟩ (iv v)) v o1 :=
 ⟨h.b4.far (bF h.b4 h.b11 (by decide)) _,h.b6.far (bF h.b6 h.b11 (by decide)) _,by have h:=h.b11.set_ 0 (iv v);simpa using h,aH h.bw h.l11 (p:=⟨g11,0,none⟩) _,h.l11⟩
theorem dt.put1{y:ar}{A:aI}(h:dt w y A g4 g6 g11 wr o0 o1)(v:Int):dt w y A g4 g6 g11 (wr.setCell ⟨g11,1,none⟩ (iv v)) o0 v :=
 ⟨h.b4.far (bF h.b4 h.b11 (by decide)) _,h.b6.far (bF h.b6 h.b11 (by decide)) _,by have h:=h.b11.set_ 1 (iv v);simpa using h,aH h.bw h.l11 (p:=⟨g11,1,none⟩) _,h.l11⟩
theorem yr(y:ar)(A:aI)(B:Nat)(k:Int)(L:Option Addr)(l:List Int)(ah:Nat)(w:World)(H:aO w B y A)(hB:B≤w.heap.size)(hY:dc y)(hm:l.length≤maxLen)(hL:am iv w B L l)(t:nw y k l) :
  Cs 113 #[.agg (ak y A),iv k,iv 1,.slice L l.length ah] w (Rt w (.tuple #[iv (iE y k l).1,iv (iE y k l).2])):=by
 obtain⟨W1,aw,b1⟩:=nA w (.cells (ak y A) 74);obtain⟨g4,hg4⟩:=ex w.heap.size;obtain⟨W2,hW2,b2⟩:=nA W1 (.cells #[iv 1] 3);obtain⟨g6,hg6⟩:=ex W1.heap.size;obtain⟨W3,hW3,b3⟩:=nA W2 (.cells #[iv 0,iv 0] 246);obtain⟨g11,hg11⟩:=ex W2.heap.size;have d:Hid (dt w y A g4 g6 g11 W3 0 0):=Lq ⟨by rw[←hW3,←hW2];exact aa.alloc (aa.alloc (by rw[←aw,←hg4];exact aa.new w 74 _) _) _,by rw[←hW3];exact aa.alloc (by rw[←hW2,←hg6];exact aa.new W1 3 _) _,by rw[←hW3,←hg11];exact aa.new W2 246 _,bT (bT b1 b2) b3,by rw[←hg11];exact(bT b1 b2).size⟩
 have HY:=Lq H;have HZB:=Lq hB;have HML:=Lq hm;have HLR:=Lq hL;have HOK:=Lq hY;have HOB:=Lq t;obtain⟨td,htd⟩:=ex (dA y.last k 0).isSome;obtain⟨X0,hX0⟩:=ex (cU false y k l (cz false y k) y.papers.length);obtain⟨X1,hX1⟩:=ex (cU true y k l (cz true y k) y.papers.length);have HTD:=Lq htd;have HX:=Lq (And.intro hX0 hX1);have hpn:=hY.papers;have hpl:=hY.places;have J:=Lq (Ga W3);clear H hB hY hm hL t b1 b2 b3 htd hX0 hX1;go_enter Tryz.func113,Tryz.ntmps113
 go_wp2_with fail;refine J.out.mono ?_;rintro e w2 ⟨rfl,t⟩;have HI2:=Lq (d.out.below t);clear t d J aw hW2 hW3 hg4 hg6 hg11;go_wp2_with fail;go_loopw [25,12] (fun i v wr=>(i=iv 0∧v=.bool true∧Hid (dt w y A g4 g6 g11 wr 0 0))∨(i=iv 1∧v=.bool td∧Hid (dt w y A g4 g6 g11 wr (cU false y k l (cz false y k) y.papers.length) 0))∨(i=iv 2∧v=.bool td∧Hid (dt w y A g4 g6 g11 wr X0 (cU true y k l (cz true y k) y.papers.length)))) (fun i _ _=>2-(intOf i).toNat)
 case atStart=>exact .inl ⟨rfl,rfl,HI2⟩
 case round =>
  clear HI2;obtain⟨rfl,rfl,d⟩ | ⟨rfl,rfl,d⟩ | ⟨rfl,rfl,d⟩:=hrel
  case inr.inr =>
   rw[HX.out.2]at d;obtain⟨o0,o1⟩:=d.out.b11.c2;have ol:=d.out.b11.lt;have hov:iE y k l=(if td=true then max 0 X0 else 0,min 0 X1):=by unfold iE;rw[HX.out.1,HX.out.2,HTD.out]
   have ax:=Lq hov;clear hov;cases td;all_goals
    go_wp2_with fail;go_region_held3 (fun W=>W.cell? ⟨g11,1,none⟩=some (iv X1)) (go_keep) (fail)
    go_wp2_with fail
    go_ret2
    exact⟨by rw[ax.out];rfl,aZ d.out.bw⟩
  case inl =>
   obtain⟨Wa,Wb,V,C,o,G,ag,N⟩:=fm wr 249 .nilFunc .nilFunc bG bH;obtain⟨g14,hg14⟩:=ex wr.heap.size;rw[hg14]at C G N;obtain⟨f0,f1⟩:=G.f2;obtain⟨e0,e1⟩:=G.c2;have el:=G.lt;have hix:=Tryz.idx250_0;have hsf:∀(w:World) (a:Addr) (m:Mode) (fn:Fn) (x z:Array Value),(store a (.func fn x z) m).run Tryz.prog w=stored Tryz.prog w a (.func fn x z) m:=fun w a m fn x z=>run_store Tryz.prog w a _ m rfl
   have ad:=Lq (d.out.below o);have b:=Lq N;obtain⟨Z,x1,x2,O,x4⟩:=ad.out.b4.c5;clear o G ag N d;go_wp2_with fail;clear f0 f1 e0 e1 el hix hsf Z x1 x2 O x4 V C hg14;go_loopw [33,12] (fun i v wr=>∃m:Nat,m≤y.places.length∧((m=0∧i=iv 0∧v=.bool true∧Hid (dt w y A g4 g6 g11 wr 0 0))∨(1≤m∧i=iv m∧v=.bool td∧Hid (dt w y A g4 g6 g11 wr (cz false y k) 0)))∧Hid (aa wr g14 249 #[bG,bH])) (fun i _ _=>y.places.length-(intOf i).toNat)
   case atStart=>exact⟨0,Nat.zero_le _,.inl ⟨rfl,rfl,rfl,ad⟩,b⟩
   case round =>
    clear ad b;obtain⟨m,au,al,b⟩:=hrel;have hk0:=nn m;by_cases hlt:m<y.places.length
    case neg =>
     obtain rfl:m=y.places.length:=by omega
     rcases al with⟨h, -⟩ | ⟨-,rfl,rfl,d⟩
     ·omega
     obtain⟨Z,x1,x2,O,x4⟩:=d.out.b4.c5;obtain⟨Aa,hAa⟩:=ex A.a;rw[hAa]at O;have HAA:=Lq hAa;clear hAa;go_wp2_with fail;clear Z x1 x2 O x4;go_loopw [83] (fun i wr=>∃m:Nat,m≤y.papers.length∧i=iv m∧Hid (dt w y A g4 g6 g11 wr (cU false y k l (cz false y k) m) 0)∧Hid (aa wr g14 249 #[bG,bH])) (fun i _=>y.papers.length-(intOf i).toNat)
     case atStart=>exact⟨0,Nat.zero_le _,rfl,d,b⟩
     case round => 
      clear d b;obtain⟨m,au,rfl,d,b⟩:=hrel;have hk0:=nn m;by_cases hlt:m<y.papers.length
      case neg =>
       obtain rfl:m=y.papers.length:=by omega
       go_wp2_with fail;go_roundw
       case rel=>exact .inr (.inl ⟨rfl,rfl,d⟩)
       case measure=>simp[intOf]
      have av:(m:Int)<(y.papers.length:Int):=by omega
      obtain⟨p,hp⟩:=gX (l:=y.papers) (i:=m) hlt;obtain⟨ba,oa,hA, -,c0,c1,c2,c3,c4⟩:=(HY.out.below d.out.bw HZB.out).paper hp;obtain rfl:Aa=some ⟨ba,oa,none⟩:=HAA.out.symm.trans hA;obtain⟨Wa,Wb,V,C,o,G,hbaa,N⟩:=fh wr 53 (iv 0) (iv 0) (iv 0) (iv 0) (iv 0) (iv p.kind) (iv p.fr) (iv p.en) (iv p.kilos) (iv p.copy);obtain⟨g21,hg21⟩:=ex wr.heap.size;rw[hg21]at C G N;obtain⟨f0,f1,f2,f3,f4⟩:=G.f5;obtain⟨e0,e1,e2,e3,e4⟩:=G.c5;have el:=G.lt;obtain⟨d0,d1,d2,d3,d4⟩:=N.c5;have HIb:=Lq (d.out.below o);have HQ14b:=Lq (b.out.keep o);obtain⟨Z,x1,x2,O,x4⟩:=HIb.out.b4.c5;have HQ21b:=Lq N;have HPX:=Lq hp;have HPOK:=Lq (HOK.out.pa m p hp);have H136:=Lq (rL y A B m p Wb (HY.out.below HIb.out.bw HZB.out) (lT HZB.out HIb.out.bw.size) hp);clear hp hA o G hbaa N d b;by_cases hkd:p.kind=k
      case neg =>
       have aq:(p.kind != k)=true:=by simpa using hkd
       have e:(cU false y k l (cz false y k) (m+1))=(cU false y k l (cz false y k) m):=by rw[jy];unfold iD;simp only[HPX.out];rw[if_neg (fun h=>hkd h.1)]
       have R:=Lq e;have HIc:=HIb;have HQ14c:=HQ14b;clear e hkd;go_wp2_with fail;go_roundw
       case rel=>exact⟨m+1,hlt,by go_num,by rw[R.out];exact HIc,HQ14c⟩
       case measure=>simp[intOf];omega
      have aq:(p.kind != k)=false:=by simp[hkd]
      have ao:=Lq hkd;obtain⟨lb,hlb⟩:=ex (ju p m);rw[hlb]at H136;have HLB:=Lq hlb;clear hkd hlb;go_wp2_with fail;refine H136.out.mono ?_;rintro e w5 ⟨rfl,hb5⟩;clear f0 f1 f2 f3 f4 e0 e1 e2 e3 e4 el d0 d1 d2 d3 d4 Z x1 x2 O x4 c0 c1 c2 c3 c4 V C hg21;have HIc:=Lq (HIb.out.below hb5);have HQ21c:=Lq (HQ21b.out.keep hb5);have HQ14c:=Lq (HQ14b.out.keep hb5);clear hb5 HIb HQ21b HQ14b H136;cases lb
      case false =>
       have e:(cU false y k l (cz false y k) (m+1))=(cU false y k l (cz false y k) m):=by rw[jy];unfold iD;simp only[HPX.out];rw[if_neg (fun h=>by rw[HLB.out]at h;exact absurd h.2 (by decide))]
       have R:=Lq e;clear e;go_wp2_with fail;go_roundw
       case rel=>exact⟨m+1,hlt,by go_num,by rw[R.out];exact HIc,HQ14c⟩
       case measure=>simp[intOf];omega
      have af:Hid (p.kind=k∧ju p m=true):=Lq ⟨ao.out,HLB.out⟩;obtain⟨Z,x1,x2,O,x4⟩:=HIc.out.b4.c5;have H137:=Lq (pG y A B m p L l ah w5 (HY.out.below HIc.out.bw HZB.out) (lT HZB.out HIc.out.bw.size) HPX.out (HOK.out.pap.copy m p HPX.out) HML.out (HLR.out.below HIc.out.bw HZB.out));go_wp2_with fail;refine H137.out.mono ?_;rintro e w8 ⟨rfl,I⟩;have hsb1:=HOB.out.s m p HPX.out false;have hsb2:=HOB.out.s m p HPX.out true;obtain⟨lo,hi,hal⟩:∃lo hi,dB y l m p=(lo,hi):=⟨_,_,rfl⟩;rw[hal]at hsb1 hsb2 ⊢;simp only[ij,if_true,Bool.false_eq_true,if_false]at hsb1 hsb2;have HSB:=Lq (And.intro hsb1 hsb2);have HAL:=Lq hal;clear Z x1 x2 O x4 hal H137 hsb1 hsb2;obtain⟨Wc,w9,hWc,hWd,hbd,qc,hbc,qd⟩:=fm w8 33 (iv 0) (iv 0) (iv lo) (iv hi);obtain⟨g22,hg22⟩:=ex w8.heap.size;rw[hg22]at hWd qc qd;obtain⟨f0,f1⟩:=qc.f2;obtain⟨e0,e1⟩:=qc.c2;have el:=qc.lt;have HI9:=Lq (HIc.out.below (bT I hbd));have HQ21:=Lq (HQ21c.out.keep (bT I hbd));have HQ14x:=Lq (HQ14c.out.keep (bT I hbd));have HQ22:=Lq qd;obtain⟨p0,p1,p2,p3,p4⟩:=HQ21.out.c5;have hov:=HOB.out.ov false m;obtain⟨vv,hvv⟩:=ex (cU false y k l (cz false y k) m);rw[hvv]at hov HI9;have HVV:=Lq hvv;have HVB:Hid (-1000000000≤vv∧vv≤1000000000):=Lq (by have:=HOK.out.papers;omega)
      have K:=Lq (lM p.en g6 w9 (by have h1:=HPOK.out.en;have h2:=HOK.out.places;omega) (HI9.out.b6.c 0))
      have M:=Lq (lM p.fr g6 w9 (by have h1:=HPOK.out.fr;have h2:=HOK.out.places;omega) (HI9.out.b6.c 0))
      have aj:=HPOK.out.ne;have HNE:=Lq aj;clear I hbd qc hbc qd HIc HQ21c HQ14c hvv hov aj;by_cases hen:p.en=0
      ·have q:p.fr≠0:=fun h=>HNE.out (by rw[h,hen])
       have E:(p.fr==0)=false:=by simpa using q
       have Y:(p.en==0)=true:=by simp[hen]
       rw[Y]at K;rw[E]at M;have J:=Lq (And.intro hen q);clear hen q E Y;go_wp2_with fail;refine K.out.mono ?_;rintro e w10 ⟨rfl,e10⟩;have e10:=e10.symm;subst e10;clear f0 f1 e0 e1 el hWc hWd hg22;go_wp2_with fail;refine M.out.mono ?_;rintro e w10 ⟨rfl,e10⟩;have e10:=e10.symm;subst e10;have hwv:IntKind.i64.wrap (vv+lo)=vv+lo:=by rw[IntKind.wrap_i64];have h1:=HVB.out;have h2:=HSB.out;omega
       have g:Hid (∀W,BW w9 W→(fun W=>W.cell? ⟨g11,0,none⟩=some (iv vv)∧W.cell? ⟨g14,0,none⟩=some bG∧W.cell? ⟨g22,0,none⟩=some (iv lo)∧W.cell? ⟨g22,1,none⟩=some (iv hi)) W):=Lq fun W t=>⟨(HI9.out.below t).b11.c 0,(HQ14x.out.keep t).c 0,(HQ22.out.keep t).c 0,(HQ22.out.keep t).c 1⟩
       go_upto_region 22 with fail
       refine cJ (late:=fun j=>j==9) (ops:=yj) (r:=22) (n:=10) (S:=fun W=>W.cell? ⟨g11,0,none⟩=some (iv vv)∧W.cell? ⟨g14,0,none⟩=some bG∧W.cell? ⟨g22,0,none⟩=some (iv lo)∧W.cell? ⟨g22,1,none⟩=some (iv hi)) g.out fun V0 HB0 hHeld=>?_
       refine ae 0 (iv 0) ?_;refine ae 1 (pT g11 0) ?_;refine ae 2 (iv vv) ?_;refine ae 3 (pT g14 0) ?_;refine ae 4 bG ?_;refine ae 5 (.agg #[iv lo,iv hi]) ?_;refine aQ 6 fun K' hK=>?_
       go_simp;refine(pZ lo hi V0).mono ?_;rintro e7 w7 ⟨rfl,D⟩;have HB7:=Lq (bT HB0.out D);refine hK.out _ _ (g.out _ HB7.out) (fun hHeld=>?_)
       clear hK D;refine ae 7 (iv (vv+lo)) ?_;refine ae 8 (pT g11 0) ?_;refine bO 9 fun K' hK=>?_
       have u:=Lq (HI9.out.below HB7.out);obtain⟨cc,cf,cl⟩:_∧_∧_:=⟨u.out.b11.c 0,u.out.b11.frozen 0,u.out.b11.lt⟩;obtain⟨Wn,hWN⟩:=ex (w7.setCell ⟨g11,0,none⟩ (iv (vv+lo)));have HIn:Hid (dt w y A g4 g6 g11 Wn (vv+lo) 0):=by have h:=u.out.put0 (vv+lo);rw[hWN]at h;exact Lq h
       have T:Hid (aa Wn g14 249 #[bG,bH]):=by have h:=HQ14x.out.keep HB7.out;rw[←hWN];exact Lq (h.far (bF h u.out.b11 (by decide)) _)
       go_simp;refine hK.out _ _ ?_;clear hK hHeld cc cf cl hWN g;refine dL ?_;have F:(cU false y k l (cz false y k) (m+1))=vv+lo:=by rw[jy,HVV.out];unfold iD;simp only[HPX.out];rw[if_pos af.out,if_pos J.out,HAL.out];rfl
       have U:=Lq F;clear F;go_wp2_with fail;go_roundw
       case rel=>exact⟨m+1,hlt,by go_num,by rw[U.out];exact HIn,T⟩
       case measure=>simp[intOf];omega
      ·have Y:(p.en==0)=false:=by simpa using hen
       rw[Y]at K;have J:=Lq hen;clear hen Y;by_cases q:p.fr=0
       ·have E:(p.fr==0)=true:=by simp[q]
        rw[E]at M;have ac:=Lq q;clear q E;go_wp2_with fail;refine K.out.mono ?_;rintro e w10 ⟨rfl,e10⟩;have e10:=e10.symm;subst e10;clear f0 f1 e0 e1 el hWc hWd hg22;go_wp2_with fail;refine M.out.mono ?_;rintro e w10 ⟨rfl,e10⟩;have e10:=e10.symm;subst e10;go_wp2_with fail;refine K.out.mono ?_;rintro e w10 ⟨rfl,e10⟩;have e10:=e10.symm;subst e10;have hwv:IntKind.i64.wrap (vv-hi)=vv-hi:=by rw[IntKind.wrap_i64];have h1:=HVB.out;have h2:=HSB.out;omega
        have g:Hid (∀W,BW w9 W→(fun W=>W.cell? ⟨g11,0,none⟩=some (iv vv)∧W.cell? ⟨g14,1,none⟩=some bH∧W.cell? ⟨g22,0,none⟩=some (iv lo)∧W.cell? ⟨g22,1,none⟩=some (iv hi)) W):=Lq fun W t=>⟨(HI9.out.below t).b11.c 0,(HQ14x.out.keep t).c 1,(HQ22.out.keep t).c 0,(HQ22.out.keep t).c 1⟩
        go_upto_region 24 with fail
        refine cJ (late:=fun j=>j==9) (ops:=yq) (r:=24) (n:=10) (S:=fun W=>W.cell? ⟨g11,0,none⟩=some (iv vv)∧W.cell? ⟨g14,1,none⟩=some bH∧W.cell? ⟨g22,0,none⟩=some (iv lo)∧W.cell? ⟨g22,1,none⟩=some (iv hi)) g.out fun V0 HB0 hHeld=>?_
        refine ae 0 (iv 0) ?_;refine ae 1 (pT g11 0) ?_;refine ae 2 (iv vv) ?_;refine ae 3 (pT g14 1) ?_;refine ae 4 bH ?_;refine ae 5 (.agg #[iv lo,iv hi]) ?_;refine aQ 6 fun K' hK=>?_
        go_simp;refine(p8 lo hi V0).mono ?_;rintro e7 w7 ⟨rfl,D⟩;have HB7:=Lq (bT HB0.out D);refine hK.out _ _ (g.out _ HB7.out) (fun hHeld=>?_)
        clear hK D;refine ae 7 (iv (vv-hi)) ?_;refine ae 8 (pT g11 0) ?_;refine bO 9 fun K' hK=>?_
        have u:=Lq (HI9.out.below HB7.out);obtain⟨cc,cf,cl⟩:_∧_∧_:=⟨u.out.b11.c 0,u.out.b11.frozen 0,u.out.b11.lt⟩;obtain⟨Wn,hWN⟩:=ex (w7.setCell ⟨g11,0,none⟩ (iv (vv-hi)));have HIn:Hid (dt w y A g4 g6 g11 Wn (vv-hi) 0):=by have h:=u.out.put0 (vv-hi);rw[hWN]at h;exact Lq h
        have T:Hid (aa Wn g14 249 #[bG,bH]):=by have h:=HQ14x.out.keep HB7.out;rw[←hWN];exact Lq (h.far (bF h u.out.b11 (by decide)) _)
        go_simp;refine hK.out _ _ ?_;clear hK hHeld cc cf cl hWN g;refine dL ?_;have F:(cU false y k l (cz false y k) (m+1))=vv-hi:=by
         rw[jy,HVV.out];unfold iD;simp only[HPX.out];rw[if_pos af.out,if_neg (fun h=>J.out h.1),if_pos ⟨ac.out,J.out⟩,HAL.out]
         rfl
        have U:=Lq F;clear F;go_wp2_with fail;go_roundw
        case rel=>exact⟨m+1,hlt,by go_num,by rw[U.out];exact HIn,T⟩
        case measure=>simp[intOf];omega
       ·have E:(p.fr==0)=false:=by simpa using q
        rw[E]at M;have ac:=Lq q;clear q E;have e:(cU false y k l (cz false y k) (m+1))=vv:=by rw[jy,HVV.out];unfold iD;simp only[HPX.out];rw[if_pos af.out,if_neg (fun h=>J.out h.1),if_neg (fun h=>ac.out h.1)]
        have R:=Lq e;clear e;go_wp2_with fail;refine K.out.mono ?_;rintro e w10 ⟨rfl,e10⟩;have e10:=e10.symm;subst e10;clear f0 f1 e0 e1 el hWc hWd hg22;go_wp2_with fail;refine M.out.mono ?_;rintro e w10 ⟨rfl,e10⟩;have e10:=e10.symm;subst e10;go_wp2_with fail;go_roundw
        case rel=>exact⟨m+1,hlt,by go_num,by rw[R.out];exact HI9,HQ14x⟩
        case measure=>simp[intOf];omega
    have av:(m:Int)<(y.places.length:Int):=by omega
    rcases al with⟨rfl,rfl,rfl,d⟩ | ⟨hm1,rfl,rfl,d⟩
    case inr => 
     have ab:=Lq (lM m g6 wr (by have h2:=HOK.out.places;omega) (d.out.b6.c 0))
     have ai:((m:Int)==0)=false:=by simp;omega
     rw[ai]at ab;clear ai;go_wp2_with fail;refine ab.out.mono ?_;rintro e w2 ⟨rfl,rfl⟩;go_wp2_with fail;go_roundw
     case rel=>exact⟨m+1,hlt,.inr ⟨by omega,by go_num,rfl,d⟩,b⟩
     case measure=>simp[intOf];omega
    case inl => 
     have ab:=Lq (lM 0 g6 wr (by omega) (d.out.b6.c 0))
     obtain⟨Z,x1,x2,O,x4⟩:=d.out.b4.c5;have HF1:=Lq (mU A.f y.first B A.cf k 0 wr (HY.out.f.below d.out.bw HZB.out) (lT HZB.out d.out.bw.size) (lT HY.out.lf.1 HY.out.lf.2));go_wp2_with fail;refine ab.out.mono ?_;rintro e w2 ⟨rfl,rfl⟩;go_wp2_with fail;refine HF1.out.mono ?_;intro e w2 hf;obtain⟨lo1,hi1,bt1,rfl,hb2,hc1⟩:=nd hf;obtain⟨Wa,Wb,V,C,o,G,ag,N⟩:=fm w2 33 (iv 0) (iv 0) (iv lo1) (iv hi1);obtain⟨g16,hg16⟩:=ex w2.heap.size;rw[hg16]at C G N;obtain⟨f0,f1⟩:=G.f2;obtain⟨e0,e1⟩:=G.c2;have el:=G.lt;have HIb:=Lq (d.out.below (bT hb2 o));have HQ16a:=Lq N;have HQ14a:=Lq (b.out.keep (bT hb2 o));have HC1:Hid ((dA y.first k 0).getD (0,0)=(lo1,hi1)):=by
      rcases hc1 with⟨_,h,h1,h2⟩ | ⟨_,h⟩
      ·rw[h,h1,h2];exact Lq rfl
      ·rw[h];exact Lq rfl
     clear Z x1 x2 O x4;obtain⟨Z,x1,x2,O,x4⟩:=HIb.out.b4.c5;have HF2:=Lq (mU A.l y.last B A.cl k 0 Wb (HY.out.l.below HIb.out.bw HZB.out) (lT HZB.out HIb.out.bw.size) (lT HY.out.ll.1 HY.out.ll.2));clear hf hc1 hb2 o G ag N d HF1 b;go_wp2_with fail;refine HF2.out.mono ?_;intro e w3 hf;obtain⟨lo2,hi2,bt2,rfl,hb3,hc2⟩:=nd hf;clear f0 f1 e0 e1 el Z x1 x2 O x4 V C;obtain⟨Wc,Wd,hWc,hWd,hbd,qc,hbc,qd⟩:=fm w3 33 (iv 0) (iv 0) (iv lo2) (iv hi2);obtain⟨g18,hg18⟩:=ex w3.heap.size;rw[hg18]at hWd qc qd;obtain⟨f0,f1⟩:=qc.f2;obtain⟨e0,e1⟩:=qc.c2;have el:=qc.lt;have HId:=Lq (HIb.out.below (bT hb3 hbd));have HQ16:=Lq (HQ16a.out.keep (bT hb3 hbd));have HQ14b:=Lq (HQ14a.out.keep (bT hb3 hbd));have HQ18:=Lq qd;have HC2:Hid ((dA y.last k 0).getD (0,0)=(lo2,hi2)∧bt2=td):=by
      rcases hc2 with⟨h0,h,h1,h2⟩ | ⟨h0,h⟩
      ·rw[h,h1,h2,h0,←HTD.out,h];exact Lq ⟨rfl,rfl⟩
      ·rw[h,h0,←HTD.out,h];exact Lq ⟨rfl,rfl⟩
     have X:=HOB.out.f false;have hb2':=HOB.out.la true;rw[HC1.out]at X;rw[HC2.out.1]at hb2';simp only[ij,if_true,Bool.false_eq_true,if_false]at X hb2';have hwv:IntKind.i64.wrap (lo1-hi2)=lo1-hi2:=by rw[IntKind.wrap_i64];omega
     have an:(cz false y k)=lo1-hi2:=by unfold cz;rw[HC1.out,HC2.out.1];rfl
     have ap:=Lq an;have g:Hid (∀W,BW Wd W→(fun W=>W.cell? ⟨g11,0,none⟩=some (iv 0)∧W.cell? ⟨g14,0,none⟩=some bG∧W.cell? ⟨g14,1,none⟩=some bH∧W.cell? ⟨g16,0,none⟩=some (iv lo1)∧W.cell? ⟨g16,1,none⟩=some (iv hi1)∧W.cell? ⟨g18,0,none⟩=some (iv lo2)∧W.cell? ⟨g18,1,none⟩=some (iv hi2)) W):=Lq fun W t=>⟨(HId.out.below t).b11.c 0,(HQ14b.out.keep t).c 0,(HQ14b.out.keep t).c 1,(HQ16.out.keep t).c 0,(HQ16.out.keep t).c 1,(HQ18.out.keep t).c 0,(HQ18.out.keep t).c 1⟩
     clear hf hc2 hb3 hbd qc hbc qd HQ16a HQ14a HIb HF2 an X hb2';go_upto_region 13 with fail
     clear f0 f1 e0 e1 el hWc hWd;refine cJ (late:=fun j=>j==14) (ops:=yi) (r:=13) (n:=15) (S:=fun W=>W.cell? ⟨g11,0,none⟩=some (iv 0)∧W.cell? ⟨g14,0,none⟩=some bG∧W.cell? ⟨g14,1,none⟩=some bH∧W.cell? ⟨g16,0,none⟩=some (iv lo1)∧W.cell? ⟨g16,1,none⟩=some (iv hi1)∧W.cell? ⟨g18,0,none⟩=some (iv lo2)∧W.cell? ⟨g18,1,none⟩=some (iv hi2)) g.out fun V0 HB0 hHeld=>?_
     refine ae 0 (iv 0) ?_;refine ae 1 (pT g11 0) ?_;refine ae 2 (iv 0) ?_;refine ae 3 (pT g14 0) ?_;refine ae 4 bG ?_;refine ae 5 (.agg #[iv lo1,iv hi1]) ?_;refine ae 7 (pT g14 1) ?_;refine ae 8 bH ?_;refine ae 9 (.agg #[iv lo2,iv hi2]) ?_;refine aQ 6 fun K' hK=>?_
     go_simp;refine(pZ lo1 hi1 V0).mono ?_;rintro e7 w7 ⟨rfl,D⟩;have HB7:=Lq (bT HB0.out D);refine hK.out _ _ (g.out _ HB7.out) (fun hHeld=>?_)
     clear hK D;refine aQ 10 fun K' hK=>?_
     go_simp;refine(p8 lo2 hi2 w7).mono ?_;rintro e8 w8 ⟨rfl,I⟩;have HB8:=Lq (bT HB7.out I);refine hK.out _ _ (g.out _ HB8.out) (fun hHeld=>?_)
     clear hK I;refine ae 11 (iv (lo1-hi2)) ?_;refine ae 12 (iv (lo1-hi2)) ?_;refine ae 13 (pT g11 0) ?_;refine bO 14 fun K' hK=>?_
     have u:=Lq (HId.out.below HB8.out);obtain⟨cc,cf,cl⟩:_∧_∧_:=⟨u.out.b11.c 0,u.out.b11.frozen 0,u.out.b11.lt⟩;obtain⟨Wn,hWN⟩:=ex (w8.setCell ⟨g11,0,none⟩ (iv (lo1-hi2)));have HIn:Hid (dt w y A g4 g6 g11 Wn (lo1-hi2) 0):=by have h:=u.out.put0 (lo1-hi2);rw[hWN]at h;exact Lq h
     have T:Hid (aa Wn g14 249 #[bG,bH]):=by have h:=HQ14b.out.keep HB8.out;rw[←hWN];exact Lq (h.far (bF h u.out.b11 (by decide)) _)
     go_simp;refine hK.out _ _ ?_;clear hK hHeld cc cf cl hWN g;refine dL ?_;obtain rfl:bt2=td:=HC2.out.2;clear HC2 hwv;cases bt2;all_goals
      go_wp2_with fail;go_roundw
      case rel=>exact⟨1,by omega,.inr ⟨lr _,rfl,rfl,by rw[ap.out];exact HIn⟩,T⟩
      case measure=>simp[intOf];omega
  case inr.inl =>
   rw[HX.out.1]at d;obtain⟨Wa,Wb,V,C,o,G,ag,N⟩:=fm wr 249 .nilFunc .nilFunc bH bG;obtain⟨g14,hg14⟩:=ex wr.heap.size;rw[hg14]at C G N;obtain⟨f0,f1⟩:=G.f2;obtain⟨e0,e1⟩:=G.c2;have el:=G.lt;have hix:=Tryz.idx250_1;have hsf:∀(w:World) (a:Addr) (m:Mode) (fn:Fn) (x z:Array Value),(store a (.func fn x z) m).run Tryz.prog w=stored Tryz.prog w a (.func fn x z) m:=fun w a m fn x z=>run_store Tryz.prog w a _ m rfl
   have ad:=Lq (d.out.below o);have b:=Lq N;obtain⟨Z,x1,x2,O,x4⟩:=ad.out.b4.c5;clear o G ag N d;go_wp2_with fail;clear f0 f1 e0 e1 el hix hsf Z x1 x2 O x4 V C hg14;go_loopw [33,12] (fun i v wr=>∃m:Nat,m≤y.places.length∧((m=0∧i=iv 0∧v=.bool td∧Hid (dt w y A g4 g6 g11 wr X0 0))∨(1≤m∧i=iv m∧v=.bool td∧Hid (dt w y A g4 g6 g11 wr X0 (cz true y k))))∧Hid (aa wr g14 249 #[bH,bG])) (fun i _ _=>y.places.length-(intOf i).toNat)
   case atStart=>exact⟨0,Nat.zero_le _,.inl ⟨rfl,rfl,rfl,ad⟩,b⟩
   case round =>
    clear ad b;obtain⟨m,au,al,b⟩:=hrel;have hk0:=nn m;by_cases hlt:m<y.places.length
    case neg =>
     obtain rfl:m=y.places.length:=by omega
     rcases al with⟨h, -⟩ | ⟨-,rfl,rfl,d⟩
     ·omega
     obtain⟨Z,x1,x2,O,x4⟩:=d.out.b4.c5;obtain⟨Aa,hAa⟩:=ex A.a;rw[hAa]at O;have HAA:=Lq hAa;clear hAa;go_wp2_with fail;clear Z x1 x2 O x4;go_loopw [83] (fun i wr=>∃m:Nat,m≤y.papers.length∧i=iv m∧Hid (dt w y A g4 g6 g11 wr X0 (cU true y k l (cz true y k) m))∧Hid (aa wr g14 249 #[bH,bG])) (fun i _=>y.papers.length-(intOf i).toNat)
     case atStart=>exact⟨0,Nat.zero_le _,rfl,d,b⟩
     case round => 
      clear d b;obtain⟨m,au,rfl,d,b⟩:=hrel;have hk0:=nn m;by_cases hlt:m<y.papers.length
      case neg =>
       obtain rfl:m=y.papers.length:=by omega
       go_wp2_with fail;go_roundw
       case rel=>exact .inr (.inr ⟨rfl,rfl,d⟩)
       case measure=>simp[intOf]
      have av:(m:Int)<(y.papers.length:Int):=by omega
      obtain⟨p,hp⟩:=gX (l:=y.papers) (i:=m) hlt;obtain⟨ba,oa,hA, -,c0,c1,c2,c3,c4⟩:=(HY.out.below d.out.bw HZB.out).paper hp;obtain rfl:Aa=some ⟨ba,oa,none⟩:=HAA.out.symm.trans hA;obtain⟨Wa,Wb,V,C,o,G,hbaa,N⟩:=fh wr 53 (iv 0) (iv 0) (iv 0) (iv 0) (iv 0) (iv p.kind) (iv p.fr) (iv p.en) (iv p.kilos) (iv p.copy);obtain⟨g21,hg21⟩:=ex wr.heap.size;rw[hg21]at C G N;obtain⟨f0,f1,f2,f3,f4⟩:=G.f5;obtain⟨e0,e1,e2,e3,e4⟩:=G.c5;have el:=G.lt;obtain⟨d0,d1,d2,d3,d4⟩:=N.c5;have HIb:=Lq (d.out.below o);have HQ14b:=Lq (b.out.keep o);obtain⟨Z,x1,x2,O,x4⟩:=HIb.out.b4.c5;have HQ21b:=Lq N;have HPX:=Lq hp;have HPOK:=Lq (HOK.out.pa m p hp);have H136:=Lq (rL y A B m p Wb (HY.out.below HIb.out.bw HZB.out) (lT HZB.out HIb.out.bw.size) hp);clear hp hA o G hbaa N d b;by_cases hkd:p.kind=k
      case neg =>
       have aq:(p.kind != k)=true:=by simpa using hkd
       have e:(cU true y k l (cz true y k) (m+1))=(cU true y k l (cz true y k) m):=by rw[jy];unfold iD;simp only[HPX.out];rw[if_neg (fun h=>hkd h.1)]
       have R:=Lq e;have HIc:=HIb;have HQ14c:=HQ14b;clear e hkd;go_wp2_with fail;go_roundw
       case rel=>exact⟨m+1,hlt,by go_num,by rw[R.out];exact HIc,HQ14c⟩
       case measure=>simp[intOf];omega
      have aq:(p.kind != k)=false:=by simp[hkd]
      have ao:=Lq hkd;obtain⟨lb,hlb⟩:=ex (ju p m);rw[hlb]at H136;have HLB:=Lq hlb;clear hkd hlb;go_wp2_with fail;refine H136.out.mono ?_;rintro e w5 ⟨rfl,hb5⟩;clear f0 f1 f2 f3 f4 e0 e1 e2 e3 e4 el d0 d1 d2 d3 d4 Z x1 x2 O x4 c0 c1 c2 c3 c4 V C hg21;have HIc:=Lq (HIb.out.below hb5);have HQ21c:=Lq (HQ21b.out.keep hb5);have HQ14c:=Lq (HQ14b.out.keep hb5);clear hb5 HIb HQ21b HQ14b H136;cases lb
      case false =>
       have e:(cU true y k l (cz true y k) (m+1))=(cU true y k l (cz true y k) m):=by rw[jy];unfold iD;simp only[HPX.out];rw[if_neg (fun h=>by rw[HLB.out]at h;exact absurd h.2 (by decide))]
       have R:=Lq e;clear e;go_wp2_with fail;go_roundw
       case rel=>exact⟨m+1,hlt,by go_num,by rw[R.out];exact HIc,HQ14c⟩
       case measure=>simp[intOf];omega
      have af:Hid (p.kind=k∧ju p m=true):=Lq ⟨ao.out,HLB.out⟩;obtain⟨Z,x1,x2,O,x4⟩:=HIc.out.b4.c5;have H137:=Lq (pG y A B m p L l ah w5 (HY.out.below HIc.out.bw HZB.out) (lT HZB.out HIc.out.bw.size) HPX.out (HOK.out.pap.copy m p HPX.out) HML.out (HLR.out.below HIc.out.bw HZB.out));go_wp2_with fail;refine H137.out.mono ?_;rintro e w8 ⟨rfl,I⟩;have hsb1:=HOB.out.s m p HPX.out true;have hsb2:=HOB.out.s m p HPX.out false;obtain⟨lo,hi,hal⟩:∃lo hi,dB y l m p=(lo,hi):=⟨_,_,rfl⟩;rw[hal]at hsb1 hsb2 ⊢;simp only[ij,if_true,Bool.false_eq_true,if_false]at hsb1 hsb2;have HSB:=Lq (And.intro hsb1 hsb2);have HAL:=Lq hal;clear Z x1 x2 O x4 hal H137 hsb1 hsb2;obtain⟨Wc,w9,hWc,hWd,hbd,qc,hbc,qd⟩:=fm w8 33 (iv 0) (iv 0) (iv lo) (iv hi);obtain⟨g22,hg22⟩:=ex w8.heap.size;rw[hg22]at hWd qc qd;obtain⟨f0,f1⟩:=qc.f2;obtain⟨e0,e1⟩:=qc.c2;have el:=qc.lt;have HI9:=Lq (HIc.out.below (bT I hbd));have HQ21:=Lq (HQ21c.out.keep (bT I hbd));have HQ14x:=Lq (HQ14c.out.keep (bT I hbd));have HQ22:=Lq qd;obtain⟨p0,p1,p2,p3,p4⟩:=HQ21.out.c5;have hov:=HOB.out.ov true m;obtain⟨vv,hvv⟩:=ex (cU true y k l (cz true y k) m);rw[hvv]at hov HI9;have HVV:=Lq hvv;have HVB:Hid (-1000000000≤vv∧vv≤1000000000):=Lq (by have:=HOK.out.papers;omega)
      have K:=Lq (lM p.en g6 w9 (by have h1:=HPOK.out.en;have h2:=HOK.out.places;omega) (HI9.out.b6.c 0))
      have M:=Lq (lM p.fr g6 w9 (by have h1:=HPOK.out.fr;have h2:=HOK.out.places;omega) (HI9.out.b6.c 0))
      have aj:=HPOK.out.ne;have HNE:=Lq aj;clear I hbd qc hbc qd HIc HQ21c HQ14c hvv hov aj;by_cases hen:p.en=0
      ·have q:p.fr≠0:=fun h=>HNE.out (by rw[h,hen])
       have E:(p.fr==0)=false:=by simpa using q
       have Y:(p.en==0)=true:=by simp[hen]
       rw[Y]at K;rw[E]at M;have J:=Lq (And.intro hen q);clear hen q E Y;go_wp2_with fail;refine K.out.mono ?_;rintro e w10 ⟨rfl,e10⟩;have e10:=e10.symm;subst e10;clear f0 f1 e0 e1 el hWc hWd hg22;go_wp2_with fail;refine M.out.mono ?_;rintro e w10 ⟨rfl,e10⟩;have e10:=e10.symm;subst e10;have hwv:IntKind.i64.wrap (vv+hi)=vv+hi:=by rw[IntKind.wrap_i64];have h1:=HVB.out;have h2:=HSB.out;omega
       have g:Hid (∀W,BW w9 W→(fun W=>W.cell? ⟨g11,1,none⟩=some (iv vv)∧W.cell? ⟨g14,0,none⟩=some bH∧W.cell? ⟨g22,0,none⟩=some (iv lo)∧W.cell? ⟨g22,1,none⟩=some (iv hi)) W):=Lq fun W t=>⟨(HI9.out.below t).b11.c 1,(HQ14x.out.keep t).c 0,(HQ22.out.keep t).c 0,(HQ22.out.keep t).c 1⟩
       go_upto_region 22 with fail
       refine cJ (late:=fun j=>j==9) (ops:=yj) (r:=22) (n:=10) (S:=fun W=>W.cell? ⟨g11,1,none⟩=some (iv vv)∧W.cell? ⟨g14,0,none⟩=some bH∧W.cell? ⟨g22,0,none⟩=some (iv lo)∧W.cell? ⟨g22,1,none⟩=some (iv hi)) g.out fun V0 HB0 hHeld=>?_
       refine ae 0 (iv 1) ?_;refine ae 1 (pT g11 1) ?_;refine ae 2 (iv vv) ?_;refine ae 3 (pT g14 0) ?_;refine ae 4 bH ?_;refine ae 5 (.agg #[iv lo,iv hi]) ?_;refine aQ 6 fun K' hK=>?_
       go_simp;refine(p8 lo hi V0).mono ?_;rintro e7 w7 ⟨rfl,D⟩;have HB7:=Lq (bT HB0.out D);refine hK.out _ _ (g.out _ HB7.out) (fun hHeld=>?_)
       clear hK D;refine ae 7 (iv (vv+hi)) ?_;refine ae 8 (pT g11 1) ?_;refine bO 9 fun K' hK=>?_
       have u:=Lq (HI9.out.below HB7.out);obtain⟨cc,cf,cl⟩:_∧_∧_:=⟨u.out.b11.c 1,u.out.b11.frozen 1,u.out.b11.lt⟩;obtain⟨Wn,hWN⟩:=ex (w7.setCell ⟨g11,1,none⟩ (iv (vv+hi)));have HIn:Hid (dt w y A g4 g6 g11 Wn X0 (vv+hi)):=by have h:=u.out.put1 (vv+hi);rw[hWN]at h;exact Lq h
       have T:Hid (aa Wn g14 249 #[bH,bG]):=by have h:=HQ14x.out.keep HB7.out;rw[←hWN];exact Lq (h.far (bF h u.out.b11 (by decide)) _)
       go_simp;refine hK.out _ _ ?_;clear hK hHeld cc cf cl hWN g;refine dL ?_;have F:(cU true y k l (cz true y k) (m+1))=vv+hi:=by rw[jy,HVV.out];unfold iD;simp only[HPX.out];rw[if_pos af.out,if_pos J.out,HAL.out];rfl
       have U:=Lq F;clear F;go_wp2_with fail;go_roundw
       case rel=>exact⟨m+1,hlt,by go_num,by rw[U.out];exact HIn,T⟩
       case measure=>simp[intOf];omega
      ·have Y:(p.en==0)=false:=by simpa using hen
       rw[Y]at K;have J:=Lq hen;clear hen Y;by_cases q:p.fr=0
       ·have E:(p.fr==0)=true:=by simp[q]
        rw[E]at M;have ac:=Lq q;clear q E;go_wp2_with fail;refine K.out.mono ?_;rintro e w10 ⟨rfl,e10⟩;have e10:=e10.symm;subst e10;clear f0 f1 e0 e1 el hWc hWd hg22;go_wp2_with fail;refine M.out.mono ?_;rintro e w10 ⟨rfl,e10⟩;have e10:=e10.symm;subst e10;go_wp2_with fail;refine K.out.mono ?_;rintro e w10 ⟨rfl,e10⟩;have e10:=e10.symm;subst e10;have hwv:IntKind.i64.wrap (vv-lo)=vv-lo:=by rw[IntKind.wrap_i64];have h1:=HVB.out;have h2:=HSB.out;omega
        have g:Hid (∀W,BW w9 W→(fun W=>W.cell? ⟨g11,1,none⟩=some (iv vv)∧W.cell? ⟨g14,1,none⟩=some bG∧W.cell? ⟨g22,0,none⟩=some (iv lo)∧W.cell? ⟨g22,1,none⟩=some (iv hi)) W):=Lq fun W t=>⟨(HI9.out.below t).b11.c 1,(HQ14x.out.keep t).c 1,(HQ22.out.keep t).c 0,(HQ22.out.keep t).c 1⟩
        go_upto_region 24 with fail
        refine cJ (late:=fun j=>j==9) (ops:=yq) (r:=24) (n:=10) (S:=fun W=>W.cell? ⟨g11,1,none⟩=some (iv vv)∧W.cell? ⟨g14,1,none⟩=some bG∧W.cell? ⟨g22,0,none⟩=some (iv lo)∧W.cell? ⟨g22,1,none⟩=some (iv hi)) g.out fun V0 HB0 hHeld=>?_
        refine ae 0 (iv 1) ?_;refine ae 1 (pT g11 1) ?_;refine ae 2 (iv vv) ?_;refine ae 3 (pT g14 1) ?_;refine ae 4 bG ?_;refine ae 5 (.agg #[iv lo,iv hi]) ?_;refine aQ 6 fun K' hK=>?_
        go_simp;refine(pZ lo hi V0).mono ?_;rintro e7 w7 ⟨rfl,D⟩;have HB7:=Lq (bT HB0.out D);refine hK.out _ _ (g.out _ HB7.out) (fun hHeld=>?_)
        clear hK D;refine ae 7 (iv (vv-lo)) ?_;refine ae 8 (pT g11 1) ?_;refine bO 9 fun K' hK=>?_
        have u:=Lq (HI9.out.below HB7.out);obtain⟨cc,cf,cl⟩:_∧_∧_:=⟨u.out.b11.c 1,u.out.b11.frozen 1,u.out.b11.lt⟩;obtain⟨Wn,hWN⟩:=ex (w7.setCell ⟨g11,1,none⟩ (iv (vv-lo)));have HIn:Hid (dt w y A g4 g6 g11 Wn X0 (vv-lo)):=by have h:=u.out.put1 (vv-lo);rw[hWN]at h;exact Lq h
        have T:Hid (aa Wn g14 249 #[bH,bG]):=by have h:=HQ14x.out.keep HB7.out;rw[←hWN];exact Lq (h.far (bF h u.out.b11 (by decide)) _)
        go_simp;refine hK.out _ _ ?_;clear hK hHeld cc cf cl hWN g;refine dL ?_;have F:(cU true y k l (cz true y k) (m+1))=vv-lo:=by
         rw[jy,HVV.out];unfold iD;simp only[HPX.out];rw[if_pos af.out,if_neg (fun h=>J.out h.1),if_pos ⟨ac.out,J.out⟩,HAL.out]
         rfl
        have U:=Lq F;clear F;go_wp2_with fail;go_roundw
        case rel=>exact⟨m+1,hlt,by go_num,by rw[U.out];exact HIn,T⟩
        case measure=>simp[intOf];omega
       ·have E:(p.fr==0)=false:=by simpa using q
        rw[E]at M;have ac:=Lq q;clear q E;have e:(cU true y k l (cz true y k) (m+1))=vv:=by rw[jy,HVV.out];unfold iD;simp only[HPX.out];rw[if_pos af.out,if_neg (fun h=>J.out h.1),if_neg (fun h=>ac.out h.1)]
        have R:=Lq e;clear e;go_wp2_with fail;refine K.out.mono ?_;rintro e w10 ⟨rfl,e10⟩;have e10:=e10.symm;subst e10;clear f0 f1 e0 e1 el hWc hWd hg22;go_wp2_with fail;refine M.out.mono ?_;rintro e w10 ⟨rfl,e10⟩;have e10:=e10.symm;subst e10;go_wp2_with fail;go_roundw
        case rel=>exact⟨m+1,hlt,by go_num,by rw[R.out];exact HI9,HQ14x⟩
        case measure=>simp[intOf];omega
    have av:(m:Int)<(y.places.length:Int):=by omega
    rcases al with⟨rfl,rfl,rfl,d⟩ | ⟨hm1,rfl,rfl,d⟩
    case inr => 
     have ab:=Lq (lM m g6 wr (by have h2:=HOK.out.places;omega) (d.out.b6.c 0))
     have ai:((m:Int)==0)=false:=by simp;omega
     rw[ai]at ab;clear ai;go_wp2_with fail;refine ab.out.mono ?_;rintro e w2 ⟨rfl,rfl⟩;go_wp2_with fail;go_roundw
     case rel=>exact⟨m+1,hlt,.inr ⟨by omega,by go_num,rfl,d⟩,b⟩
     case measure=>simp[intOf];omega
    case inl => 
     have ab:=Lq (lM 0 g6 wr (by omega) (d.out.b6.c 0))
     obtain⟨Z,x1,x2,O,x4⟩:=d.out.b4.c5;have HF1:=Lq (mU A.f y.first B A.cf k 0 wr (HY.out.f.below d.out.bw HZB.out) (lT HZB.out d.out.bw.size) (lT HY.out.lf.1 HY.out.lf.2));go_wp2_with fail;refine ab.out.mono ?_;rintro e w2 ⟨rfl,rfl⟩;go_wp2_with fail;refine HF1.out.mono ?_;intro e w2 hf;obtain⟨lo1,hi1,bt1,rfl,hb2,hc1⟩:=nd hf;obtain⟨Wa,Wb,V,C,o,G,ag,N⟩:=fm w2 33 (iv 0) (iv 0) (iv lo1) (iv hi1);obtain⟨g16,hg16⟩:=ex w2.heap.size;rw[hg16]at C G N;obtain⟨f0,f1⟩:=G.f2;obtain⟨e0,e1⟩:=G.c2;have el:=G.lt;have HIb:=Lq (d.out.below (bT hb2 o));have HQ16a:=Lq N;have HQ14a:=Lq (b.out.keep (bT hb2 o));have HC1:Hid ((dA y.first k 0).getD (0,0)=(lo1,hi1)):=by
      rcases hc1 with⟨_,h,h1,h2⟩ | ⟨_,h⟩
      ·rw[h,h1,h2];exact Lq rfl
      ·rw[h];exact Lq rfl
     clear Z x1 x2 O x4;obtain⟨Z,x1,x2,O,x4⟩:=HIb.out.b4.c5;have HF2:=Lq (mU A.l y.last B A.cl k 0 Wb (HY.out.l.below HIb.out.bw HZB.out) (lT HZB.out HIb.out.bw.size) (lT HY.out.ll.1 HY.out.ll.2));clear hf hc1 hb2 o G ag N d HF1 b;go_wp2_with fail;refine HF2.out.mono ?_;intro e w3 hf;obtain⟨lo2,hi2,bt2,rfl,hb3,hc2⟩:=nd hf;clear f0 f1 e0 e1 el Z x1 x2 O x4 V C;obtain⟨Wc,Wd,hWc,hWd,hbd,qc,hbc,qd⟩:=fm w3 33 (iv 0) (iv 0) (iv lo2) (iv hi2);obtain⟨g18,hg18⟩:=ex w3.heap.size;rw[hg18]at hWd qc qd;obtain⟨f0,f1⟩:=qc.f2;obtain⟨e0,e1⟩:=qc.c2;have el:=qc.lt;have HId:=Lq (HIb.out.below (bT hb3 hbd));have HQ16:=Lq (HQ16a.out.keep (bT hb3 hbd));have HQ14b:=Lq (HQ14a.out.keep (bT hb3 hbd));have HQ18:=Lq qd;have HC2:Hid ((dA y.last k 0).getD (0,0)=(lo2,hi2)∧bt2=td):=by
      rcases hc2 with⟨h0,h,h1,h2⟩ | ⟨h0,h⟩
      ·rw[h,h1,h2,h0,←HTD.out,h];exact Lq ⟨rfl,rfl⟩
      ·rw[h,h0,←HTD.out,h];exact Lq ⟨rfl,rfl⟩
     have X:=HOB.out.f true;have hb2':=HOB.out.la false;rw[HC1.out]at X;rw[HC2.out.1]at hb2';simp only[ij,if_true,Bool.false_eq_true,if_false]at X hb2';have hwv:IntKind.i64.wrap (hi1-lo2)=hi1-lo2:=by rw[IntKind.wrap_i64];omega
     have an:(cz true y k)=hi1-lo2:=by unfold cz;rw[HC1.out,HC2.out.1];rfl
     have ap:=Lq an;have g:Hid (∀W,BW Wd W→(fun W=>W.cell? ⟨g11,1,none⟩=some (iv 0)∧W.cell? ⟨g14,0,none⟩=some bH∧W.cell? ⟨g14,1,none⟩=some bG∧W.cell? ⟨g16,0,none⟩=some (iv lo1)∧W.cell? ⟨g16,1,none⟩=some (iv hi1)∧W.cell? ⟨g18,0,none⟩=some (iv lo2)∧W.cell? ⟨g18,1,none⟩=some (iv hi2)) W):=Lq fun W t=>⟨(HId.out.below t).b11.c 1,(HQ14b.out.keep t).c 0,(HQ14b.out.keep t).c 1,(HQ16.out.keep t).c 0,(HQ16.out.keep t).c 1,(HQ18.out.keep t).c 0,(HQ18.out.keep t).c 1⟩
     clear hf hc2 hb3 hbd qc hbc qd HQ16a HQ14a HIb HF2 an X hb2';go_upto_region 13 with fail
     clear f0 f1 e0 e1 el hWc hWd;refine cJ (late:=fun j=>j==14) (ops:=yi) (r:=13) (n:=15) (S:=fun W=>W.cell? ⟨g11,1,none⟩=some (iv 0)∧W.cell? ⟨g14,0,none⟩=some bH∧W.cell? ⟨g14,1,none⟩=some bG∧W.cell? ⟨g16,0,none⟩=some (iv lo1)∧W.cell? ⟨g16,1,none⟩=some (iv hi1)∧W.cell? ⟨g18,0,none⟩=some (iv lo2)∧W.cell? ⟨g18,1,none⟩=some (iv hi2)) g.out fun V0 HB0 hHeld=>?_
     refine ae 0 (iv 1) ?_;refine ae 1 (pT g11 1) ?_;refine ae 2 (iv 0) ?_;refine ae 3 (pT g14 0) ?_;refine ae 4 bH ?_;refine ae 5 (.agg #[iv lo1,iv hi1]) ?_;refine ae 7 (pT g14 1) ?_;refine ae 8 bG ?_;refine ae 9 (.agg #[iv lo2,iv hi2]) ?_;refine aQ 6 fun K' hK=>?_
     go_simp;refine(p8 lo1 hi1 V0).mono ?_;rintro e7 w7 ⟨rfl,D⟩;have HB7:=Lq (bT HB0.out D);refine hK.out _ _ (g.out _ HB7.out) (fun hHeld=>?_)
     clear hK D;refine aQ 10 fun K' hK=>?_
     go_simp;refine(pZ lo2 hi2 w7).mono ?_;rintro e8 w8 ⟨rfl,I⟩;have HB8:=Lq (bT HB7.out I);refine hK.out _ _ (g.out _ HB8.out) (fun hHeld=>?_)
     clear hK I;refine ae 11 (iv (hi1-lo2)) ?_;refine ae 12 (iv (hi1-lo2)) ?_;refine ae 13 (pT g11 1) ?_;refine bO 14 fun K' hK=>?_
     have u:=Lq (HId.out.below HB8.out);obtain⟨cc,cf,cl⟩:_∧_∧_:=⟨u.out.b11.c 1,u.out.b11.frozen 1,u.out.b11.lt⟩;obtain⟨Wn,hWN⟩:=ex (w8.setCell ⟨g11,1,none⟩ (iv (hi1-lo2)));have HIn:Hid (dt w y A g4 g6 g11 Wn X0 (hi1-lo2)):=by have h:=u.out.put1 (hi1-lo2);rw[hWN]at h;exact Lq h
     have T:Hid (aa Wn g14 249 #[bH,bG]):=by have h:=HQ14b.out.keep HB8.out;rw[←hWN];exact Lq (h.far (bF h u.out.b11 (by decide)) _)
     go_simp;refine hK.out _ _ ?_;clear hK hHeld cc cf cl hWN g;refine dL ?_;obtain rfl:bt2=td:=HC2.out.2;have htt:(bt2&&bt2)=bt2:=Bool.and_self bt2;clear HC2 hwv;cases bt2;all_goals
      go_wp2_with fail;go_roundw
      case rel=>exact⟨1,by omega,.inr ⟨lr _,rfl,rfl,by rw[ap.out];exact HIn⟩,T⟩
      case measure=>simp[intOf];omega
end
theorem yt{y:ar}{l:List Int}:∀{n:Nat},iU y l n=false→∀k,k<n→jM y l k=false
 | 0,_,k,hk=>absurd hk (Nat.not_lt_zero _)
 | n+1,h,k,hk=>by
  rw[rO,Bool.or_eq_false_iff]at h;rcases Nat.lt_or_ge k n with h' | h'
  ·exact yt h.1 k h'
  ·obtain rfl:k=n:=by omega
   exact h.2
theorem Gb(y:ar)(A:aI)(B:Nat)(L:Option Addr)(l:List Int)(c:Nat)(m:Int)(w:World)(H:aO w B y A)(g:B≤w.heap.size)(u:dc y)(D:l.length≤maxLen)(C:am iv w B L l)(M:jb y.papers.length l)(s:nw y 0 l)(N:iU y l y.papers.length=false)(K:0<y.kinds.length)(z:(iE y 0 l).1=m)(J:m≠0) :
  Cs 59 #[.agg (ak y A),.slice L l.length c] w (Rt w (.tuple #[.agg #[iv (-1),iv 0,iv 1,iv m],iv 0])):=by
 obtain⟨G,t,I⟩:=nA w (.cells (ak y A) 46);obtain⟨g2,hg2⟩:=ex w.heap.size;obtain⟨W2,hW2,b2⟩:=nA G (.cells #[iv 0,iv 0,iv 0,iv 0] 132);obtain⟨g4,hg4⟩:=ex G.heap.size;have q1:aa W2 g2 46 (ak y A):=by rw[←hW2];exact aa.alloc (by rw[←t,←hg2];exact aa.new w 46 _) _
 have n:aa W2 g4 132 #[iv 0,iv 0,iv 0,iv 0]:=by rw[←hW2,←hg4];exact aa.new G 132 _
 have b:=bT I b2;have HB:=Lq b;have HG4:Hid (w.heap.size≤g4):=Lq (by rw[←hg4];exact I.size)
 have F:=Lq n;have HOP:=Lq (oF y A B L l c W2 (H.below b g) (lT g b.size) u D (C.below b g) M);have HTO:Hid (∀W,BW W2 W→Cs 72 #[.agg (ak y A),.slice L l.length c] W (Rt W (iv (-1)))):=Lq fun W s=>(ve y A B L l c W (H.below (bT b s) g) (lT g (bT b s).size) (fun i p hp=>u.pap.copy i p hp) D (C.below (bT b s) g)).mono (by
  rintro e w' ⟨r,rfl,d,⟨rfl, -⟩ | ⟨k,rfl,K,V,R⟩⟩
  ·exact⟨rfl,d⟩
  ·have:=yt N k K;rw[R]at this;cases this)
 have q:Hid (∀W,BW W2 W→Cs 113 #[.agg (ak y A),iv 0,iv 1,.slice L l.length c] W (Rt W (.tuple #[iv (iE y 0 l).1,iv (iE y 0 l).2]))):=Lq fun W d=>yr y A B 0 L l c W (H.below (bT b d) g) (lT g (bT b d).size) u D (C.below (bT b d) g) s
 obtain⟨X,x⟩:=ex (iE y 0 l).2;rw[z,x]at q;obtain⟨x0,x1,x2,x3,x4⟩:=q1.c5;have l1:=q1.lt;have hpl:=u.places;have hkz:(0:Int)<(y.kinds.length:Int):=by omega
 have T:(m==0)=false:=by simpa using J
 have U:(m != 0)=true:=by simpa using J
 have S:(1:Int)<wrap64 (2^y.places.length):=by
  have:y.places.length=1∨y.places.length=2∨y.places.length=3∨y.places.length=4:=by omega
  rcases this with h | h | h | h<;>rw[h]<;>unfold wrap64<;>omega
 clear H g u D C M s N z x I b2 q1 n b;go_enter Tryz.func59,Tryz.ntmps59
 go_wp2_with fail;refine HOP.out.mono ?_;rintro e O ⟨rfl,(E:Hid _)⟩;clear HOP x0 x1 x2 x3 x4 l1 t hW2 hg2 hg4;obtain⟨Wa,Wb,hWa,hWb,hbb,qa,hba,qb⟩:=fh O 74 (.slice none 0 0) (.slice none 0 0) (.slice none 0 0) (.slice none 0 0) (.slice none 0 0) (.slice A.k y.kinds.length A.ck) (.slice A.p y.places.length A.cp) (.slice A.f y.first.length A.cf) (.slice A.a y.papers.length A.ca) (.slice A.l y.last.length A.cl);obtain⟨g6,hg6⟩:=ex O.heap.size;rw[hg6]at hWb qa qb;obtain⟨f0,f1,f2,f3,f4⟩:=qa.f5;obtain⟨e0,e1,e2,e3,e4⟩:=qa.c5;have el:=qa.lt;obtain⟨d0,d1,d2,d3,d4⟩:=qb.c5;have HBX:=Lq (bT E.out hbb);have HQ6:Hid (aa Wb g6 74 (ak y A)):=Lq qb;have HT:=Lq (HTO.out Wb HBX.out);clear hbb qa hba qb HTO;go_wp2_with fail;refine HT.out.mono ?_;rintro e w3 ⟨rfl,hb3⟩;have HB3:=Lq (bT HBX.out hb3);have q6:=HQ6.out.keep hb3;clear f0 f1 f2 f3 f4 e0 e1 e2 e3 e4 el d0 d1 d2 d3 d4 hWa hWb hg6 hb3 HT;obtain⟨x0,x1,x2,x3,x4⟩:=q6.c5;have HQ6:=Lq q6;clear q6;go_wp2_with fail;clear x0 x1 x2 x3 x4;go_loopw [34] (fun i wr=>i=iv 0∧Hid (BW w3 wr)) (fun i _=>1-(intOf i).toNat)
 case atStart=>exact⟨rfl,Lq (bR _)⟩
 case round =>
  obtain⟨rfl,j⟩:=hrel;have HOW:=Lq (q.out wr (bT HB3.out j.out));have q6:=HQ6.out.keep j.out;obtain⟨x0,x1,x2,x3,x4⟩:=q6.c5;go_wp2_with fail;clear x0 x1 x2 x3 x4 q6 HOW;go_loopw [10] (fun i wr=>i=iv 1∧Hid (BW w3 wr)) (fun i _=>1-(intOf i).toNat)
  case atStart=>exact⟨rfl,j⟩
  case round =>
   clear j;obtain⟨rfl,o⟩:=hrel;have HOW:=Lq (q.out wr (bT HB3.out o.out));have q6:=HQ6.out.keep o.out;obtain⟨x0,x1,x2,x3,x4⟩:=q6.c5;have l6:=q6.lt;clear q6;go_wp2_with fail;refine HOW.out.mono ?_;rintro e w5 ⟨rfl,hb5⟩;have HB5:=Lq (bT HB3.out (bT o.out hb5));have n:=F.out.keep HB5.out;obtain⟨f0,f1,f2,f3⟩:=n.f4;obtain⟨e0,e1,e2,e3⟩:=n.c4;have el:=n.lt;have qs:=(((n.set_ 0 (iv (-1))).set_ 1 (iv 0)).set_ 2 (iv 1)).set_ 3 (iv m);simp only[List.setIfInBounds_toArray,List.set_cons_zero,List.set_cons_succ]at qs;obtain⟨d0,d1,d2,d3⟩:=qs.c4;have HBE:=Lq (aH (aH (aH (aH (bT HB.out HB5.out) HG4.out (p:=⟨g4,0,none⟩) (iv (-1))) HG4.out (p:=⟨g4,1,none⟩) (iv 0)) HG4.out (p:=⟨g4,2,none⟩) (iv 1)) HG4.out (p:=⟨g4,3,none⟩) (iv m));clear x0 x1 x2 x3 x4 l6 n qs hb5 HOW;go_wp2_with fail;exact bodyPost_ret (v:=.tuple #[.agg #[iv (-1),iv 0,iv 1,iv m],iv 0]) (by simp[results,Tryz.results59,go_sem,d0,d1,d2,d3]) rfl ⟨rfl,HBE.out⟩
theorem yu(w:World)(t:TypeId)(cs:Array Value):aa (w.alloc (.cells cs t)).drew w.heap.size t cs:=aa.new w t cs
theorem yv(y:ar)(A:aI)(B:Nat)(L:Option Addr)(l:List Int)(d:Nat)(x j:Int)(w:World)(H:aO w B y A)(o:B≤w.heap.size)(t:dc y)(G:l.length≤maxLen)(F:am iv w B L l)(K:jb y.papers.length l)(q:nw y 0 l)(S:0<y.kinds.length)(v:(iE y 0 l).1=x)(O:0<j) :
  Cs 60 #[.agg (ak y A),.slice L l.length d,.agg #[iv (-1),iv 0,iv 1,iv j]] w (Rt w (.tuple #[.bool (j==x),iv 0])):=by
 obtain⟨E,s,I⟩:=nA w (.cells (ak y A) 46);obtain⟨g3,hg3⟩:=ex w.heap.size;obtain⟨W2,hW2,b2⟩:=nA E (.cells #[iv (-1),iv 0,iv 1,iv j] 132);obtain⟨g5,hg5⟩:=ex E.heap.size;have q1:aa W2 g3 46 (ak y A):=by rw[←hW2];exact aa.alloc (by rw[←s,←hg3];exact aa.new w 46 _) _
 have i:aa W2 g5 132 #[iv (-1),iv 0,iv 1,iv j]:=by rw[←hW2,←hg5];exact aa.new E 132 _
 have b:=bT I b2;have HB:=Lq b;have HQ5:=Lq i;have HOP:=Lq (oF y A B L l d W2 (H.below b o) (lT o b.size) t G (F.below b o) K);have HOV:Hid (∀W,BW W2 W→Cs 113 #[.agg (ak y A),iv 0,iv 1,.slice L l.length d] W (Rt W (.tuple #[iv (iE y 0 l).1,iv (iE y 0 l).2]))):=Lq fun W hb'=>yr y A B 0 L l d W (H.below (bT b hb') o) (lT o (bT b hb').size) t G (F.below (bT b hb') o) q
 obtain⟨T,u⟩:=ex (iE y 0 l).2;rw[v,u]at HOV;obtain⟨x0,x1,x2,x3,x4⟩:=q1.c5;have l1:=q1.lt;have hpl:=t.places;have hkn:=t.kinds;obtain⟨KN,hKN⟩:=ex (y.kinds.length:Int);have hwk:IntKind.i64.wrap ((y.kinds.length:Int)-1)=(y.kinds.length:Int)-1:=by rw[IntKind.wrap_i64];omega
 obtain⟨n,r⟩:∃P:Int,wrap64 (2^y.places.length)=P:=⟨_,rfl⟩;have hpw:2≤n∧n≤16:=by
  have:y.places.length=1∨y.places.length=2∨y.places.length=3∨y.places.length=4:=by omega
  rw[←r];rcases this with h | h | h | h<;>rw[h]<;>unfold wrap64<;>omega
 have J:IntKind.i64.wrap (2^y.places.length)=n:=by rw[←r,IntKind.wrap_i64];unfold wrap64;omega
 have N:IntKind.i64.wrap (n-1)=n-1:=by rw[IntKind.wrap_i64];omega
 have C:Hid (∀g W,W.cell? ⟨g,0,none⟩=some (iv 0)→g<W.heap.size→Cs 26 #[iv 0,iv ((y.kinds.length:Int)-1),.slice (some ⟨g,0,none⟩) 1 1] W (Rt W (.bool false))):=Lq fun g W hc hg=>(lB 0 _ 0 g W hc hg).mono (by rintro e w' ⟨rfl,hb'⟩;exact⟨by rw[show inB 0 ((y.kinds.length:Int)-1) 0=true by unfold inB;simp;omega];rfl,hb'⟩)
 have D:Hid (∀g W,W.cell? ⟨g,0,none⟩=some (iv 1)→g<W.heap.size→Cs 26 #[iv 1,iv (n-1),.slice (some ⟨g,0,none⟩) 1 1] W (Rt W (.bool false))):=Lq fun g W hc hg=>(lB 1 _ 1 g W hc hg).mono (by rintro e w' ⟨rfl,hb'⟩;exact⟨by rw[show inB 1 (n-1) 1=true by unfold inB;simp;omega];rfl,hb'⟩)
 clear H o t G F K q v u I b2 q1 i b hKN;go_enter Tryz.func60,Tryz.ntmps60
 go_wp2_with fail;refine HOP.out.mono ?_;rintro e M ⟨rfl,(z:Hid _)⟩;clear HOP x0 x1 x2 x3 x4 l1 s hW2 hg3 hg5;obtain⟨Wa,Wb,hWa,hWb,hbb,qa,hba,qb⟩:=fh M 74 (.slice none 0 0) (.slice none 0 0) (.slice none 0 0) (.slice none 0 0) (.slice none 0 0) (.slice A.k y.kinds.length A.ck) (.slice A.p y.places.length A.cp) (.slice A.f y.first.length A.cf) (.slice A.a y.papers.length A.ca) (.slice A.l y.last.length A.cl);obtain⟨g8,hg8⟩:=ex M.heap.size;rw[hg8]at hWb qa qb;obtain⟨f0,f1,f2,f3,f4⟩:=qa.f5;obtain⟨e0,e1,e2,e3,e4⟩:=qa.c5;have el:=qa.lt;have HBX:=Lq (bT z.out hbb);have HQ8:Hid (aa Wb g8 74 (ak y A)):=Lq qb;have i:=HQ5.out.keep HBX.out;obtain⟨y0,y1,y2,y3⟩:=i.c4;clear hbb qa hba qb i;go_wp2_with fail;have HS:Hid (∀W,BW Wb W→cA W g8 0 (.slice A.k y.kinds.length A.ck)∧cA W g8 1 (.slice A.p y.places.length A.cp)∧cA W g5 1 (iv 0)∧cA W g5 2 (iv 1)):=Lq fun W q=>⟨(HQ8.out.keep q).c 0,(HQ8.out.keep q).c 1,(HQ5.out.keep (bT HBX.out q)).c 1,(HQ5.out.keep (bT HBX.out q)).c 2⟩
 clear f0 f1 f2 f3 f4 e0 e1 e2 e3 e4 el y0 y1 y2 y3 hWa hWb hg8;go_region_held3 (fun W=>cA W g8 0 (.slice A.k y.kinds.length A.ck)∧cA W g8 1 (.slice A.p y.places.length A.cp)∧cA W g5 1 (iv 0)∧cA W g5 2 (iv 1)) (first | exact HS.out _ (bT (bT (aZ (bA (bR _) _)) hb5) (bT (bA (bR _) _) hb6)) | exact HS.out _ (bT (bT (aZ (bA (bR _) _)) hb5) (bA (bR _) _)) | exact HS.out _ (bT (aZ (bA (bR _) _)) hb5) | exact HS.out _ (aZ (bA (bR _) _)) | exact HS.out _ (aZ (bR _))) (first | (go_at_call 26;((with_reducible refine(C.out _ _ ((yu _ 3 #[iv 0]).c 0) (yu _ 3 #[iv 0]).lt).mono ?_);rintro e w5 ⟨rfl,hb5⟩)) | (go_at_call 26;((with_reducible refine(D.out _ _ ((aa.new _ 3 #[iv 1]).c 0) (aa.new _ 3 #[iv 1]).lt).mono ?_);rintro e w6 ⟨rfl,hb6⟩)))
 have m:=Lq (bT HBX.out (bT (bT (aZ (bA (bR _) _)) hb5) (bT (bA (bR _) _) hb6)));have HOW:=Lq (HOV.out w6 m.out);have q8:=HQ8.out.keep (bT (bT (aZ (bA (bR _) _)) hb5) (bT (bA (bR _) _) hb6));have i:=HQ5.out.keep m.out;obtain⟨x0,x1,x2,x3,x4⟩:=q8.c5;obtain⟨y0,y1,y2,y3⟩:=i.c4;clear hb5 hb6 q8 i;go_wp2_with fail;refine HOW.out.mono ?_;rintro e w7 ⟨rfl,hb7⟩;have HB7:=Lq (bT m.out hb7);have i:=HQ5.out.keep HB7.out;clear x0 x1 x2 x3 x4 y0 y1 y2 y3 HOW hb7;obtain⟨y0,y1,y2,y3⟩:=i.c4;clear i;have hng:¬(j<0):=by omega
 by_cases he:j=x
 ·subst he;go_wp2_with fail
  go_ret2
  exact⟨by simp,bT HB.out HB7.out⟩
 ·have R:decide (j=x)=false:=decide_eq_false he;have hbq:(j==x)=false:=by simpa using he
  go_wp2_with fail
  go_ret2
  exact⟨by simp,bT HB.out HB7.out⟩
abbrev fI:ByteArray:=⟨#[111,105,108]⟩
abbrev iF:ByteArray:=⟨#[112,97,105,110,116]⟩
abbrev fT:ByteArray:=⟨#[121,97,114,100]⟩
abbrev ik:ByteArray:=⟨#[112,105,116]⟩
def aC(b:Bool):ar:=⟨[fI,iF],[fT,ik],[⟨0,0,1000,1000⟩],[⟨0,0,1,600,1⟩,⟨0,0,1,500,0⟩,⟨0,0, -1,300, -1⟩],if b=true then[⟨0,0,100,200⟩]else[⟨0,0,100,100⟩,⟨0,1,600,600⟩]⟩
theorem nz(a b:Int)(w:World):Cs 67 #[iv a,iv b] w (Rt w (.agg #[iv a,iv b])):=by
 obtain⟨k,l,j,f,c,d,h,i⟩:=fm w 33 (iv 0) (iv 0) (iv a) (iv b);obtain⟨g,hg⟩:=ex w.heap.size;rw[hg]at f d i;obtain⟨f0,f1⟩:=d.f2;obtain⟨e0,e1⟩:=d.c2;have el:=d.lt;obtain⟨d0,d1⟩:=i.c2;have HB:=Lq c;clear c d h i;go_enter Tryz.func67,Tryz.ntmps67
 go_wp2_with fail;exact bodyPost_ret (v:=.agg #[iv a,iv b]) (by simp[results,Tryz.results67,go_sem,d0,d1]) rfl ⟨rfl,HB.out⟩
def Gc(b:Bool)(w:World)(e:Ending)(w':World):Prop:=∃A:aI,e=.returned (.agg (ak (aC b) A))∧BW w w'∧aO w' w'.heap.size (aC b) A
theorem bB{w W a:World}{t:TypeId}{cs:Array Value}(h:w.alloc (.cells cs t)=W)(b:BW W a):aa a w.heap.size t cs:=by subst h;exact(aa.new w t cs).keep b
theorem oG(W:World)(g:Nat)(t:TypeId)(k l m n o b c d f i:Value)(h:aa W g t #[k,l,m,n,o]):∃W',((((W.setCell ⟨g,0,none⟩ b).setCell ⟨g,1,none⟩ c).setCell ⟨g,2,none⟩ d).setCell ⟨g,3,none⟩ f).setCell ⟨g,4,none⟩ i=W'∧aa W' g t #[b,c,d,f,i]∧(∀w,BW w W→w.heap.size≤g→BW w W')∧(∀g' t' cs,aa W g' t' cs→g'≠g→aa W' g' t' cs):=by
 refine⟨_,rfl, ?_,fun w j a=>?_,fun g' t' cs j hn=>?_⟩
 ·have q:=((((h.set_ 0 b).set_ 1 c).set_ 2 d).set_ 3 f).set_ 4 i
  simpa using q
 ·exact aH (aH (aH (aH (aH j a (p:=⟨g,0,none⟩) _) a (p:=⟨g,1,none⟩) _) a (p:=⟨g,2,none⟩) _) a (p:=⟨g,3,none⟩) _) a (p:=⟨g,4,none⟩) _
 ·exact((((j.far hn b).far (p:=⟨g,1,none⟩) hn c).far (p:=⟨g,2,none⟩) hn d).far (p:=⟨g,3,none⟩) hn f).far (p:=⟨g,4,none⟩) hn i
theorem yx(b:Bool)(w:World):Cs 58 #[.bool b] w (Gc b w):=by
 obtain⟨A,o,B⟩:=nA w (.cells #[.slice none 0 0,.slice none 0 0,.slice none 0 0,.slice none 0 0,.slice none 0 0] 46);obtain⟨V2,hV2,b2⟩:=nA A (.cells #[.string fI,.string iF] 9);obtain⟨V3,hV3,b3⟩:=nA V2 (.cells #[.string fT,.string ik] 9);obtain⟨g2,hg2⟩:=ex w.heap.size;obtain⟨gk,hgk⟩:=ex A.heap.size;obtain⟨gp,hgp⟩:=ex V2.heap.size;have q2:=hg2▸bB o (bT b2 b3);have qk:=hgk▸bB hV2 b3;have qp:=hgp▸bB hV3 (bR V3);have HB3:=Lq (bT B (bT b2 b3));have HG2:Hid (w.heap.size≤g2):=Lq (by omega)
 have n:=Lq (And.intro q2 (And.intro qk qp));clear B b2 b3 q2 qk qp;go_enter Tryz.func58,Tryz.ntmps58
 go_wp2_with fail;refine(nz 1000 1000 V3).mono ?_;rintro e D ⟨rfl,q⟩;clear o hV2 hV3 hg2 hgk hgp;obtain⟨V5,hV5,b5⟩:=nA D (.cells #[iv 0,iv 0,iv 1000,iv 1000] 42);obtain⟨gf,hgf⟩:=ex D.heap.size;obtain⟨V6,hV6,b6⟩:=nA V5 (.cells #[iv 0,iv 0,iv 1,iv 600,iv 1,iv 0,iv 0,iv 1,iv 500,iv 0,iv 0,iv 0,iv (-1),iv 300,iv (-1)] 53);obtain⟨ga,hga⟩:=ex V5.heap.size;have HQ6:=Lq (And.intro (hgf▸bB hV5 b6) (hga▸bB hV6 (bR V6)));have HB6:=Lq (bT q (bT b5 b6));clear b5 b6 q;go_wp2_with fail;refine(nz 100 100 V6).mono ?_;rintro e w7 ⟨rfl,hb7⟩;clear hV5 hV6 hgf hga;have HB7:=Lq hb7;clear hb7;go_wp2_with fail;refine(nz 600 600 w7).mono ?_;rintro e w8 ⟨rfl,hb8⟩;obtain⟨V9,hV9,b9⟩:=nA w8 (.cells #[iv 0,iv 0,iv 100,iv 100,iv 0,iv 1,iv 600,iv 600] 42);obtain⟨gl,hgl⟩:=ex w8.heap.size;obtain⟨Wa,Wb,hWa,hWb,hbb,qa,hba,qb⟩:=fh V9 46 (.slice none 0 0) (.slice none 0 0) (.slice none 0 0) (.slice none 0 0) (.slice none 0 0) (.slice (some ⟨gk,0,none⟩) 2 2) (.slice (some ⟨gp,0,none⟩) 2 2) (.slice (some ⟨gf,0,none⟩) 1 1) (.slice (some ⟨ga,0,none⟩) 3 3) (.slice (some ⟨gl,0,none⟩) 2 2);obtain⟨g3,hg3⟩:=ex V9.heap.size;rw[hg3]at hWb qa qb;obtain⟨f0,f1,f2,f3,f4⟩:=qa.f5;obtain⟨e0,e1,e2,e3,e4⟩:=qa.c5;have el:=qa.lt;have HQL:=Lq ((hgl▸bB hV9 (bR V9):aa V9 gl 42 #[iv 0,iv 0,iv 100,iv 100,iv 0,iv 1,iv 600,iv 600]).keep hbb);have HQ3:=Lq qb;have HG3:Hid (w.heap.size≤g3):=Lq (by rw[←hg3];exact(bT HB3.out (bT HB6.out (bT HB7.out (bT hb8 b9)))).size)
 have f:=Lq (bT HB6.out (bT HB7.out (bT hb8 (bT b9 hbb))));have HBc:=Lq (bT HB7.out (bT hb8 (bT b9 hbb)));clear b9 hb8 hbb qa hba qb;cases b
 ·have d:=n.out.1.keep f.out;obtain⟨j,z,m,l,g⟩:=oG Wb g2 46 (.slice none 0 0) (.slice none 0 0) (.slice none 0 0) (.slice none 0 0) (.slice none 0 0) (.slice (some ⟨gk,0,none⟩) 2 2) (.slice (some ⟨gp,0,none⟩) 2 2) (.slice (some ⟨gf,0,none⟩) 1 1) (.slice (some ⟨ga,0,none⟩) 3 3) (.slice (some ⟨gl,0,none⟩) 2 2) d;have HZ:=Lq m;have a:Hid (BW w j∧aa j gk 9 #[.string fI,.string iF]∧aa j gp 9 #[.string fT,.string ik]∧aa j gf 42 #[iv 0,iv 0,iv 1000,iv 1000]∧aa j ga 53 #[iv 0,iv 0,iv 1,iv 600,iv 1,iv 0,iv 0,iv 1,iv 500,iv 0,iv 0,iv 0,iv (-1),iv 300,iv (-1)]∧aa j gl 42 #[iv 0,iv 0,iv 100,iv 100,iv 0,iv 1,iv 600,iv 600]):=Lq ⟨l w (bT HB3.out f.out) HG2.out,g _ _ _ (n.out.2.1.keep f.out) (bF (n.out.2.1.keep f.out) d (by decide)),g _ _ _ (n.out.2.2.keep f.out) (bF (n.out.2.2.keep f.out) d (by decide)),g _ _ _ (HQ6.out.1.keep HBc.out) (bF (HQ6.out.1.keep HBc.out) d (by decide)),g _ _ _ (HQ6.out.2.keep HBc.out) (bF (HQ6.out.2.keep HBc.out) d (by decide)),g _ _ _ HQL.out (bF HQL.out d (by decide))⟩
  obtain⟨s,t,u,x,y⟩:=HQ3.out.c5;obtain⟨r0,r1,r2,r3,r4⟩:=d.f5;obtain⟨s0,s1,s2,s3,s4⟩:=d.c5;have sl:=d.lt;clear d m l g;obtain⟨z0,z1,z2,z3,z4⟩:=HZ.out.c5;go_wp2_with fail;exact bodyPost_ret (v:=.agg (ak (aC false) ⟨some ⟨gk,0,none⟩,some ⟨gp,0,none⟩,some ⟨gf,0,none⟩,some ⟨ga,0,none⟩,some ⟨gl,0,none⟩,2,2,1,3,2⟩)) (by simp[results,Tryz.results58,go_sem,aC,z0,z1,z2,z3,z4]) rfl ⟨_,rfl,a.out.1,⟨aa.rd1 (xs:=[fI,iF]) a.out.2.1,aa.rd1 (xs:=[fT,ik]) a.out.2.2.1,aa.rdN (k:=4) (enc:=dq) (fun _=>rfl) (xs:=[⟨0,0,1000,1000⟩]) a.out.2.2.2.1,aa.rdN (k:=5) (enc:=iS) (fun _=>rfl) (xs:=(aC false).papers) a.out.2.2.2.2.1,aa.rdN (k:=4) (enc:=dq) (fun _=>rfl) (xs:=(aC false).last) a.out.2.2.2.2.2,⟨lr _,show 2≤maxLen by unfold maxLen;omega⟩,⟨lr _,show 2≤maxLen by unfold maxLen;omega⟩,⟨lr _,show 1≤maxLen by unfold maxLen;omega⟩,⟨lr _,show 3≤maxLen by unfold maxLen;omega⟩,⟨lr _,show 2≤maxLen by unfold maxLen;omega⟩,by decide,by decide⟩⟩
 ·have C:=HQ3.out;obtain⟨s,t,u,x,y⟩:=C.c5;clear C;go_wp2_with fail;refine(nz 100 200 Wb).mono ?_;rintro e w10 ⟨rfl,hb10⟩;clear hV9 hgl hWa hWb hg3 f0 f1 f2 f3 f4 e0 e1 e2 e3 e4 el s t u x y;obtain⟨Vz,hVz,bz⟩:=nA w10 (.cells #[iv 0,iv 0,iv 100,iv 200] 42);obtain⟨gz,hgz⟩:=ex w10.heap.size;have q3:=HQ3.out.keep (bT hb10 bz);obtain⟨r0,s0,sl⟩:_∧_∧_:=⟨q3.frozen 4,q3.c 4,q3.lt⟩;have qz:aa Vz gz 42 #[iv 0,iv 0,iv 100,iv 200]:=hgz▸bB hVz (bR Vz);obtain⟨Vy,hVy⟩:=ex (Vz.setCell ⟨g3,4,none⟩ (.slice (some ⟨gz,0,none⟩) 1 1));have hfar:∀g' t' cs,aa Vz g' t' cs→g'≠g3→aa Vy g' t' cs:=fun g' t' cs hb hn=>by rw[←hVy];exact hb.far hn _
  have r:aa Vy g3 46 #[.slice (some ⟨gk,0,none⟩) 2 2,.slice (some ⟨gp,0,none⟩) 2 2,.slice (some ⟨gf,0,none⟩) 1 1,.slice (some ⟨ga,0,none⟩) 3 3,.slice (some ⟨gz,0,none⟩) 1 1]:=by
   rw[←hVy];have h:=q3.set_ 4 (.slice (some ⟨gz,0,none⟩) 1 1)
   simpa using h
  have i:=bT hb10 bz;have q2z:=n.out.1.keep (bT f.out i);have n23:g2≠g3:=fun e=>by
   subst e;have h:=q2z.trans rfl;unfold aa at q2z q3;rw[q2z]at q3;injection q3 with q3
   injection q3 with q3 _ _
   injection q3 with q3
   cases q3
  have d:=hfar _ _ _ q2z n23;have HBV:Hid (BW w Vy):=Lq (by rw[←hVy];exact aH (bT HB3.out (bT f.out i)) HG3.out (p:=⟨g3,4,none⟩) _)
  obtain⟨j,z,m,l,g⟩:=oG Vy g2 46 (.slice none 0 0) (.slice none 0 0) (.slice none 0 0) (.slice none 0 0) (.slice none 0 0) (.slice (some ⟨gk,0,none⟩) 2 2) (.slice (some ⟨gp,0,none⟩) 2 2) (.slice (some ⟨gf,0,none⟩) 1 1) (.slice (some ⟨ga,0,none⟩) 3 3) (.slice (some ⟨gz,0,none⟩) 1 1) d;have HZ:=Lq m;have kk:∀{g' t' cs},aa Vz g' t' cs→t'≠46→aa j g' t' cs:=fun{g' t' cs} h ht=>g _ _ _ (hfar _ _ _ h (bF h q3 ht)) (bF h q2z ht)
  have a:Hid (BW w j∧aa j gk 9 #[.string fI,.string iF]∧aa j gp 9 #[.string fT,.string ik]∧aa j gf 42 #[iv 0,iv 0,iv 1000,iv 1000]∧aa j ga 53 #[iv 0,iv 0,iv 1,iv 600,iv 1,iv 0,iv 0,iv 1,iv 500,iv 0,iv 0,iv 0,iv (-1),iv 300,iv (-1)]∧aa j gz 42 #[iv 0,iv 0,iv 100,iv 200]):=Lq ⟨l w HBV.out HG2.out,kk (n.out.2.1.keep (bT f.out i)) (by decide),kk (n.out.2.2.keep (bT f.out i)) (by decide),kk (HQ6.out.1.keep (bT HBc.out i)) (by decide),kk (HQ6.out.2.keep (bT HBc.out i)) (by decide),kk qz (by decide)⟩
  obtain⟨s,t,u,x,y⟩:=r.c5;obtain⟨r10,r1,r2,r3,r4⟩:=d.f5;obtain⟨s10,s1,s2,s3,s4⟩:=d.c5;have sl2:=d.lt;clear d m l g kk q2z i r hfar qz q3 bz hb10 n23;obtain⟨z0,z1,z2,z3,z4⟩:=HZ.out.c5;go_wp2_with fail;exact bodyPost_ret (v:=.agg (ak (aC true) ⟨some ⟨gk,0,none⟩,some ⟨gp,0,none⟩,some ⟨gf,0,none⟩,some ⟨ga,0,none⟩,some ⟨gz,0,none⟩,2,2,1,3,1⟩)) (by simp[results,Tryz.results58,go_sem,aC,z0,z1,z2,z3,z4]) rfl ⟨_,rfl,a.out.1,⟨aa.rd1 (xs:=[fI,iF]) a.out.2.1,aa.rd1 (xs:=[fT,ik]) a.out.2.2.1,aa.rdN (k:=4) (enc:=dq) (fun _=>rfl) (xs:=[⟨0,0,1000,1000⟩]) a.out.2.2.2.1,aa.rdN (k:=5) (enc:=iS) (fun _=>rfl) (xs:=(aC true).papers) a.out.2.2.2.2.1,aa.rdN (k:=4) (enc:=dq) (fun _=>rfl) (xs:=(aC true).last) a.out.2.2.2.2.2,⟨lr _,show 2≤maxLen by unfold maxLen;omega⟩,⟨lr _,show 2≤maxLen by unfold maxLen;omega⟩,⟨lr _,show 1≤maxLen by unfold maxLen;omega⟩,⟨lr _,show 3≤maxLen by unfold maxLen;omega⟩,⟨lr _,show 1≤maxLen by unfold maxLen;omega⟩,by decide,by decide⟩⟩
end Go.Proofs.YtbillnhcmkpohaaGreatDoor
