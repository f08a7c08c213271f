/- waste: push (printed by mkWA2.py). waste: balance (printed by mkWB3.py). waste: whether a .. -/
import Derived.Deep.LoopGhost
import Derived.Test.YtbillnhcmkpohaaGreatDoorM16
set_option maxRecDepth 1000000
set_option maxHeartbeats 0
namespace Go.Proofs.YtbillnhcmkpohaaGreatDoor
open Go.RowKit
noncomputable def F6:Array Oper:=aU (aF Tryz.f81 14)
theorem ye(g b cap d A:Nat)(js:Value)(Y V u:Int)(z:List Ed)(base fw:Nat)(am:Array Value)(M:Nat→Int)(k:Int)(t:Nat)(ag:List Ed)(w:World)(hW:aa w g 89 #[.slice (some ⟨b,0,none⟩) z.length cap,iv d,js,iv Y])(hR:cx base w b cap z)(av:z.all (bP d)=true)(hn:d≤6)(bk:z.length≤1000)(a4:A<d)(bd:-9000000000000≤V∧V≤9000000000000)(aA:∀n,n<d→-9000000000000≤M n∧M n≤9000000000000)(hC:∀n,n<d→∀W,BW w W→Calls Tryz.prog fw (#[iv n]++am) W fun e w'=>e=.returned (iv (M n))∧w'=W)(aX:∀(x:Value) (W:World),(callFunc fw (#[x]++am)).run Tryz.prog W=.ok (.enter fw (#[x]++am)) W)(hp:dV z d A V u M=some (k,t,ag)) :
  Cs 81 #[pT g 0,iv A,iv V,iv u,.func (.func fw) #[] am] w fun e w'=>e=.returned (.tuple #[iv k,iv t])∧ai w w' b∧cx base w' b cap ag:=by
 obtain⟨R,hs,C⟩:=xv hp;obtain⟨W1,hW1,b1⟩:=nA w (.cells #[pT g 0] 82);obtain⟨gb,hgb⟩:=ex w.heap.size;have q1:aa W1 gb 82 #[pT g 0]:=by rw[←hW1,←hgb];exact aa.new w 82 _
 have aQ:w.heap.size≤W1.heap.size:=b1.size;have HEND:=Lq C;have HSE:=Lq hs;have HROW:=Lq hR;have HWB:=Lq hW;have HB1:=Lq b1;have HQ1:=Lq q1;have HC:=Lq hC;have HCF:=Lq aX;have HWT:=Lq aA;have HES:=Lq av;have hn0:0≤d:=Nat.zero_le _;have x1:W1.cell? ⟨g,1,none⟩=some (iv d):=(hW.keep b1).c 1;have y0:=q1.c 0;have hgl:=q1.lt;obtain⟨i3,hi3,hz,hz',hzb⟩:=info_parts Tryz.info3q;have hbig:(d:Int)<9223372036854775808:=by omega
 clear hp hs C hC aX aA av hR hW b1 q1;go_enter Tryz.func81,Tryz.ntmps81
 go_wp2_with (at_make;refine wpList_make_full _ rfl _ _ 48 rfl w.heap.size 3 i3 _ 1 Tryz.underlying48 hi3 hz hz' .i64 .i64 _ _ d rfl rfl rfl rfl ?m1 ?m2 ?m3 ?_)
 case m1=>rw[hzb];omega
 case m2=>unfold maxLen;omega
 case m3=>exact aQ
 intro w2 aG ah;have hmk:w2.ownsRow w.heap.size 3 1 (.slice (some ⟨W1.heap.size,0,none⟩) d d) d ((List.replicate d (0:Int)).map iv):=by
  have h:=aG;have e:=sr d;rw[Nat.mul_one]at e
  rwa [e,←hgb]at h
 have K:BW w w2:=⟨ah.os.trans HB1.out.os,ah.tape.trans HB1.out.tape,ah.output.trans HB1.out.output,lT aQ ah.size,fun j hj=>(ah.block j (lz hj aQ) (by simp)).trans (HB1.out.block j hj)⟩
 have q2:aa w2 gb 82 #[pT g 0]:=HQ1.out.grown ah (by simp)
 obtain⟨N,aY⟩:=ex W1.heap.size;rw[aY]at hmk ⊢;have hgy2:=(hmk.lt N rfl).2;have hgy1:=(hmk.lt N rfl).1;have hd0:(((List.replicate d (0:Int)).map iv)[A]?)=some (iv 0):=by simp[a4]
 have xb:w2.cell? ⟨N,A,none⟩=some (iv 0):=by rw[hmk.cellAt A (by omega)];exact hd0
 have xf:=hmk.frozenAt A;obtain⟨W3,hW3⟩:=ex (w2.setCell ⟨N,A,none⟩ (iv (-1)));obtain⟨W4,hW4,hb4⟩:=nA W3 (.cells #[iv A] 3);obtain⟨gl,hgl2⟩:=ex w2.heap.size;have hsz3:W3.heap.size=gl:=by rw[←hW3,←hgl2];simp
 have HP:Hid (dI w gb N g d W4 ((List.replicate d (0:Int)).set A (-1)) [A] (.slice (some ⟨gl,0,none⟩) 1 1)):=by
  refine Lq ?_;have ho:=ai.of_set (bR w2) N A (iv (-1));rw[hW3]at ho;have ao:BW w W3:=ho.below K hgy1;have hgb2:gb≠N:=fun e=>ax hmk q2 (by decide) (by rw[e];rfl)
  have q3:aa W3 gb 82 #[pT g 0]:=q2.same (ho.block gb q2.lt hgb2);refine⟨?_, ?_, ?_,q3.keep hb4,bT ao hb4,by simp,fun x hx=>by simp at hx;omega⟩
  ·have h:=(hmk.stored A (iv (-1))).1;rw[←List.map_set,hW3]at h;exact aN h hb4
  ·have h:=dH.one W3 A w.heap.size ao.size;rw[hW4,hsz3]at h;exact h
  ·intro e;injection e with e
   rw[←hgl2]at e;simp only at e;omega
 have bi:N<w2.heap.size:=hgy2;have hs0:=nn A;have hsz:(A:Int)<(d:Int):=by omega
 clear aG ah hmk K q2 x1 y0 hgl hi3 hz hz' hzb hW1 hgb aY hgy1 hgy2 hd0;go_wp2_with fail;clear xb xf bi hW3 hW4 hsz3 hgl2
 go_loopg [14] (d+1) (fun f v wr=>∃(y:List Int) (l:List Nat),l.length+f*1000≤8001∧Hid (cI z u A M f y l=some R)∧Hid (dI w gb N g d wr y l v))
 case atStart=>exact⟨_,_,by simp;omega,HSE,HP⟩
 case round =>
  obtain⟨y,l,a0,af,HP⟩:=hrel;cases gk with
  | zero=>exact absurd af.out (by unfold cI;simp)
  | succ f =>
   cases l with
   | nil =>
    obtain⟨gq,oq,cq,bl,rfl, -, -, -, -, -, -⟩:=HP.out.q;have hR0:R=none:=by have h:=af.out;unfold cI at h;injection h with h;exact h.symm
    have a9:=Lq hR0;clear hR0;go_wp2_with fail
    go_ret2
    have he:=HEND.out;rw[a9.out]at he;obtain⟨h1,h2,h3⟩:=he;subst h1 h2 h3;exact⟨rfl,ai.of_below HP.out.bw b,HROW.out.below HP.out.bw⟩
   | cons a rest =>
    have aD:a<d:=HP.out.lt a (List.mem_cons_self ..);obtain⟨gq,oq,cq,rfl, -,a3,aw,hcq, -, -⟩:=HP.out.q.front;unfold maxLen at aw;by_cases ha:a=A
    ·have ba:((a:Int) != (A:Int))=false:=by simp[ha]
     have X:=af.out;rw[cI,if_neg (by simp[ha])]at X
     clear ha;obtain⟨S,hS⟩:=ex (aP u a 0 z y rest);rw[hS]at X;have HSS:=Lq hS;have HS2:=Lq X;have HP0:=Lq HP.out;obtain⟨x0,z0⟩:wr.cell? ⟨gb,0,none⟩=some (pT g 0)∧cA wr g 0 (.slice (some ⟨b,0,none⟩) z.length cap):=⟨HP.out.bx.c 0,(HWB.out.keep HP.out.bw).c 0⟩;clear hS X af HP;go_wp2_with fail;clear x0 z0 hcq;go_loopw [142,14] (fun i v' wr'=>∃(m:Nat) (y':List Int) (l':List Nat),m≤z.length∧i=iv m∧l'.length+1+(f+1)*1000≤8001+m∧Hid (aP u a m (z.drop m) y' l'=S)∧Hid (dI w gb N g d wr' y' (a::l') v')) (fun i _ _=>z.length-(intOf i).toNat)
     case atStart=>exact⟨0,y,rest,Nat.zero_le _,rfl,by simp at a0;omega,HSS,HP0⟩
     case round =>
      obtain⟨m,E,F,hm,rfl,a1,ae,s⟩:=hrel;have hm0:=nn m;by_cases hlt:m<z.length
      case neg =>
       obtain rfl:m=z.length:=by omega
       obtain⟨gq,oq,cq,rfl, -,a3,aw, -,aj,ak⟩:=s.out.q.front;have hSe:(E,F)=S:=by have h:=ae.out;rw[List.drop_length]at h;exact h
       have ar:=Lq hSe;unfold maxLen at aw;by_cases hc1:cq=1
       ·subst hc1;have ad:=Lq (s.out.pop (aj rfl) rfl);have hl0:F.length=0:=by omega
        clear aj ak hSe;go_wp2_with fail
        go_roundg f
        case measure=>omega
        case rel=>exact⟨E,F,by omega,by rw[←ar.out]at HS2;exact HS2,by simpa[hl0]using ad⟩
       ·have ad:=Lq (s.out.pop ak rfl);clear aj ak hSe;go_wp2_with fail
        go_roundg f
        case measure=>omega
        case rel=>exact⟨E,F,by omega,by rw[←ar.out]at HS2;exact HS2,by simpa using ad⟩
      have be:(m:Int)<(z.length:Int):=by omega
      obtain⟨x,hx⟩:=gX (l:=z) (i:=m) hlt;obtain⟨hxB,hxf,hxe⟩:=kM (List.all_eq_true.1 HES.out x (List.mem_of_getElem? hx)) (by omega)
      have J:Hid (aP u a m (x::z.drop (m+1)) E F=S):=by have h:=ae.out;rw[List.drop_eq_getElem_cons hlt,(List.getElem?_eq_some_iff.1 hx).2]at h;exact Lq h
      have T:=Lq ((HROW.out.below s.out.bw).web s.out.bx (HWB.out.keep s.out.bw));obtain⟨c0,c1,c2,c3,c4⟩:=T.out.at hx;obtain⟨Wa,Wx,hWa,hWx,hbx,qa,hba,qx⟩:=pQ wr 154 x (iv 0) (iv 0) (iv 0) (iv 0) (iv 0);obtain⟨gx,hgx⟩:=ex wr.heap.size;rw[hgx]at hWx qa qx;obtain⟨f0,f1,f2,f3,f4⟩:=qa.f5;obtain⟨e0,e1,e2,e3,e4⟩:=qa.c5;have el:=qa.lt;obtain⟨d0,d1,d2,d3,d4⟩:=qx.c5;have HPX:=Lq (s.out.below hbx);have HX:=Lq hx;obtain⟨rm,hrm⟩:=ex (x.room a);have H140:Hid (∀W,Cs 140 #[.agg #[iv x.fr,iv x.en,iv x.lo,iv x.hi,iv x.now],iv a] W (Rt W (iv rm))):=Lq fun W=>hrm▸rK x a W hxB
      have aJ:=Lq hrm;have HXB:=Lq (And.intro hxB (And.intro hxf hxe));clear hx hxB hxf hxe ae T s hrm qa qx hba hbx HSS HP0;by_cases hbut:(m:Int)=u
      ·have aL:((m:Int)==u)=true:=by simp[hbut]
       have H:Hid (aP u a (m+1) (z.drop (m+1)) E F=S):=by
        have h:=J.out;rw[aP,if_pos (by simp[bY,hbut])]at h
        exact Lq h
       clear hbut;go_wp2_with fail;go_roundw
       case rel=>exact⟨m+1,E,F,hlt,by go_num,by omega,H,HPX⟩
       case measure=>simp[intOf];omega
      have aL:((m:Int)==u)=false:=by simpa using hbut
      by_cases hno:a≠x.fr∧a≠x.en
      ·have K:((a:Int) != (x.fr:Int))=true:=by simp;omega
       have ao:((a:Int) != (x.en:Int))=true:=by simp;omega
       have H:Hid (aP u a (m+1) (z.drop (m+1)) E F=S):=by
        have h:=J.out;rw[aP,if_pos (by simp[bY,hno.1,hno.2])]at h
        exact Lq h
       clear hbut hno;go_wp2_with fail;go_roundw
       case rel=>exact⟨m+1,E,F,hlt,by go_num,by omega,H,HPX⟩
       case measure=>simp[intOf];omega
      have C:a=x.fr∨a=x.en:=by omega
      have B:Hid (∀yy ll vv W,dI w gb N g d W yy ll vv→Cs 139 #[iv m,iv a,pT gb 0] W (Rt W (iv (x.other a)))):=Lq fun yy ll vv W hP=>pF gb g b cap d m a js Y z x W ((HROW.out.below hP.bw).web hP.bx (HWB.out.keep hP.bw)) HX.out (by have:=HXB.out;omega) (by have:=HXB.out;omega) C
      have HE:=Lq C;have I:x.other a<d:=by have h:=HXB.out;unfold Ed.other;omega
      obtain⟨o,ho⟩:=ex (x.other a);rw[ho]at I B;have HO:=Lq ho;have HBN:=Lq (And.intro hbut hno);have ho0:=nn o;have hoz:(o:Int)<(d:Int):=by omega
      have az:∀(c:Bool),((decide (rm≤0))||decide (E.getD o 0≠0))=c→bY u a m x E=c:=fun c h=>by have h1:decide ((m:Int)=u)=false:=decide_eq_false HBN.out.1;have h2:decide (a≠x.fr∧a≠x.en)=false:=decide_eq_false HBN.out.2;unfold bY;rw[aJ.out,HO.out,h1,h2,←h];rfl
      have O:=Lq az;clear az hbut hno ho;have hcase:(((a:Int) != (x.fr:Int))=false)∨(((a:Int) != (x.fr:Int))=true∧((a:Int) != (x.en:Int))=false):=by
       by_cases h:a=x.fr
       ·left;simp[h]
       ·right;have h2:a=x.en:=by omega
        exact⟨by simp;omega,by simp[h2]⟩
      clear C;rcases hcase with K | ⟨K,ao⟩
      all_goals
       by_cases hr0:rm≤0
       ·have H:Hid (aP u a (m+1) (z.drop (m+1)) E F=S):=by
         have h:=J.out;rw[aP,if_pos (O.out true (by simp[hr0]))]at h
         exact Lq h
        go_wp2_with fail;refine(H140.out _).mono ?_;rintro e w3 ⟨rfl,D⟩;have HPY:=Lq (HPX.out.below D);clear D c0 c1 c2 c3 c4 f0 f1 f2 f3 f4 e0 e1 e2 e3 e4 el d0 d1 d2 d3 d4 hWa hWx hgx;go_wp2_with fail;go_roundw
        case rel=>exact⟨m+1,E,F,hlt,by go_num,by omega,H,HPY⟩
        case measure=>simp[intOf];omega
       ·by_cases hy0:E.getD o 0=0
        ·have H:Hid (aP u a (m+1) (z.drop (m+1)) (E.set o ((m:Int)+1)) (F++[o])=S):=by
          have h:=J.out;rw[aP,if_neg (by rw[O.out false (by rw[decide_eq_false hr0,decide_eq_false (fun h=>h hy0)];rfl)];decide),HO.out]at h
          exact Lq h
         have al:((0:Int) != 0)=false:=rfl;have aO:decide (rm≤0)=false:=decide_eq_false hr0;have HYO:=Lq hy0;have a5:IntKind.i64.wrap ((m:Int)+1)=(m:Int)+1:=by rw[IntKind.wrap_i64];omega
         clear hy0 hr0;go_wp2_with fail;refine(H140.out _).mono ?_;rintro e w3 ⟨rfl,D⟩;have HPY:=Lq (HPX.out.below D);have H139y:=Lq (B.out _ _ _ _ HPY.out);clear D c0 c1 c2 c3 c4 f0 f1 f2 f3 f4 e0 e1 e2 e3 e4 el d0 d1 d2 d3 d4 hWa hWx hgx;go_wp2_with fail;refine H139y.out.mono ?_;rintro e w4 ⟨rfl,hb4w⟩;have HPZ:=Lq (HPY.out.below hb4w);have G:=HPZ.out.by_at I;rw[HYO.out]at G;have H139z:=Lq (B.out _ _ _ _ HPZ.out);clear hb4w;go_wp2_with fail;refine H139z.out.mono ?_;rintro e w5 ⟨rfl,hb5w⟩;have HP5:=Lq (HPZ.out.below hb5w);clear G;have G:=HP5.out.by_at I;have hyf:=HP5.out.row.frozenAt o;have hyl:=(HP5.out.row.lt N rfl).2;obtain⟨Wm,hWm⟩:=ex (w5.setCell ⟨N,o,none⟩ (iv ((m:Int)+1)));have HPM:Hid (dI w gb N g d Wm (E.set o ((m:Int)+1)) (a::F) u14):=by have h:=HP5.out.mark o ((m:Int)+1);rw[hWm]at h;exact Lq h
         have ac:=Lq (B.out _ _ _ _ HPM.out);clear hb5w;go_wp2_with fail;clear G hyf hyl hWm;refine ac.out.mono ?_;rintro e w6 ⟨rfl,hb6w⟩;have HP6:=Lq (HPM.out.below hb6w);have HP7:=Lq (HP6.out.below (bA (bR w6) (.cells #[iv o] 3)));clear hb6w;go_wp2_with (at_builtin;refine xu rfl _ _ rfl w.heap.size _ (a::F) rfl HP7.out.q (by have:=HP7.out.bw.size;exact this) ⟨w6.heap.size,0,none⟩ 1 o rfl ?c1 ?c2 ?_)
         case c1=>exact fW w6 [iv o] 3 0 _ rfl
         case c2=>simp;omega
         intro v7 w7 hq hg hv;have HP8:=Lq (HP7.out.push hq hg (by simpa using hv) I)
         clear hq hg hv;go_wp2_with fail;go_roundw
         case rel=>exact⟨m+1,E.set o ((m:Int)+1),F++[o],hlt,by go_num,by simp;omega,H,by simpa using HP8⟩
         case measure=>simp[intOf];omega
        ·have H:Hid (aP u a (m+1) (z.drop (m+1)) E F=S):=by
          have h:=J.out;rw[aP,if_pos (O.out true (by rw[decide_eq_true (p:=E.getD o 0≠0) hy0,Bool.or_true]))]at h
          exact Lq h
         have al:(E.getD o 0 != 0)=true:=by simpa using hy0
         have aO:decide (rm≤0)=false:=decide_eq_false hr0;obtain⟨yo,hyo⟩:=ex (E.getD o 0);rw[hyo]at al;have HYO:=Lq hyo;clear hy0 hr0 hyo;go_wp2_with fail;refine(H140.out _).mono ?_;rintro e w3 ⟨rfl,D⟩;have HPY:=Lq (HPX.out.below D);have H139y:=Lq (B.out _ _ _ _ HPY.out);clear D c0 c1 c2 c3 c4 f0 f1 f2 f3 f4 e0 e1 e2 e3 e4 el d0 d1 d2 d3 d4 hWa hWx hgx;go_wp2_with fail;refine H139y.out.mono ?_;rintro e w4 ⟨rfl,hb4w⟩;have HPZ:=Lq (HPY.out.below hb4w);have G:=HPZ.out.by_at I;rw[HYO.out]at G;clear hb4w;go_wp2_with fail;go_roundw
         case rel=>exact⟨m+1,E,F,hlt,by go_num,by omega,H,HPZ⟩
         case measure=>simp[intOf];omega
    ·have ba:((a:Int) != (A:Int))=true:=by simp;omega
     have an:=Lq (HC.out a aD wr HP.out.bw);obtain⟨wa,hwa⟩:=ex (M a);have hwb:=HWT.out a aD;by_cases hw0:0<M a
     ·have aU:R=some (a,y):=by have h:=af.out;rw[cI,if_pos ⟨ha,hw0⟩]at h;injection h with h;exact h.symm
      obtain⟨lb,au,hk,ht,av⟩:∃l,cZ z y A (d+1) a=some l∧k=dU z (min V (M a)) l∧t=a∧ag=iu k z l:=by have h:=HEND.out;rw[aU]at h;exact h
      rw[hwa]at hwb hk hw0 an;have HK:=Lq hk;have HT:=Lq ht;have HE2:=Lq av;have HBK:=Lq au;have hgt:decide (0<wa)=true:=decide_eq_true hw0;clear aU au hk ht av hwa ha;go_wp2_with fail;rw[HCF.out,Oper.upon_enter];refine an.out.mono ?_;rintro e w3 ⟨rfl,rfl⟩;go_wp2_with fail;rw[HCF.out,Oper.upon_enter];refine an.out.mono ?_;rintro e w3 ⟨rfl,rfl⟩;go_wp2_with fail;obtain⟨k0,hk0e⟩:=ex (min V wa);have hkb:-9000000000000≤k0∧k0≤9000000000000:=by omega
      have aF:Hid (dU z k0 lb=k):=by rw[←hk0e];exact Lq HK.out.symm
      have aT:=Lq HP.out;rw[hk0e];clear hk0e an hgt hwb hw0 hcq
      go_loopg [16,10] (d+1) (fun f x kl wr=>∃(n:Nat) (L:Int) (l':List (Nat×Nat)),x=iv n∧kl=iv L∧n<d∧(-9000000000000≤L∧L≤9000000000000)∧Hid (cZ z y A f n=some l')∧Hid (dU z L l'=k)∧Hid (dI w gb N g d wr y (a::rest) (.slice (some ⟨gq,oq,none⟩) (rest.length+1) cq)))
      case atStart=>exact⟨a,k0,lb,rfl,rfl,aD,hkb,HBK,aF,aT⟩
      case round =>
       obtain⟨n,L,l1,rfl,rfl,aE,bm,Z,aH,s⟩:=hrel;cases gk with
       | zero=>exact absurd Z.out (by unfold cZ;simp)
       | succ f1 =>
        have a2:=nn n;have hnz:(n:Int)<(d:Int):=by omega
        by_cases hns:n=A
        ·have aM:((n:Int) != (A:Int))=false:=by simp[hns]
         have aZ:L=k:=by have h:=aH.out;rw[xU Z.out hns]at h;exact h
         subst aZ;clear hns;have a8:Hid (ig w base gb N g b cap d js Y y wr z):=Lq ⟨s.out.row,s.out.bx,HWB.out.keep s.out.bw,HROW.out.below s.out.bw,ai.of_below s.out.bw b,s.out.len⟩;have HGO:Hid (iu L z lb=ag):=Lq HE2.out.symm;have HNB:Hid (kQ (d+1-(d+1)) z z):=by rw[Nat.sub_self];exact Lq (kQ.zero HES.out)
         clear HE2 HK aH Z s aF aT;go_wp2_with fail
         go_loopg [18] (d+1) (fun f x wr=>∃(n:Nat) (es2:List Ed) (l':List (Nat×Nat)),x=iv n∧n<d∧f≤d+1∧Hid (cZ z y A f n=some l')∧Hid (iu L es2 l'=ag)∧Hid (kQ (d+1-f) z es2)∧Hid (ig w base gb N g b cap d js Y y wr es2))
         case atStart=>exact⟨a,z,lb,rfl,aD,lr _,HBK,HGO,HNB,a8⟩
         case round =>
          obtain⟨n,es2,l1,rfl,aE,bj,Z,aR,aI,s⟩:=hrel;cases gk with
          | zero=>exact absurd Z.out (by unfold cZ;simp)
          | succ f1 =>
           have a2:=nn n;have hnz:(n:Int)<(d:Int):=by omega
           by_cases hns:n=A
           ·have aM:((n:Int) != (A:Int))=false:=by simp[hns]
            have ab:es2=ag:=by have h:=aR.out;rw[xU Z.out hns]at h;exact h
            have a6:=Lq ab;clear ab hns;go_wp2_with fail
            go_ret2
            exact⟨by rw[HT.out];rfl,s.out.on,by rw[←a6.out];exact s.out.ed⟩
           ·have aM:((n:Int) != (A:Int))=true:=by simp;omega
            obtain⟨i,e,F,aB,U,C,K,ap⟩:=xV Z.out hns;obtain⟨v,he2,hv1,hv2⟩:=aI.out.2 i e U;obtain⟨heB,hef,ab⟩:=kM (List.all_eq_true.1 HES.out e (List.mem_of_getElem? U)) (by omega)
            have bc:i<es2.length:=(lG he2);have hl2:=aI.out.1;have G:=s.out.by_at aE;rw[aB]at G;have hw1:IntKind.i64.wrap ((i:Int)+1-1)=(i:Int):=by rw[IntKind.wrap_i64];omega
            have bb:=nn i;have hiz:(i:Int)<(es2.length:Int):=by omega
            have B:Hid (∀W,BW wr W→Cs 139 #[iv i,iv n,pT gb 0] W (Rt W (iv (e.other n)))):=Lq fun W hb=>pF gb g b cap d i n js Y es2 { e with now:=v } W (s.out.web.below hb) he2 (show e.fr<8 by omega) (show e.en<8 by omega) C
            have I:e.other n<d:=sG C hef ab;obtain⟨o,ho⟩:=ex (e.other n);rw[ho]at I B K ap;have hnc:((d+1-(f1+1):Nat):Int)≤7:=by omega
            have bg:-100000000000000≤v∧v≤100000000000000:=by omega
            have bn:IntKind.i64.wrap (v+L)=v+L:=by rw[IntKind.wrap_i64];omega
            have a5:IntKind.i64.wrap (v-L)=v-L:=by rw[IntKind.wrap_i64];omega
            have aC:=Lq K;have HL1:=Lq ap;have HEI:=Lq he2;clear hns aB U C K ap heB hef ab ho he2 hv1 hv2 hnc bg;go_wp2_with fail;refine(B.out _ (bR _)).mono ?_;rintro e9 w9 ⟨rfl,hb9⟩;have HPX:=Lq (s.out.below hb9);obtain⟨x0,z0⟩:w9.cell? ⟨gb,0,none⟩=some (pT g 0)∧cA w9 g 0 (.slice (some ⟨b,0,none⟩) es2.length cap):=⟨HPX.out.bx.c 0,HPX.out.wb.c 0⟩;obtain⟨c0, -, -, -,c4⟩:=HPX.out.web.at HEI.out;have cf:=HPX.out.ed.frozen (i*5+4);have cl:=HPX.out.ed.lt;simp only at c0 c4;clear hb9 G;have HNX:Hid (kQ (d+1-f1) z (ft L es2 (i,o))):=by
             have h:=aI.out.step (k:=L) (i:=i) (o:=o) (by omega)
             have hc:d+1-(f1+1)+1=d+1-f1:=by omega
             rw[hc]at h;exact Lq h
            have aS:Hid (iu L (ft L es2 (i,o)) F=ag):=by have h:=aR.out;rw[HL1.out,F2]at h;exact Lq h
            by_cases hoe:o=e.fr
            ·have bf:((o:Int)==(e.fr:Int))=true:=by simp[hoe]
             obtain⟨Wn,aK⟩:=ex (w9.setCell ⟨b,i*5+4,none⟩ (iv (v+L)));have HPN:Hid (ig w base gb N g b cap d js Y y Wn (ft L es2 (i,o))):=by rw[xW HEI.out];simp only[if_pos hoe];rw[←aK];exact Lq (HPX.out.put HEI.out (v+L))
             clear hoe;go_wp2_with fail
             go_roundg f1
             case measure=>omega
             case rel=>exact⟨o,ft L es2 (i,o),F,rfl,I,by omega,aC,aS,HNX,HPN⟩
            ·have bf:((o:Int)==(e.fr:Int))=false:=by simp;omega
             obtain⟨Wn,aK⟩:=ex (w9.setCell ⟨b,i*5+4,none⟩ (iv (v-L)));have HPN:Hid (ig w base gb N g b cap d js Y y Wn (ft L es2 (i,o))):=by rw[xW HEI.out];simp only[if_neg hoe];rw[←aK];exact Lq (HPX.out.put HEI.out (v-L))
             clear hoe;go_wp2_with fail
             go_roundg f1
             case measure=>omega
             case rel=>exact⟨o,ft L es2 (i,o),F,rfl,I,by omega,aC,aS,HNX,HPN⟩
        ·have aM:((n:Int) != (A:Int))=true:=by simp;omega
         obtain⟨i,e,F,aB,U,C,K,ap⟩:=xV Z.out hns;have bc:i<z.length:=(lG U);obtain⟨heB,hef,ab⟩:=kM (List.all_eq_true.1 HES.out e (List.mem_of_getElem? U)) (by omega)
         have G:=s.out.by_at aE;rw[aB]at G;have hw1:IntKind.i64.wrap ((i:Int)+1-1)=(i:Int):=by rw[IntKind.wrap_i64];omega
         have bb:=nn i;have hiz:(i:Int)<(z.length:Int):=by omega
         have T:=Lq ((HROW.out.below s.out.bw).web s.out.bx (HWB.out.keep s.out.bw));have B:Hid (∀W,BW wr W→Cs 139 #[iv i,iv n,pT gb 0] W (Rt W (iv (e.other n)))):=Lq fun W hb=>pF gb g b cap d i n js Y z e W (T.out.below hb) U (by omega) (by omega) C
         have I:e.other n<d:=sG C hef ab;have hrb:-9000000000000≤e.room (e.other n)∧e.room (e.other n)≤9000000000000:=by unfold Ed.room;have:=heB.lo;have:=heB.hi;have:=heB.now;split<;>omega
         have aq:Hid (dU z (min L (e.room (e.other n))) F=k):=by have h:=aH.out;rw[ap,F1 U]at h;exact Lq h
         obtain⟨o,ho⟩:=ex (e.other n);rw[ho]at I B hrb aq K;obtain⟨rm,hrm⟩:=ex (e.room o);have H140:Hid (∀W,Cs 140 #[.agg #[iv e.fr,iv e.en,iv e.lo,iv e.hi,iv e.now],iv o] W (Rt W (iv rm))):=Lq fun W=>hrm▸rK e o W heB
         rw[hrm]at hrb aq;have aC:=Lq K;have HSA:Hid (∀W,BW wr W→cA W gb 0 (pT g 0)∧cA W g 0 (.slice (some ⟨b,0,none⟩) z.length cap)∧cA W b (i*5) (iv e.fr)∧cA W b (i*5+1) (iv e.en)∧cA W b (i*5+2) (iv e.lo)∧cA W b (i*5+3) (iv e.hi)∧cA W b (i*5+4) (iv e.now)):=Lq fun W hb=>⟨(T.out.below hb).bx,(T.out.below hb).wb.c 0,(T.out.below hb).at U⟩
         have a7:Hid (-9000000000000≤min L rm∧min L rm≤9000000000000):=Lq (by omega)
         clear hns aB U C K ap heB hef ab ho hrm hrb;go_upto_region 14 with fail
         refine gd (ops:=F6) (r:=14) (n:=15) (S:=fun W=>cA W gb 0 (pT g 0)∧cA W g 0 (.slice (some ⟨b,0,none⟩) z.length cap)∧cA W b (i*5) (iv e.fr)∧cA W b (i*5+1) (iv e.en)∧cA W b (i*5+2) (iv e.lo)∧cA W b (i*5+3) (iv e.hi)∧cA W b (i*5+4) (iv e.now)) HSA.out fun V0 HB0 hHeld=>?_
         refine tk 0 (iv L) ?_;refine tk 1 (pT g 0) ?_;refine tk 2 (pT g 0) ?_;refine tk 3 (pT g 0) ?_;refine tk 4 (.slice (some ⟨b,0,none⟩) z.length cap) ?_;refine tk 5 (iv i) ?_;refine tk 6 (pT b (i*5)) ?_;refine tk 7 (.agg #[iv e.fr,iv e.en,iv e.lo,iv e.hi,iv e.now]) ?_;refine tk 8 (.func (.func 139) #[] #[pT gb 0]) ?_;refine tk 9 (iv i) ?_;refine tk 10 (iv n) ?_;refine rd1 11 fun K' hK=>?_
         go_simp;refine(B.out _ HB0.out).mono ?_;rintro e7 w7 ⟨rfl,aV⟩;have HB7:=Lq (bT HB0.out aV);refine hK.out _ _ (HSA.out _ HB7.out) (fun hHeld=>?_)
         clear hK aV;refine rd1 12 fun K' hK=>?_
         go_simp;refine(H140.out _).mono ?_;rintro e8 w8 ⟨rfl,aW⟩;have HB8:=Lq (bT HB7.out aW);refine hK.out _ _ (HSA.out _ HB8.out) (fun hHeld=>?_)
         clear hK aW;refine tk 13 (iv (min L rm)) ?_;refine tk 14 (iv (min L rm)) ?_;refine dn ?_;clear hHeld HSA;have al:=(s.out.below HB8.out).by_at aE;have hyc:=kC HB8.out G;clear G al;go_wp2_with fail;refine(B.out _ HB8.out).mono ?_;rintro e9 w9 ⟨rfl,hb9⟩;have HPX:=Lq (s.out.below (bT HB8.out hb9));clear hb9 hyc;go_wp2_with fail
         go_roundg f1
         case measure=>omega
         case rel=>exact⟨o,min L rm,F,rfl,rfl,I,a7.out,aC,aq,HPX⟩
     ·have bh:decide (0<M a)=false:=decide_eq_false hw0;have X:=af.out;rw[cI,if_neg (fun h=>hw0 h.2)]at X
      rw[hwa]at bh an;clear ha hw0 hwa;obtain⟨S,hS⟩:=ex (aP u a 0 z y rest);rw[hS]at X;have HSS:=Lq hS;have HS2:=Lq X;have HP0:=Lq HP.out;obtain⟨x0,z0⟩:wr.cell? ⟨gb,0,none⟩=some (pT g 0)∧cA wr g 0 (.slice (some ⟨b,0,none⟩) z.length cap):=⟨HP.out.bx.c 0,(HWB.out.keep HP.out.bw).c 0⟩;clear hS X af HP;go_wp2_with fail;rw[HCF.out,Oper.upon_enter];refine an.out.mono ?_;rintro e w3 ⟨rfl,rfl⟩;go_wp2_with fail;clear x0 z0 hcq;go_loopw [142,14] (fun i v' wr'=>∃(m:Nat) (y':List Int) (l':List Nat),m≤z.length∧i=iv m∧l'.length+1+(f+1)*1000≤8001+m∧Hid (aP u a m (z.drop m) y' l'=S)∧Hid (dI w gb N g d wr' y' (a::l') v')) (fun i _ _=>z.length-(intOf i).toNat)
      case atStart=>exact⟨0,y,rest,Nat.zero_le _,rfl,by simp at a0;omega,HSS,HP0⟩
      case round =>
       obtain⟨m,E,F,hm,rfl,a1,ae,s⟩:=hrel;have hm0:=nn m;by_cases hlt:m<z.length
       case neg =>
        obtain rfl:m=z.length:=by omega
        obtain⟨gq,oq,cq,rfl, -,a3,aw, -,aj,ak⟩:=s.out.q.front;have hSe:(E,F)=S:=by have h:=ae.out;rw[List.drop_length]at h;exact h
        have ar:=Lq hSe;unfold maxLen at aw;by_cases hc1:cq=1
        ·subst hc1;have ad:=Lq (s.out.pop (aj rfl) rfl);have hl0:F.length=0:=by omega
         clear aj ak hSe;go_wp2_with fail
         go_roundg f
         case measure=>omega
         case rel=>exact⟨E,F,by omega,by rw[←ar.out]at HS2;exact HS2,by simpa[hl0]using ad⟩
        ·have ad:=Lq (s.out.pop ak rfl);clear aj ak hSe;go_wp2_with fail
         go_roundg f
         case measure=>omega
         case rel=>exact⟨E,F,by omega,by rw[←ar.out]at HS2;exact HS2,by simpa using ad⟩
       have be:(m:Int)<(z.length:Int):=by omega
       obtain⟨x,hx⟩:=gX (l:=z) (i:=m) hlt;obtain⟨hxB,hxf,hxe⟩:=kM (List.all_eq_true.1 HES.out x (List.mem_of_getElem? hx)) (by omega)
       have J:Hid (aP u a m (x::z.drop (m+1)) E F=S):=by have h:=ae.out;rw[List.drop_eq_getElem_cons hlt,(List.getElem?_eq_some_iff.1 hx).2]at h;exact Lq h
       have T:=Lq ((HROW.out.below s.out.bw).web s.out.bx (HWB.out.keep s.out.bw));obtain⟨c0,c1,c2,c3,c4⟩:=T.out.at hx;obtain⟨Wa,Wx,hWa,hWx,hbx,qa,hba,qx⟩:=pQ wr 154 x (iv 0) (iv 0) (iv 0) (iv 0) (iv 0);obtain⟨gx,hgx⟩:=ex wr.heap.size;rw[hgx]at hWx qa qx;obtain⟨f0,f1,f2,f3,f4⟩:=qa.f5;obtain⟨e0,e1,e2,e3,e4⟩:=qa.c5;have el:=qa.lt;obtain⟨d0,d1,d2,d3,d4⟩:=qx.c5;have HPX:=Lq (s.out.below hbx);have HX:=Lq hx;obtain⟨rm,hrm⟩:=ex (x.room a);have H140:Hid (∀W,Cs 140 #[.agg #[iv x.fr,iv x.en,iv x.lo,iv x.hi,iv x.now],iv a] W (Rt W (iv rm))):=Lq fun W=>hrm▸rK x a W hxB
       have aJ:=Lq hrm;have HXB:=Lq (And.intro hxB (And.intro hxf hxe));clear hx hxB hxf hxe ae T s hrm qa qx hba hbx HSS HP0;by_cases hbut:(m:Int)=u
       ·have aL:((m:Int)==u)=true:=by simp[hbut]
        have H:Hid (aP u a (m+1) (z.drop (m+1)) E F=S):=by
         have h:=J.out;rw[aP,if_pos (by simp[bY,hbut])]at h
         exact Lq h
        clear hbut;go_wp2_with fail;go_roundw
        case rel=>exact⟨m+1,E,F,hlt,by go_num,by omega,H,HPX⟩
        case measure=>simp[intOf];omega
       have aL:((m:Int)==u)=false:=by simpa using hbut
       by_cases hno:a≠x.fr∧a≠x.en
       ·have K:((a:Int) != (x.fr:Int))=true:=by simp;omega
        have ao:((a:Int) != (x.en:Int))=true:=by simp;omega
        have H:Hid (aP u a (m+1) (z.drop (m+1)) E F=S):=by
         have h:=J.out;rw[aP,if_pos (by simp[bY,hno.1,hno.2])]at h
         exact Lq h
        clear hbut hno;go_wp2_with fail;go_roundw
        case rel=>exact⟨m+1,E,F,hlt,by go_num,by omega,H,HPX⟩
        case measure=>simp[intOf];omega
       have C:a=x.fr∨a=x.en:=by omega
       have B:Hid (∀yy ll vv W,dI w gb N g d W yy ll vv→Cs 139 #[iv m,iv a,pT gb 0] W (Rt W (iv (x.other a)))):=Lq fun yy ll vv W hP=>pF gb g b cap d m a js Y z x W ((HROW.out.below hP.bw).web hP.bx (HWB.out.keep hP.bw)) HX.out (by have:=HXB.out;omega) (by have:=HXB.out;omega) C
       have HE:=Lq C;have I:x.other a<d:=by have h:=HXB.out;unfold Ed.other;omega
       obtain⟨o,ho⟩:=ex (x.other a);rw[ho]at I B;have HO:=Lq ho;have HBN:=Lq (And.intro hbut hno);have ho0:=nn o;have hoz:(o:Int)<(d:Int):=by omega
       have az:∀(c:Bool),((decide (rm≤0))||decide (E.getD o 0≠0))=c→bY u a m x E=c:=fun c h=>by have h1:decide ((m:Int)=u)=false:=decide_eq_false HBN.out.1;have h2:decide (a≠x.fr∧a≠x.en)=false:=decide_eq_false HBN.out.2;unfold bY;rw[aJ.out,HO.out,h1,h2,←h];rfl
       have O:=Lq az;clear az hbut hno ho;have hcase:(((a:Int) != (x.fr:Int))=false)∨(((a:Int) != (x.fr:Int))=true∧((a:Int) != (x.en:Int))=false):=by
        by_cases h:a=x.fr
        ·left;simp[h]
        ·right;have h2:a=x.en:=by omega
         exact⟨by simp;omega,by simp[h2]⟩
       clear C;rcases hcase with K | ⟨K,ao⟩
       all_goals
        by_cases hr0:rm≤0
        ·have H:Hid (aP u a (m+1) (z.drop (m+1)) E F=S):=by
          have h:=J.out;rw[aP,if_pos (O.out true (by simp[hr0]))]at h
          exact Lq h
         go_wp2_with fail;refine(H140.out _).mono ?_;rintro e w3 ⟨rfl,D⟩;have HPY:=Lq (HPX.out.below D);clear D c0 c1 c2 c3 c4 f0 f1 f2 f3 f4 e0 e1 e2 e3 e4 el d0 d1 d2 d3 d4 hWa hWx hgx;go_wp2_with fail;go_roundw
         case rel=>exact⟨m+1,E,F,hlt,by go_num,by omega,H,HPY⟩
         case measure=>simp[intOf];omega
        ·by_cases hy0:E.getD o 0=0
         ·have H:Hid (aP u a (m+1) (z.drop (m+1)) (E.set o ((m:Int)+1)) (F++[o])=S):=by
           have h:=J.out;rw[aP,if_neg (by rw[O.out false (by rw[decide_eq_false hr0,decide_eq_false (fun h=>h hy0)];rfl)];decide),HO.out]at h
           exact Lq h
          have al:((0:Int) != 0)=false:=rfl;have aO:decide (rm≤0)=false:=decide_eq_false hr0;have HYO:=Lq hy0;have a5:IntKind.i64.wrap ((m:Int)+1)=(m:Int)+1:=by rw[IntKind.wrap_i64];omega
          clear hy0 hr0;go_wp2_with fail;refine(H140.out _).mono ?_;rintro e w3 ⟨rfl,D⟩;have HPY:=Lq (HPX.out.below D);have H139y:=Lq (B.out _ _ _ _ HPY.out);clear D c0 c1 c2 c3 c4 f0 f1 f2 f3 f4 e0 e1 e2 e3 e4 el d0 d1 d2 d3 d4 hWa hWx hgx;go_wp2_with fail;refine H139y.out.mono ?_;rintro e w4 ⟨rfl,hb4w⟩;have HPZ:=Lq (HPY.out.below hb4w);have G:=HPZ.out.by_at I;rw[HYO.out]at G;have H139z:=Lq (B.out _ _ _ _ HPZ.out);clear hb4w;go_wp2_with fail;refine H139z.out.mono ?_;rintro e w5 ⟨rfl,hb5w⟩;have HP5:=Lq (HPZ.out.below hb5w);clear G;have G:=HP5.out.by_at I;have hyf:=HP5.out.row.frozenAt o;have hyl:=(HP5.out.row.lt N rfl).2;obtain⟨Wm,hWm⟩:=ex (w5.setCell ⟨N,o,none⟩ (iv ((m:Int)+1)));have HPM:Hid (dI w gb N g d Wm (E.set o ((m:Int)+1)) (a::F) u14):=by have h:=HP5.out.mark o ((m:Int)+1);rw[hWm]at h;exact Lq h
          have ac:=Lq (B.out _ _ _ _ HPM.out);clear hb5w;go_wp2_with fail;clear G hyf hyl hWm;refine ac.out.mono ?_;rintro e w6 ⟨rfl,hb6w⟩;have HP6:=Lq (HPM.out.below hb6w);have HP7:=Lq (HP6.out.below (bA (bR w6) (.cells #[iv o] 3)));clear hb6w;go_wp2_with (at_builtin;refine xu rfl _ _ rfl w.heap.size _ (a::F) rfl HP7.out.q (by have:=HP7.out.bw.size;exact this) ⟨w6.heap.size,0,none⟩ 1 o rfl ?c1 ?c2 ?_)
          case c1=>exact fW w6 [iv o] 3 0 _ rfl
          case c2=>simp;omega
          intro v7 w7 hq hg hv;have HP8:=Lq (HP7.out.push hq hg (by simpa using hv) I)
          clear hq hg hv;go_wp2_with fail;go_roundw
          case rel=>exact⟨m+1,E.set o ((m:Int)+1),F++[o],hlt,by go_num,by simp;omega,H,by simpa using HP8⟩
          case measure=>simp[intOf];omega
         ·have H:Hid (aP u a (m+1) (z.drop (m+1)) E F=S):=by
           have h:=J.out;rw[aP,if_pos (O.out true (by rw[decide_eq_true (p:=E.getD o 0≠0) hy0,Bool.or_true]))]at h
           exact Lq h
          have al:(E.getD o 0 != 0)=true:=by simpa using hy0
          have aO:decide (rm≤0)=false:=decide_eq_false hr0;obtain⟨yo,hyo⟩:=ex (E.getD o 0);rw[hyo]at al;have HYO:=Lq hyo;clear hy0 hr0 hyo;go_wp2_with fail;refine(H140.out _).mono ?_;rintro e w3 ⟨rfl,D⟩;have HPY:=Lq (HPX.out.below D);have H139y:=Lq (B.out _ _ _ _ HPY.out);clear D c0 c1 c2 c3 c4 f0 f1 f2 f3 f4 e0 e1 e2 e3 e4 el d0 d1 d2 d3 d4 hWa hWx hgx;go_wp2_with fail;refine H139y.out.mono ?_;rintro e w4 ⟨rfl,hb4w⟩;have HPZ:=Lq (HPY.out.below hb4w);have G:=HPZ.out.by_at I;rw[HYO.out]at G;clear hb4w;go_wp2_with fail;go_roundw
          case rel=>exact⟨m+1,E,F,hlt,by go_num,by omega,H,HPZ⟩
          case measure=>simp[intOf];omega
noncomputable def F7:Array Oper:=aU (aF Tryz.f74 5)
noncomputable def F8:Array Oper:=aU (aF Tryz.f74 6)
theorem yg(g b cap a f:Nat)(M:Value)(u:Int)(d:List Ed)(base:Nat)(X:Bool)(C:List Ed)(w:World)(hW:aa w g 89 #[.slice (some ⟨b,0,none⟩) d.length cap,iv a,M,iv u])(hR:cx base w b cap d)(ak:d.all (bP a)=true)(hn:a≤6)(aA:d.length≤1000)(Z:dW a f d=some (X,C)) :
  Cs 74 #[pT g 0] w fun e w'=>e=.returned (.bool X)∧ai w w' b∧cx base w' b cap C:=by
 have ad:=Lq hR;have HWB:=Lq hW;have HES:=Lq ak;have HP:=Lq Z;have x1:=hW.c 1;have hgl:=hW.lt;obtain⟨i3,hi3,hz,hz',hzb⟩:=info_parts Tryz.info3q;have hbig:(a:Int)<9223372036854775808:=by omega
 clear Z ak hR hW;go_enter Tryz.func74,Tryz.ntmps74
 go_wp2_with (at_make;refine wpList_make_full _ rfl _ _ 48 rfl w.heap.size 3 i3 _ 1 Tryz.underlying48 hi3 hz hz' .i64 .i64 _ _ a rfl rfl rfl rfl ?m1 ?m2 ?m3 ?_)
 case m1=>rw[hzb];omega
 case m2=>unfold maxLen;omega
 case m3=>exact lr _
 intro w2 U F;have hmk:w2.ownsRow w.heap.size 3 1 (.slice (some ⟨w.heap.size,0,none⟩) a a) a ((List.replicate a (0:Int)).map iv):=by
  have h:=U;have e:=sr a;rw[Nat.mul_one]at e
  rwa [e]at h
 have N:BW w w2:=⟨F.os,F.tape,F.output,F.size,fun j hj=>F.block j hj (by simp)⟩
 obtain⟨go,L⟩:=ex w.heap.size;have hgo2:w.heap.size≤go:=Nat.le_of_eq L;obtain⟨W3,hW3,b23⟩:=nA w2 (.cells #[.slice none 0 0] 48);obtain⟨g3,hg3⟩:=ex w2.heap.size;obtain⟨W4,hW4⟩:=ex (W3.setCell ⟨g3,0,none⟩ (.slice (some ⟨go,0,none⟩) a a));have q3:aa W3 g3 48 #[.slice none 0 0]:=by rw[←hW3,←hg3];exact aa.new w2 48 _
 have am:w2.heap.size≤g3:=Nat.le_of_eq hg3;have b24:BW w2 W4:=by rw[←hW4];exact aH b23 am (p:=⟨g3,0,none⟩) _
 have q4:aa W4 g3 48 #[.slice (some ⟨go,0,none⟩) a a]:=by rw[←hW4];have h:=q3.set_ 0 (.slice (some ⟨go,0,none⟩) a a);simpa using h
 have q:Hid (fy w base g3 go g b cap a M u W4 (List.replicate a 0) d):=by rw[L]at hmk;refine Lq ⟨q4,aN (by rw[←L]at hmk ⊢;exact hmk) b24,HWB.out.keep (bT N b24),ad.out.below (bT N b24),ai.of_below (bT N b24) b,by simp⟩
 obtain⟨c3,f3,l3⟩:_∧_∧_:=⟨q3.c 0,q3.frozen 0,q3.lt⟩;have y0:=q.out.wb.c 0;have y3:=q.out.bx.c 0;rw[L];clear U F hmk N hi3 hz hz' hzb q3 b23 b24 q4 x1 hgl L;go_wp2_with fail;clear c3 f3 l3 y0 y3 hW3 hW4 hg3;have z:Hid (d.foldl lK (List.replicate a 0)=ly a d):=Lq (F4 a d).symm;have A:Hid (lL 0 (List.replicate a 0)):=Lq (lL.zero a);go_loopw [19] (fun i wr=>∃(m:Nat) (o:List Int),m≤d.length∧i=iv m∧Hid ((d.drop m).foldl lK o=ly a d)∧Hid (lL m o)∧Hid (fy w base g3 go g b cap a M u wr o d)) (fun i _=>d.length-(intOf i).toNat)
 case atStart=>exact⟨0,_,Nat.zero_le _,rfl,z,A,q⟩
 case round =>
  clear q z A;obtain⟨m,o,hm,rfl,z,A,q⟩:=hrel;have hm0:=nn m;by_cases hlt:m<d.length
  case neg =>
   obtain rfl:m=d.length:=by omega
   have ab:Hid (o=ly a d):=by have h:=z.out;rw[List.drop_length]at h;exact Lq h
   have D:Hid (cG a f ((List.range a).drop 0) o d=some (X,C)):=by have h:=HP.out;unfold dW at h;rw[←ab.out]at h;exact Lq h
   have y3:=q.out.bx.c 0;clear ab z A;go_wp2_with fail;clear y3;go_loopw [44] (fun i wr=>∃(m:Nat) (o:List Int) (es2:List Ed),m≤a∧i=iv m∧es2.length=d.length∧Hid (cG a f ((List.range a).drop m) o es2=some (X,C))∧Hid (fy w base g3 go g b cap a M u wr o es2)) (fun i _=>a-(intOf i).toNat)
   case atStart=>exact⟨0,o,d,Nat.zero_le _,rfl,rfl,D,q⟩
   case round =>
    clear q D;obtain⟨m,o,es2,hm,rfl,G,D,q⟩:=hrel;have hm0:=nn m;by_cases hlt:m<a
    case neg =>
     obtain rfl:m=a:=by omega
     have h:X=true∧C=es2:=by
      have h:=D.out;rw[List.drop_eq_nil_of_le (by simp),cG]at h
      injection h with h
      injection h with h1 h2
      exact⟨h1.symm,h2.symm⟩
     obtain⟨rfl,rfl⟩:=h;go_wp2_with fail;go_ret
     exact⟨rfl,q.out.on,q.out.ed⟩
    have aw:(m:Int)<(a:Int):=by omega
    have aj:(List.range a).drop m=m::(List.range a).drop (m+1):=by
     rw[List.drop_eq_getElem_cons (by simpa using hlt)]
     simp
    obtain⟨b1,o1,ah,al,K⟩:=ya (by have h:=D.out;rw[aj]at h;exact h)
    have J:=Lq al;have HCASE:=Lq K;clear aj al K D;go_wp2_with fail
    go_loopg [] f (fun f' wr=>∃(o:List Int) (es2:List Ed),es2.length=d.length∧Hid (fP a m f' o es2=some (b1,o1,ah))∧Hid (fy w base g3 go g b cap a M u wr o es2))
    case atStart=>exact⟨o,es2,G,J,q⟩
    case round =>
     clear q J G;obtain⟨o,es2,G,J,q⟩:=hrel;cases gk with
     | zero=>exact absurd J.out (by unfold fP;simp)
     | succ f1 =>
      obtain⟨I,y⟩:=ex (o.getD m 0);have y3:=q.out.bx.c 0;have ym:=q.out.o_at hlt;rw[y]at ym;rcases xZ J.out with⟨hle,hr⟩ | ⟨hgt,hes2,hsm,k,t,es3,Z,hnext⟩
      ·rw[y]at hle;have hd:decide (0<I)=false:=decide_eq_false (by omega)
       injection hr with hb1 hr
       injection hr with ho1 hr
       have ap:Hid (cG a f ((List.range a).drop (m+1)) o es2=some (X,C)):=by
        rcases HCASE.out with⟨h,_⟩ | ⟨_,h⟩
        ·rw[hb1]at h;cases h
        ·rw[ho1,hr]at h;exact Lq h
       clear hle hb1 hr ho1 y;go_wp2_with fail;go_roundw
       case rel=>exact⟨m+1,o,es2,hlt,by go_num,G,ap,q⟩
       case measure=>simp[intOf];omega
      ·have Y:=sI Z hes2 hlt (by have:=hsm m;omega) (fun n _=>by have:=hsm n;omega)
       obtain⟨az,au,av,an⟩:=Y;rw[y]at hgt Z;have hd:decide (0<I)=true:=decide_eq_true hgt;have homb:=hsm m;rw[y]at homb;have HCALL:=Lq (ye g b cap a m M u I (-1) es2 base 138 #[pT g3 0] (fun n=>- o.getD n 0) k t es3 wr q.out.wb q.out.ed hes2 hn (by omega) hlt (by omega) (fun n _=>by have:=hsm n;omega)
        (fun n ao W H=>FP n a a g3 go (o.getD n 0) W ((q.out.below H).bx.c 0) ((q.out.below H).o_at ao) ao (by have:=hsm n;omega)) (fun _ _=>rfl) Z)
       have ag:=Lq hsm;have HNEXT:=Lq hnext;have HL3:=Lq (an.trans G);clear hgt hes2 hsm Z hnext an;go_wp2_with fail;clear y3 ym;refine HCALL.out.mono ?_;rintro e w5 ⟨rfl,ho5,he5⟩;have HI5:=Lq (q.out.pushed ho5 he5 (by rw[HL3.out,G]))
       clear ho5 he5 HCALL q;by_cases hk0:k=0
       ·have Y:(k==0)=true:=by simp[hk0]
        have h:X=false∧C=es3:=by
         rcases HNEXT.out with⟨_,h⟩ | ⟨h,_⟩
         ·injection h with h1 h2
          injection h2 with h2 h3
          rcases HCASE.out with⟨_,h⟩ | ⟨h,_⟩
          ·injection h with h4 h5
           exact⟨h4,h5.trans h3⟩
          ·rw[h1]at h;cases h
         ·exact absurd hk0 h
        obtain⟨rfl,rfl⟩:=h;clear hk0;go_wp2_with fail;go_ret
        exact⟨rfl,HI5.out.on,HI5.out.ed⟩
       ·have Y:(k==0)=false:=by simpa using hk0
        have T:Hid (fP a m f1 ((o.set m (I-k)).set t ((o.set m (I-k)).getD t 0+k)) es3=some (b1,o1,ah)):=by
         rcases HNEXT.out with⟨h,_⟩ | ⟨_,h⟩
         ·exact absurd h hk0
         ·rw[y]at h;exact Lq h
        have aE:=nn t;have htz:(t:Int)<(a:Int):=by omega
        have aF:IntKind.i64.wrap (I-k)=I-k:=by rw[IntKind.wrap_i64];omega
        obtain⟨ot,O⟩:=ex ((o.set m (I-k)).getD t 0);have hotb:-20000000000000≤ot∧ot≤20000000000000:=by rw[←O,oE];have:=ag.out t;split<;>omega
        have aG:IntKind.i64.wrap (ot+k)=ot+k:=by rw[IntKind.wrap_i64];omega
        have y5:=HI5.out.bx.c 0;have c5:=HI5.out.o_at hlt;rw[y]at c5;have f5:=HI5.out.row.frozenAt m;have l5:=(HI5.out.row.lt go rfl).2;obtain⟨W15,hW15⟩:=ex (w5.setCell ⟨go,m,none⟩ (iv (I-k)));have HI15:Hid (fy w base g3 go g b cap a M u W15 (o.set m (I-k)) es3):=by have h:=HI5.out.put m (I-k);rw[hW15]at h;exact Lq h
        have aI:=HI15.out.bx.c 0;have c15:=HI15.out.o_at az;rw[O]at c15;have f15:=HI15.out.row.frozenAt t;have l15:=(HI15.out.row.lt go rfl).2;obtain⟨W16,hW16⟩:=ex (W15.setCell ⟨go,t,none⟩ (iv (ot+k)));have HI16:Hid (fy w base g3 go g b cap a M u W16 ((o.set m (I-k)).set t (ot+k)) es3):=by have h:=HI15.out.put t (ot+k);rw[hW16]at h;exact Lq h
        rw[O]at T;clear hk0 y O hotb homb au av;go_wp2_with fail
        go_roundg f1
        case measure=>omega
        case rel=>exact⟨_,es3,HL3.out,T,HI16⟩
  have aw:(m:Int)<(d.length:Int):=by omega
  obtain⟨x,hx⟩:=gX (l:=d) (i:=m) hlt;obtain⟨hxB,hxf,hxe⟩:=kM (List.all_eq_true.1 HES.out x (List.mem_of_getElem? hx)) (by omega)
  have B:Hid (x.fr<a∧x.en<a∧-4000000000000≤x.now∧x.now≤4000000000000):=Lq ⟨hxf,hxe,hxB.now.1,hxB.now.2⟩;have HBD:Hid (∀n:Nat, -8000000000000000≤o.getD n 0∧o.getD n 0≤8000000000000000):=Lq fun n=>by have h:=A.out n;omega
  have ac:Hid ((d.drop (m+1)).foldl lK (lK o x)=ly a d):=by have h:=z.out;rw[List.drop_eq_getElem_cons hlt,(List.getElem?_eq_some_iff.1 hx).2,List.foldl_cons]at h;exact Lq h
  have af:=Lq (A.out.step (e:=x) hxB.now);obtain⟨c0,c1,c2,c3,c4⟩:=q.out.ed.at hx;obtain⟨Wa,Wx,hWa,hWx,hbx,qa,hba,qx⟩:=pQ wr 154 x (iv 0) (iv 0) (iv 0) (iv 0) (iv 0);obtain⟨g5,hg5⟩:=ex wr.heap.size;rw[hg5]at hWx qa qx;obtain⟨f0,f1,f2,f3,f4⟩:=qa.f5;obtain⟨e0,e1,e2,e3,e4⟩:=qa.c5;have el:=qa.lt;have HIx:=Lq (q.out.below hbx);have s:=Lq qx;have hf0:(0:Int)≤(x.fr:Int):=by omega
  have aD:(x.fr:Int)<(a:Int):=by omega
  have aB:(0:Int)≤(x.en:Int):=by omega
  have aC:(x.en:Int)<(a:Int):=by omega
  clear hx hxB hxf hxe hbx qa hba qx z A q;obtain⟨V,R⟩:=ex (o.getD x.fr 0);have HS5:Hid (∀W,BW Wx W→(fun W=>cA W g3 0 (.slice (some ⟨go,0,none⟩) a a)∧cA W g5 0 (iv x.fr)∧cA W go (x.fr) (iv V)∧cA W g5 4 (iv x.now)) W):=Lq fun W H=>⟨(HIx.out.below H).bx.c 0,(s.out.keep H).c 0,by rw[←R];exact(HIx.out.below H).o_at B.out.1,(s.out.keep H).c 4⟩
  have aq:=Lq R;have hwv:IntKind.i64.wrap (V-x.now)=V-x.now:=by rw[IntKind.wrap_i64];have h1:=HBD.out x.fr;have h2:=B.out;rw[←R];omega
  clear R;go_upto_region 5 with fail
  clear f0 f1 f2 f3 f4 e0 e1 e2 e3 e4 el c0 c1 c2 c3 c4 hWa hWx hg5;refine cJ (late:=fun j=>j==9) (ops:=F7) (r:=5) (n:=10) (S:=fun W=>cA W g3 0 (.slice (some ⟨go,0,none⟩) a a)∧cA W g5 0 (iv x.fr)∧cA W go (x.fr) (iv V)∧cA W g5 4 (iv x.now)) HS5.out fun V0 HB0 hHeld=>?_
  refine ae 0 (.slice (some ⟨go,0,none⟩) a a) ?_;refine ae 1 (pT g5 0) ?_;refine ae 2 (iv x.fr) ?_;refine ae 3 (pT go (x.fr)) ?_;refine ae 4 (iv V) ?_;refine ae 5 (pT g5 4) ?_;refine ae 6 (iv x.now) ?_;refine ae 7 (iv (V-x.now)) ?_;refine ae 8 (pT go (x.fr)) ?_;refine bO 9 fun K' hK=>?_
  have E:=Lq (HIx.out.below HB0.out);have cj:=E.out.o_at B.out.1;have fj:=E.out.row.frozenAt x.fr;have lj:=(E.out.row.lt go rfl).2;obtain⟨W5,hWN⟩:=ex (V0.setCell ⟨go,x.fr,none⟩ (iv (V-x.now)));have HI5:Hid (fy w base g3 go g b cap a M u W5 (o.set x.fr (o.getD x.fr 0-x.now)) d):=by have h:=E.out.put x.fr (V-x.now);rw[hWN]at h;rw[aq.out];exact Lq h
  have v:Hid (aa W5 g5 154 #[iv x.fr,iv x.en,iv x.lo,iv x.hi,iv x.now]):=by have h:=s.out.keep HB0.out;rw[←hWN];exact Lq (h.far (fun e=>ax E.out.row h (by decide) (by rw[e];rfl)) _)
  go_simp;refine hK.out _ _ ?_;clear hK cj fj lj hHeld hWN E HS5 s HIx;refine dL ?_;have s:=v;clear v hwv;obtain⟨u6,hu6⟩:=ex ((o.set x.fr (o.getD x.fr 0-x.now)).getD x.en 0);have HS6:Hid (∀W,BW W5 W→(fun W=>cA W g3 0 (.slice (some ⟨go,0,none⟩) a a)∧cA W g5 1 (iv x.en)∧cA W go (x.en) (iv u6)∧cA W g5 4 (iv x.now)) W):=Lq fun W H=>⟨(HI5.out.below H).bx.c 0,(s.out.keep H).c 1,by rw[←hu6];exact(HI5.out.below H).o_at B.out.2.1,(s.out.keep H).c 4⟩
  have ar:=Lq hu6;have hwv:IntKind.i64.wrap (u6+x.now)=u6+x.now:=by rw[IntKind.wrap_i64];have h1:=HBD.out x.en;have h2:=B.out;rw[←hu6];rw[oE];have h3:=HBD.out x.fr;split<;>omega
  clear hu6;go_upto_region 6 with fail
  refine cJ (late:=fun j=>j==9) (ops:=F8) (r:=6) (n:=10) (S:=fun W=>cA W g3 0 (.slice (some ⟨go,0,none⟩) a a)∧cA W g5 1 (iv x.en)∧cA W go (x.en) (iv u6)∧cA W g5 4 (iv x.now)) HS6.out fun V0 HB0 hHeld=>?_
  refine ae 0 (.slice (some ⟨go,0,none⟩) a a) ?_;refine ae 1 (pT g5 1) ?_;refine ae 2 (iv x.en) ?_;refine ae 3 (pT go (x.en)) ?_;refine ae 4 (iv u6) ?_;refine ae 5 (pT g5 4) ?_;refine ae 6 (iv x.now) ?_;refine ae 7 (iv (u6+x.now)) ?_;refine ae 8 (pT go (x.en)) ?_;refine bO 9 fun K' hK=>?_
  have E:=Lq (HI5.out.below HB0.out);have cj:=E.out.o_at B.out.2.1;have fj:=E.out.row.frozenAt x.en;have lj:=(E.out.row.lt go rfl).2;obtain⟨W6,hWN⟩:=ex (V0.setCell ⟨go,x.en,none⟩ (iv (u6+x.now)));have HI6:Hid (fy w base g3 go g b cap a M u W6 ((o.set x.fr (o.getD x.fr 0-x.now)).set x.en ((o.set x.fr (o.getD x.fr 0-x.now)).getD x.en 0+x.now)) d):=by have h:=E.out.put x.en (u6+x.now);rw[hWN]at h;rw[ar.out];exact Lq h
  have v:Hid (aa W6 g5 154 #[iv x.fr,iv x.en,iv x.lo,iv x.hi,iv x.now]):=by have h:=s.out.keep HB0.out;rw[←hWN];exact Lq (h.far (fun e=>ax E.out.row h (by decide) (by rw[e];rfl)) _)
  go_simp;refine hK.out _ _ ?_;clear hK cj fj lj hHeld hWN E HS6 s HI5;refine dL ?_;have s:=v;clear v hwv;clear HBD B s;go_wp2_with fail;go_roundw
  case rel=>exact⟨m+1,lK o x,hlt,by go_num,ac,af,HI6⟩
  case measure=>simp[intOf];omega
section
variable{f m:Nat}
theorem sJ{y:ar}{l:List Int}(h:fu y l f m≠some true):∀n,m≤n→fu y l f n=fu y l f m
 | 0,hn=>by
  have:m=0:=by omega
  subst this;rfl
 | n+1,hn=>by
  by_cases hm:m=n+1
  ·rw[hm]
  ·have b:=sJ h n (by omega)
   conv=>lhs;unfold fu
   rw[b];split
   ·rename_i a;exact absurd a h
   ·rfl
theorem F9{y:ar}{l:List Int}{n:Nat}{d:Bool}(h:m<n)(g:fu y l f m=some true)(c:fu y l f n=some d) :
  ∃b a,dW (y.places.length+2) f (ce y (m:Int) l)=some (b,a)∧fu y l f (m+1)=some b∧(b=false→d=false):=by
 have e:fu y l f (m+1)=(dW (y.places.length+2) f (ce y (m:Int) l)).map Prod.fst:=by
  conv=>lhs;unfold fu
  rw[g]
 cases hb:dW (y.places.length+2) f (ce y (m:Int) l)with
 | none =>
  rw[hb]at e;have:=sJ (f:=f) (y:=y) (l:=l) (m:=m+1) (by rw[e];simp) n (by omega)
  rw[this,e]at c;cases c
 | some r =>
  obtain⟨b,a⟩:=r;rw[hb]at e;refine⟨b,a,rfl,e,fun hf=>?_⟩
  subst hf;have:=sJ (f:=f) (y:=y) (l:=l) (m:=m+1) (by rw[e];simp) n (by omega)
  rw[this,e]at c;injection c with c
  exact c.symm
def cE(y:ar)(l:List Int):Prop:=∀m:Nat,m<y.kinds.length→(ce y m l).all (bP (y.places.length+2))=true∧(ce y m l).length≤1000
theorem yh{y:ar}{k:Int}{l:List Int}{w a c:World}{g b cap d:Nat}(h:pY y k l w g b cap d a)(i:ai a c b):BW w c:=i.below h.bw (h.er.row.lt b rfl).1
theorem nu(y:ar)(A:aI)(B:Nat)(L:Option Addr)(l:List Int)(d f:Nat)(u:Bool)(w:World)(H:aO w B y A)(v:B≤w.heap.size)(N:sE y)(Y:l.length≤maxLen)(S:am iv w B L l)(F:cE y l)(U:y.kinds.length≤1000)(hc:cN y l f=some u) :
  Cs 21 #[.agg (ak y A),.slice L l.length d] w (Rt w (.bool u)):=by
 obtain⟨t,D,n⟩:=nA w (.cells (ak y A) 74);obtain⟨g,hg⟩:=ex w.heap.size;have q1:aa t g 74 (ak y A):=by rw[←D,←hg];exact aa.new w 74 _
 have O:=Lq n;have HQ:=Lq q1;have HT:Hid (Cs 72 #[.agg (ak y A),.slice L l.length d] t (vd y l t)):=Lq (ve y A B L l d t (H.below n v) (lT v n.size) N.copy Y (S.below n v));have HWEB:Hid (∀(m:Nat) W,BW t W→Cs 73 #[.agg (ak y A),iv m,.slice L l.length d] W fun e w'=>∃g b cap gj,e=.returned (pT g 0)∧pY y m l W g b cap gj w'):=Lq fun m W x=>xT y A B m L l d W (H.below (bT n x) v) (lT v (bT n x).size) N Y (S.below (bT n x) v)
 have ac:y.kinds.length≤9223372036854775806:=by have h:=H.lk;unfold maxLen at h;have:=U;omega
 have C:=Lq F;have HC:=Lq hc;have HPL:=Lq N.places;obtain⟨G,I,J,K,M⟩:=q1.c5;have hgl:=q1.lt;clear H S F hc N n q1;go_enter Tryz.func21,Tryz.ntmps21
 go_wp2_with fail;refine HT.out.mono ?_;rintro e w2 ⟨r,rfl,x,s⟩;have HB2:=Lq x;clear x G I J K M HT D hg;rcases s with⟨rfl,hno⟩ | ⟨k,rfl,X, -,hdf⟩
 case inr =>
  have j:u=false:=by
   have h:=HC.out;unfold cN at h;rw[if_pos (by unfold iU;rw[List.any_eq_true];exact⟨k,List.mem_range.2 X,hdf⟩)]at h
   injection h with h
   exact h.symm
  subst j;have T:=nn k;clear hdf;go_wp2_with fail;go_ret
  exact⟨rfl,bT O.out HB2.out⟩
 have z:Hid (fu y l f y.kinds.length=some u):=by
  have h:=HC.out;unfold cN at h;rw[if_neg (by rw[hno];decide)]at h
  exact Lq h
 obtain⟨G,I,J,K,M⟩:_∧_∧_∧_∧_:=⟨(HQ.out.keep HB2.out).c 0,(HQ.out.keep HB2.out).c 1,(HQ.out.keep HB2.out).c 2,(HQ.out.keep HB2.out).c 3,(HQ.out.keep HB2.out).c 4⟩;clear hno;go_wp2_with fail;clear G I J K M;go_loopw [14] (fun i wr=>∃m:Nat,m≤y.kinds.length∧i=iv m∧Hid (fu y l f m=some true)∧Hid (BW t wr)) (fun i _=>y.kinds.length-(intOf i).toNat)
 case atStart=>exact⟨0,Nat.zero_le _,rfl,Lq rfl,HB2⟩
 case round =>
  obtain⟨m,X,rfl,p,a⟩:=hrel;have T:=nn m;obtain⟨G,I,J,K,M⟩:_∧_∧_∧_∧_:=⟨(HQ.out.keep a.out).c 0,(HQ.out.keep a.out).c 1,(HQ.out.keep a.out).c 2,(HQ.out.keep a.out).c 3,(HQ.out.keep a.out).c 4⟩;by_cases hlt:m<y.kinds.length
  case neg =>
   obtain rfl:m=y.kinds.length:=by omega
   have q:u=true:=by have h:=p.out;rw[z.out]at h;injection h
   subst q;go_wp2_with fail;go_ret
   exact⟨rfl,bT O.out a.out⟩
  have ab:(m:Int)<(y.kinds.length:Int):=by omega
  obtain⟨V,R,o,E,j⟩:=F9 hlt p.out z.out;have HBAL:=Lq o;have HCS:=Lq E;have HBF:=Lq j;have HWM:=Lq (HWEB.out m wr a.out);clear o E j p;go_wp2_with fail;refine HWM.out.mono ?_;rintro e w3 ⟨gw,b,cap,gj,rfl,hw⟩;have HWP:=Lq hw;have hpl:=HPL.out;have HBAC:=Lq (yg gw b cap (y.places.length+2) f _ _ (ce y m l) wr.heap.size V R w3 hw.wb hw.er (C.out m hlt).1 (by omega) (C.out m hlt).2 HBAL.out)
  clear hw G I J K M HWM;go_wp2_with fail;refine HBAC.out.mono ?_;rintro e w4 ⟨rfl,Z, -⟩;have HB4:=Lq (bT a.out (yh HWP.out Z));clear Z HBAC;cases V
  ·have q:u=false:=HBF.out rfl;subst q;go_wp2_with fail;go_ret
   exact⟨rfl,bT O.out HB4.out⟩
  ·go_wp2_with fail;go_roundw
   case rel=>exact⟨m+1,hlt,by go_num,HCS,HB4⟩
   case measure=>simp[intOf];omega
end
theorem oF(y:ar)(A:aI)(B:Nat)(L:Option Addr)(l:List Int)(b:Nat)(w:World)(H:aO w B y A)(i:B≤w.heap.size)(u:dc y)(D:l.length≤maxLen)(z:am iv w B L l)(C:jb y.papers.length l) :
  Cs 20 #[.agg (ak y A),.slice L l.length b] w (Rt w (.tuple #[.agg (ak y A),iv 0])):=by
 obtain⟨q,j,s⟩:=nA w (.cells (ak y A) 46);obtain⟨g2,hg2⟩:=ex w.heap.size;obtain⟨W2,hW2,b2⟩:=nA q (.cells #[.slice L l.length b] 48);obtain⟨g3,hg3⟩:=ex q.heap.size;have q2:aa W2 g2 46 (ak y A):=by rw[←hW2];exact(by rw[←j,←hg2];exact aa.new w 46 _:aa q g2 46 (ak y A)).alloc _
 have E:aa W2 g3 48 #[.slice L l.length b]:=by rw[←hW2,←hg3];exact aa.new q 48 _
 obtain⟨G,r,t,m,g,o,n,x⟩:=fh W2 74 (.slice none 0 0) (.slice none 0 0) (.slice none 0 0) (.slice none 0 0) (.slice none 0 0) (.slice A.k y.kinds.length A.ck) (.slice A.p y.places.length A.cp) (.slice A.f y.first.length A.cf) (.slice A.a y.papers.length A.ca) (.slice A.l y.last.length A.cl);obtain⟨g4,hg4⟩:=ex W2.heap.size;rw[hg4]at m o x;have q2a:=q2.keep n;obtain⟨x0,x1,x2,x3,x4⟩:=q2a.c5;have l1:=q2a.lt;obtain⟨f0,f1,f2,f3,f4⟩:=o.f5;obtain⟨e0,e1,e2,e3,e4⟩:=o.c5;have el:=o.lt;have q2b:=q2.keep g;obtain⟨s0,s1,s2,s3,s4⟩:=q2b.c5;have sl:=q2b.lt;have hbw:=bT (bT s b2) g;have HB:=Lq hbw;have HG4:Hid (w.heap.size≤g4):=Lq (by rw[←hg4];exact(bT s b2).size)
 have h:Hid (aa r g4 74 (ak y A)):=Lq x;have HQ3:=Lq (E.keep g);have HCK:=Lq (sF y A B r (H.below hbw i) (lT i hbw.size) u);have HFI:Hid (∀W,BW r W→Cs 70 #[.slice L l.length b,.func (.func 71) #[] #[pT g4 0,pT g3 0]] W (Rt W (.tuple #[iv 0,iv 0]))):=Lq fun W hb=>FK y A L l B b g4 g3 W (h.out.keep hb) ((HQ3.out.keep hb).c 0) (z.below (bT hbw hb) i) (lT i (bT hbw hb).size) D u.papers C
 clear H i u D z C s b2 q2 E g o n x q2a q2b hbw;go_enter Tryz.func20,Tryz.ntmps20
 go_wp2_with fail;refine HCK.out.mono ?_;rintro e F ⟨rfl,(d:Hid _)⟩;clear HCK x0 x1 x2 x3 x4 l1 f0 f1 f2 f3 f4 e0 e1 e2 e3 e4 el s0 s1 s2 s3 s4 sl j hW2 t m hg2 hg3 hg4;have y0:=(HQ3.out.keep d.out).c 0;have yl:=(HQ3.out.keep d.out).lt;have HF:=Lq (HFI.out F d.out);go_wp2_with fail;refine HF.out.mono ?_;rintro e w4 ⟨rfl,hb⟩;have HB4:=Lq (bT d.out hb);clear hb HF HFI y0 yl;have q4:=h.out.keep HB4.out;obtain⟨x0,x1,x2,x3,x4⟩:=q4.c5;obtain⟨f0,f1,f2,f3,f4⟩:=q4.f5;have l4:=q4.lt;have qs:=((((q4.set_ 0 (.slice A.k y.kinds.length A.ck)).set_ 1 (.slice A.p y.places.length A.cp)).set_ 2 (.slice A.f y.first.length A.cf)).set_ 3 (.slice A.a y.papers.length A.ca)).set_ 4 (.slice A.l y.last.length A.cl);simp only[ak,List.setIfInBounds_toArray,List.set_cons_zero,List.set_cons_succ]at qs;obtain⟨d0,d1,d2,d3,d4⟩:=qs.c5;have HBE:Hid (BW w (((((w4.setCell ⟨g4,0,none⟩ (.slice A.k y.kinds.length A.ck)).setCell ⟨g4,1,none⟩ (.slice A.p y.places.length A.cp)).setCell ⟨g4,2,none⟩ (.slice A.f y.first.length A.cf)).setCell ⟨g4,3,none⟩ (.slice A.a y.papers.length A.ca)).setCell ⟨g4,4,none⟩ (.slice A.l y.last.length A.cl))):=Lq (aH (aH (aH (aH (aH (bT HB.out HB4.out) HG4.out (p:=⟨g4,0,none⟩) _) HG4.out (p:=⟨g4,1,none⟩) _) HG4.out (p:=⟨g4,2,none⟩) _) HG4.out (p:=⟨g4,3,none⟩) _) HG4.out (p:=⟨g4,4,none⟩) _);clear q4 qs;go_wp2_with fail;exact bodyPost_ret (v:=.tuple #[.agg (ak y A),iv 0]) (by simp[results,Tryz.results20,go_sem,d0,d1,d2,d3,d4]) rfl ⟨rfl,HBE.out⟩
theorem sK(y:ar)(A:aI)(B:Nat)(L:Option Addr)(l:List Int)(b f:Nat)(i:Bool)(w:World)(H:aO w B y A)(d:B≤w.heap.size)(j:dc y)(q:l.length≤maxLen)(o:am iv w B L l)(r:jb y.papers.length l)(h:cE y l)(hc:cN y l f=some i) :
  Cs 8 #[.agg (ak y A),.slice L l.length b] w (Rt w (.tuple #[.bool i,iv 0])):=by
 obtain⟨n,g,c⟩:=nA w (.cells (ak y A) 46);obtain⟨g2,hg2⟩:=ex w.heap.size;have q1:aa n g2 46 (ak y A):=by rw[←g,←hg2];exact aa.new w 46 _
 have t:=Lq c;have HOP:=Lq (oF y A B L l b n (H.below c d) (lT d c.size) j q (o.below c d) r);have HCL:Hid (∀W,BW n W→Cs 21 #[.agg (ak y A),.slice L l.length b] W (Rt W (.bool i))):=Lq fun W hb=>nu y A B L l b f i W (H.below (bT c hb) d) (lT d (bT c hb).size) j.pap q (o.below (bT c hb) d) h (by have:=j.kinds;omega) hc
 obtain⟨u,v,x,z,C⟩:=q1.c5;have l1:=q1.lt;clear H d j q o r h hc c q1;go_enter Tryz.func8,Tryz.ntmps8
 go_wp2_with fail;refine HOP.out.mono ?_;rintro e s ⟨rfl,(m:Hid _)⟩;clear HOP u v x z C l1 g hg2;obtain⟨Wa,Wb,hWa,hWb,hbb,qa,hba,qb⟩:=fh s 74 (.slice none 0 0) (.slice none 0 0) (.slice none 0 0) (.slice none 0 0) (.slice none 0 0) (.slice A.k y.kinds.length A.ck) (.slice A.p y.places.length A.cp) (.slice A.f y.first.length A.cf) (.slice A.a y.papers.length A.ca) (.slice A.l y.last.length A.cl);obtain⟨g6,hg6⟩:=ex s.heap.size;rw[hg6]at hWb qa qb;obtain⟨f0,f1,f2,f3,f4⟩:=qa.f5;obtain⟨e0,e1,e2,e3,e4⟩:=qa.c5;have el:=qa.lt;obtain⟨d0,d1,d2,d3,d4⟩:=qb.c5;have HBX:=Lq (bT m.out hbb);have HC:=Lq (HCL.out Wb HBX.out);clear hbb qa hba qb;go_wp2_with fail;refine HC.out.mono ?_;rintro e w3 ⟨rfl,hb⟩;have HB3:=Lq (bT HBX.out hb);clear hb;go_wp2_with fail
 go_ret2
 exact⟨rfl,bT t.out HB3.out⟩
def ij(e:Bool)(s:Int×Int):Int:=if e=true then s.2 else s.1
def iD(e:Bool)(y:ar)(k:Int)(l:List Int)(v:Int)(i:Nat):Int:=match y.papers[i]? with
 | none=>v
 | some p=>if p.kind=k∧ju p i=true then(if p.en=0∧p.fr≠0 then v+ij e (dB y l i p)else if p.fr=0∧p.en≠0 then v-ij (!e) (dB y l i p)else v)else v
def cU(e:Bool)(y:ar)(k:Int)(l:List Int)(v0:Int)(m:Nat):Int:=(List.range m).foldl (iD e y k l) v0
def cz(e:Bool)(y:ar)(k:Int):Int:=ij e ((dA y.first k 0).getD (0,0))-ij (!e) ((dA y.last k 0).getD (0,0))
def iE(y:ar)(k:Int)(l:List Int):Int×Int :=
 (if(dA y.last k 0).isSome=true then max 0 (cU false y k l (cz false y k) y.papers.length)else 0,min 0 (cU true y k l (cz true y k) y.papers.length))
theorem jy(e:Bool)(y:ar)(k:Int)(l:List Int)(a:Int)(m:Nat):cU e y k l a (m+1)=iD e y k l (cU e y k l a m) m:=by unfold cU;rw[List.range_succ,List.foldl_append];rfl
structure nw(y:ar)(k:Int)(l:List Int):Prop where
 f:∀e, -10000000≤ij e ((dA y.first k 0).getD (0,0))∧ij e ((dA y.first k 0).getD (0,0))≤10000000
 la:∀e, -10000000≤ij e ((dA y.last k 0).getD (0,0))∧ij e ((dA y.last k 0).getD (0,0))≤10000000
 s:∀(i:Nat) (p:cT),y.papers[i]?=some p→∀e, -10000000≤ij e (dB y l i p)∧ij e (dB y l i p)≤10000000
theorem nw.ov{y:ar}{k:Int}{l:List Int}(h:nw y k l)(e:Bool):∀m:Nat, -20000000-10000000*m≤cU e y k l (cz e y k) m∧cU e y k l (cz e y k) m≤20000000+10000000*m
 | 0=>by
  have b:=h.f e;have h2:=h.la (!e);show -20000000-10000000*((0:Nat):Int)≤cz e y k∧cz e y k≤_
  unfold cz;omega
 | m+1=>by
  have c:=h.ov e m;rw[jy];unfold iD;split
  ·push_cast;omega
  ·rename_i p a;have b:=h.s m p a e;have h2:=h.s m p a (!e)
   push_cast
   split
   ·split
    ·omega
    ·split<;>omega
   ·omega
theorem lM(a:Int)(g:Nat)(w:World)(b:-1≤a∧a≤3)(hc:w.cell? ⟨g,0,none⟩=some (iv 1)):Cs 175 #[iv a,pT g 0] w fun e w'=>e=.returned (.bool (a==0))∧w'=w:=by
 have h:a = -1∨a=0∨a=1∨a=2∨a=3:=by omega
 rcases h with rfl | rfl | rfl | rfl | rfl
 all_goals
  go_enter Tryz.func175,Tryz.ntmps175
  go_wp2_with fail;go_ret
  exact⟨rfl,rfl⟩
theorem pZ(a b:Int)(w:World):Cs 206 #[.agg #[iv a,iv b]] w (Rt w (iv a)):=by
 obtain⟨h,d,f⟩:=nA w (.cells #[iv a,iv b] 33);obtain⟨g1,hg1⟩:=ex w.heap.size;have q1:aa h g1 33 #[iv a,iv b]:=by rw[←d,←hg1];exact aa.new w 33 _
 have g:=Lq f;have x0:=q1.c 0;have l1:=q1.lt;clear f q1;go_enter Tryz.func206,Tryz.ntmps206
 go_wp2_with fail;go_ret
 exact⟨rfl,g.out⟩
theorem p8(a b:Int)(w:World):Cs 207 #[.agg #[iv a,iv b]] w (Rt w (iv b)):=by
 obtain⟨h,d,f⟩:=nA w (.cells #[iv a,iv b] 33);obtain⟨g1,hg1⟩:=ex w.heap.size;have q1:aa h g1 33 #[iv a,iv b]:=by rw[←d,←hg1];exact aa.new w 33 _
 have g:=Lq f;have x0:=q1.c 1;have l1:=q1.lt;clear f q1;go_enter Tryz.func207,Tryz.ntmps207
 go_wp2_with fail;go_ret
 exact⟨rfl,g.out⟩
abbrev bG:Value:=.func (.func 206) #[] #[]
abbrev bH:Value:=.func (.func 207) #[] #[]
theorem Ga(w:World):Cs 176 #[] w (Rt w (.agg #[bG,bH,bH,bG])):=by
 obtain⟨b,l,k,f,c,d,g,j⟩:∃b W2,w.alloc (.cells #[.nilFunc,.nilFunc,.nilFunc,.nilFunc] 250)=b∧((((b.setCell ⟨w.heap.size,0,none⟩ bG).setCell ⟨w.heap.size,1,none⟩ bH).setCell ⟨w.heap.size,2,none⟩ bH).setCell ⟨w.heap.size,3,none⟩ bG)=W2∧BW w W2∧aa b w.heap.size 250 #[.nilFunc,.nilFunc,.nilFunc,.nilFunc]∧BW w b∧aa W2 w.heap.size 250 #[bG,bH,bH,bG]:=by
  refine⟨_,_,rfl,rfl, ?_,aa.new w 250 _,bA (bR _) _, ?_⟩
  ·exact(((((ai.of_below (bR _) w.heap.size).set 0 _).set 1 _).set 2 _).set 3 _).below (bA (bR _) _) (lr _)
  ·have h:=((((aa.new w 250 #[.nilFunc,.nilFunc,.nilFunc,.nilFunc]).set_ 0 bG).set_ 1 bH).set_ 2 bH).set_ 3 bG
   simpa using h
 obtain⟨n,i⟩:=ex w.heap.size;rw[i]at f d j;obtain⟨f0,f1,f2,f3⟩:=d.f4;obtain⟨e0,e1,e2,e3⟩:=d.c4;have el:=d.lt;obtain⟨d0,d1,d2,d3⟩:=j.c4;have HB:=Lq c;have hsf:∀(w:World) (a:Addr) (m:Mode) (fn:Fn) (x z:Array Value),(store a (.func fn x z) m).run Tryz.prog w=stored Tryz.prog w a (.func fn x z) m:=fun w a m fn x z=>run_store Tryz.prog w a _ m rfl
 clear c d g j;go_enter Tryz.func176,Tryz.ntmps176
 go_wp2_with fail;exact bodyPost_ret (v:=.agg #[bG,bH,bH,bG]) (by simp[results,Tryz.results176,go_sem,d0,d1,d2,d3]) rfl ⟨rfl,HB.out⟩
end Go.Proofs.YtbillnhcmkpohaaGreatDoor
