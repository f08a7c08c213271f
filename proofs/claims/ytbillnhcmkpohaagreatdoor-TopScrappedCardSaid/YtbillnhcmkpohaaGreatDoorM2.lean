/- The reference of layer 1: a list with another part in the place of one (printed by .. -/
import Derived.OrdersIn
import Derived.Test.YtbillnhcmkpohaaGreatDoorM1
set_option maxRecDepth 1000000
set_option maxHeartbeats 0
namespace Go.Proofs.YtbillnhcmkpohaaGreatDoor
open Go.RowKit
section
variable{s:ByteArray}{base g i k:Nat}{v:Value}{w w':World}
theorem Tryz.info9:(Tryz.prog.info? 9).map (fun i=>(i.zero,i.size,i.bytes))=some (some (.string ⟨#[]⟩),1,16):=by kernel_rfl
theorem qU{l:List ah}{x:ah}(a:k<l.length):(cB l k s x).length=l.length:=by unfold cB;simp;omega
theorem Ce{l:List ah}{x y:ah}(b:k<l.length)(a:l[i]?=some y)(h:i<k):(cB l k s x)[i]?=some y:=by unfold cB;rw[List.getElem?_append_left (by simp;omega),List.getElem?_take_of_lt h];exact a
theorem Cf{l:List ah}{x:ah}(b:k<l.length):(cB l k s x)[k]?=some x:=by
 unfold cB;have a:(l.take k).length=k:=by simp;omega
 rw[List.getElem?_append_right (by omega),a,Nat.sub_self];rfl
theorem tL{l:List ah}{x y:ah}(c:k<l.length)(b:l[i]?=some y)(h:k<i):(cB l k s x)[i]?=some (jG s x.name y):=by
 unfold cB;have a:(l.take k).length=k:=by simp;omega
 rw[List.getElem?_append_right (by omega),a,show i-k=(i-k-1)+1 by omega,List.getElem?_cons_succ,List.getElem?_map,List.getElem?_drop,show k+1+(i-k-1)=i by omega,b];rfl
structure fd(w:World)(m:aj):Prop where
 ow:w.ownsRow 0 9 1 (.slice m.A m.p.on.length m.cap) m.p.on.length (m.p.on.map .string)
 nm:m.p.name.size≤maxLen
 ons:∀o∈m.p.on,o.size≤maxLen
 sz:m.p.on.length*16≤140737488351232
theorem fd.below{m:aj}(h:fd w m)(a:BW w w'):fd w' m:=⟨aN h.ow a,h.nm,h.ons,h.sz⟩
theorem fd.grown{m:aj}(h:fd w m){e size n:Nat}{xs:List Value}(c:w.ownsRow base e size v n xs)(a:9≠e)(b:w.grownBy w' v.ownBlock):fd w' m:=⟨kA h.ow c a b,h.nm,h.ons,h.sz⟩
theorem qV{xs:List ByteArray}(h:w.ownsRow base 9 1 v xs.length (xs.map .string)):∃A cap,v=.slice A xs.length cap∧am .string w w.heap.size A xs∧xs.length≤cap∧cap≤maxLen:=by
 obtain⟨A,cap,a,b,_⟩:=io h;refine⟨A,cap,a,b, ?_⟩;rcases h.2 with⟨hv,hn⟩ | ⟨g,c,cur,hv,_,_,hc,hm,_⟩
 ·rw[a]at hv;injection hv with _ h3 h4
  subst h4;exact⟨by omega,Nat.zero_le _⟩
 ·rw[a]at hv;injection hv with _ _ h4
  subst h4;exact⟨hc,hm⟩
theorem fd.ok{m:aj}(h:fd w m):aR w w.heap.size m:=by
 obtain⟨A,cap,a,b,c,d⟩:=qV h.ow;injection a with e1 _ e3
 subst e1 e3;exact⟨b,c,d,h.nm,h.ons,h.sz⟩
def gM(l:List ByteArray)(F:ByteArray→ByteArray)(j:Nat):List Value:=((l.map F).take j).map Value.string
theorem qW{l:List ByteArray}(F:ByteArray→ByteArray){j:Nat}{o:ByteArray}(h:l[j]?=some o):gM l F (j+1)=gM l F j++[Value.string (F o)]:=by unfold gM;rw[List.take_add_one,List.getElem?_map,h];simp
theorem qX(l:List ByteArray)(F:ByteArray→ByteArray):gM l F l.length=(l.map F).map Value.string:=by unfold gM;rw[List.take_of_length_le (by simp)]
theorem nV(a:List aj)(x:aj):ab (a++[x])=ab a++[x.p]:=by simp
theorem nW{c0 c1 n o p q r:Value}(a b c d f j l:Value)(h:aa w g 50 #[c0,c1,n,o,p,q,r]) :
  aa (((((((w.setCell ⟨g,0,none⟩ a).setCell ⟨g,1,none⟩ b).setCell ⟨g,2,none⟩ c).setCell ⟨g,3,none⟩ d).setCell ⟨g,4,none⟩ f).setCell ⟨g,5,none⟩ j).setCell ⟨g,6,none⟩ l) g 50 #[a,b,c,d,f,j,l]:=by
 have m:=((((((h.set_ 0 a).set_ 1 b).set_ 2 c).set_ 3 d).set_ 4 f).set_ 5 j).set_ 6 l;simp only[List.setIfInBounds_toArray,List.set_cons_zero,List.set_cons_succ]at m;exact m
theorem Cg(A:Option Addr)(ms:List aj)(m:aj)(B cap F:Nat)(r:aj)(w:World)(hB:B≤w.heap.size)(H:az w B A cap ms)(hM:aR w B m)(hn:ms.length≤12)(hi:ms[F]?=some r) :
  Cs 39 #[.slice A ms.length cap,iv F,mV m] w fun e w'=>∃f:List aj,ab f=cB (ab ms) F r.p.name m.p∧(∀q∈f,fd w' q)∧jJ f w e w':=by
 have am:F<ms.length:=(lG hi);obtain⟨W1,hW1,hb1,hz1,hq⟩:=lY w m;have HH:=Lq (H.below hb1 hB);have HM:=Lq (hM.below hb1 hB);have HB1:=Lq hb1;have HIO:=Lq hi;have hmax:=H.max;have hle:=H.le;have hil2:F<(ab ms).length:=by simpa using am
 clear H hM hb1 hi;obtain⟨⟨a,d,first,last,on,z,x⟩,Ao,ca⟩:=m;have HX:Hid (∀W,BW W1 W→aa W w.heap.size 50 #[.string a,iv d,iv first,iv last,.slice Ao on.length ca,iv z,iv x]):=Lq fun W hb=>hq.keep hb
 obtain⟨X,hX⟩:=ex (ah.mk a d first last on z x);obtain⟨g5,hg5⟩:=ex w.heap.size;obtain⟨i47,hi47,hz470,hz471,hz472⟩:=info_parts Tryz.info50;obtain⟨i9,hi9,hz90,hz91,hz92⟩:=info_parts Tryz.info9;obtain⟨q0,q1,q2,q3,q4,q5,q6⟩:=hq.c7;have hBW1:B≤W1.heap.size:=by omega
 have an:g5<W1.heap.size:=by omega
 clear hq;rw[hg5]at HX hz1 q0 q1 q2 q3 q4 q5 q6;have ao:=Lq hz1;clear hz1;have HXE:=Lq hX;have HXN:Hid (X.name=a∧X.name.size≤maxLen):=Lq (by rw[←hX];exact⟨rfl,HM.out.nm⟩)
 clear hX;go_enter Tryz.func39,Tryz.ntmps39
 go_wp2_with fail;clear hW1;go_loopw [7,8] (fun v i wr=>∃(k:Nat) (f:List aj),k≤ms.length∧i=iv k∧f.length=k∧Hid (ab f=(cB (ab ms) F r.p.name X).take k)∧Hid (wr.ownsRow W1.heap.size 50 7 v k (f.flatMap aJ))∧Hid (∀q∈f,fd wr q)∧Hid (BW W1 wr)) (fun _ i _=>ms.length-(intOf i).toNat)
 case atStart=>exact⟨0,[],by omega,rfl,rfl,Lq rfl,Lq ⟨by simp,.inl ⟨rfl,rfl⟩⟩,Lq (fun q h=>by cases h),Lq (bR _)⟩
 case round =>
  clear q0 q1 q2 q3 q4 q5 q6;obtain⟨k,f,hk,rfl,ae,HP,HO,HQ,E⟩:=hrel
  rename World=>W0
  have ap:=nn k;by_cases hlt:k<ms.length
  ·obtain⟨y,hy⟩:=gX (l:=ms) (i:=k) hlt;obtain⟨b,off,hA,hbB,hMy,c0,c1,c2,c3,c4,c5,c6⟩:=(HH.out.rd.below E.out hBW1).at hy;have hbw:b<W0.heap.size:=br c0;have T:=HX.out _ E.out;obtain⟨q0,q1,q2,q3,q4,q5,q6⟩:=T.c7;have hgw:=T.lt;have HOL:=Lq ae;have HYI:=Lq hy;have HMY:=Lq hMy;clear hy hMy T ae;obtain⟨⟨yn,yk,yf,yl,yon,yw,yz⟩,yA,yc⟩:=y;subst hA;obtain⟨g,hg⟩:=ex W0.heap.size;have HG:=Lq hg;clear hg;by_cases hia:k=F
   ·have al:(k==F)=true:=by simpa using hia
    have ak:((k:Int)==(F:Int))=true:=by simp;omega
    have af:=Lq hia;clear hia;go_wp2_with fail;rw[HG.out];have I:=bA (bR W0) (.cells #[.string a,iv d,iv first,iv last,.slice Ao on.length ca,iv z,iv x] 50);have KA:aa (W0.alloc (.cells #[.string a,iv d,iv first,iv last,.slice Ao on.length ca,iv z,iv x] 50)) g 50 #[.string a,iv d,iv first,iv last,.slice Ao on.length ca,iv z,iv x]:=HG.out▸aa.new W0 50 _;obtain⟨Wa,hWa⟩:=ex (W0.alloc (.cells #[.string a,iv d,iv first,iv last,.slice Ao on.length ca,iv z,iv x] 50));rw[hWa];rw[hWa]at I KA;have ac:¬(k:Int)>(F:Int):=by have:=af.out;omega
    have L:BW W0 Wa:=I;have HKA:Hid (aa Wa g 50 #[.string a,iv d,iv first,iv last,.slice Ao on.length ca,iv z,iv x]):=Lq KA;have HBA2:=Lq L;clear hWa L I KA;have honl:on.length≤9223372036854775807:=by have:=HM.out.le;have:=HM.out.cm;simp only[maxLen]at *;omega
    go_loopw [10,11] (fun v i W=>∃j:Nat,j≤on.length∧i=iv j∧Hid (W.ownsRow W0.heap.size 9 1 v j (gM on (fun o=>o) j))∧Hid (aa W g 50 #[.string a,iv d,iv first,iv last,.slice Ao on.length ca,iv z,iv x])∧Hid (BW W0 W)) (fun _ i _=>on.length-(intOf i).toNat)
    case atStart=>exact⟨0,by omega,rfl,Lq ⟨by simp[gM],.inl ⟨rfl,rfl⟩⟩,HKA,HBA2⟩
    case round =>
     clear q0 q1 q2 q3 q4 q5 q6 c0 c1 c2 c3 c4 c5 c6;obtain⟨j,hj,rfl,G,J,t⟩:=hrel;have hj0:=nn j;have bk:=J.out;have k4:wr.cell? ⟨g,4,none⟩=some (.slice Ao on.length ca):=bk.cell 4;clear bk;by_cases hjl:j<on.length
     ·obtain⟨o,M⟩:=gX (l:=on) (i:=j) hjl;obtain⟨ob,oo,hoa,_,ck⟩:=(HM.out.on.below (bT E.out t.out) (by omega)) j o M
      have ag:=Lq M;simp only at hoa;rw[hoa]at k4;have HSN:=Lq (qW (fun o=>o) M)
      clear M hoa;go_wp2_with (at_builtin;refine wpList_append_own _ rfl _ _ 40 rfl W0.heap.size 9 i9 (.string ⟨#[]⟩) 1 16 Tryz.underlying40 hi9 hz90 hz91 hz92 rfl (by decide) _ _ _ rfl (G.out.alloc _) ⟨wr.heap.size,0,none⟩ 1 1 [.string o] rfl rfl (fK _ _ _) (by simp[Value.oneCell']) (by unfold maxLen;omega) (by have:=HM.out.sz;simp only at this;omega) (by have:=t.out.size;simp only[World.size_alloc];omega) ?_)
      intro v6 R n C _;have HR6:Hid (R.ownsRow W0.heap.size 9 1 v6 (j+1) (gM on (fun o=>o) (j+1))):=Lq (by rw[HSN.out];exact n)
      have O:Hid (aa R g 50 #[.string a,iv d,iv first,iv last,.slice Ao on.length ca,iv z,iv x]):=Lq ((J.out.alloc _).grown C (ax G.out J.out (by decide)))
      have N:Hid (BW W0 R):=Lq (cC (G.out.alloc _) C (lr _) (bA t.out _));clear n C;go_wp2_with fail;go_roundw
      case rel=>exact⟨j+1,by omega,by go_num,HR6,O,N⟩
      case measure=>simp[intOf];omega
     ·obtain rfl:j=on.length:=by omega
      have S:=G.out;rw[qX]at S;obtain⟨A8,c8,rfl⟩:=gK S;have HR8:=Lq S;clear S G k4;have bk:=J.out;have k4:=bk.c 4;have f4:=bk.frozen 4;have hgw:=bk.lt;have B5:=bk.set_ 4 (.slice A8 on.length c8);simp only[List.setIfInBounds_toArray,List.set_cons_zero,List.set_cons_succ]at B5;have O5:BW W0 (wr.setCell ⟨g,4,none⟩ (.slice A8 on.length c8)):=aH t.out (by have:=HG.out;simp only;omega) _
      have Y:fd (wr.setCell ⟨g,4,none⟩ (.slice A8 on.length c8)) (aj.mk (ah.mk a d first last (on.map (fun o=>o)) z x) A8 c8):=⟨by have:=nT ((ai.of_set (bR wr) g 4 (.slice A8 on.length c8)).own HR8.out (ax HR8.out bk (by decide)).symm);simpa using this,HM.out.nm,by simpa using HM.out.ons,by have:=HM.out.sz;simp only[List.length_map]at this ⊢;omega⟩
      obtain⟨W5,K⟩:=ex (wr.setCell ⟨g,4,none⟩ (.slice A8 on.length c8));rw[K]at B5 O5 Y;have hz5:=B5.lt;have HB5:=Lq B5;have HO5:=Lq O5;have HQ5:=Lq Y;obtain⟨p0,p1,p2,p3,p4,p5,p6⟩:=B5.c7;have HAL:Hid ((W5.alloc (.cells #[.string a,iv d,iv first,iv last,.slice A8 on.length c8,iv z,iv x] 50)).ownsRow W1.heap.size 50 7 u7 k (f.flatMap aJ)):=Lq (aN HO.out (bA O5 _));clear bk B5 O5 Y HR8 J;go_wp2_with (at_builtin;refine wpList_append_own _ rfl _ _ 22 rfl W1.heap.size 50 i47 (.agg #[.string ⟨#[]⟩,iv 0,iv 0,iv 0,.slice none 0 0,iv 0,iv 0]) 7 80 Tryz.underlying22 hi47 hz470 hz471 hz472 rfl (by decide) _ _ _ rfl HAL.out ⟨W5.heap.size,0,none⟩ 1 1 [.string a,iv d,iv first,iv last,.slice A8 on.length c8,iv z,iv x] rfl rfl (fW _ _ _) (by simp[Value.oneCell']) (by unfold maxLen;omega) (by omega) (by have:=E.out.size;have:=HO5.out.size;simp only[World.size_alloc];omega) ?_)
      intro v7 Z u D _;have HO7:Hid (Z.ownsRow W1.heap.size 50 7 v7 (k+1) ((f++[(aj.mk (ah.mk a d first last (on.map (fun o=>o)) z x) A8 c8)]).flatMap aJ)):=Lq (by simpa[aJ]using u)
      have V:Hid (∀q∈f++[(aj.mk (ah.mk a d first last (on.map (fun o=>o)) z x) A8 c8)],fd Z q):=Lq (fun q hq=>by
       rcases List.mem_append.1 hq with hq | hq
       ·exact((HQ.out q hq).below (bA HO5.out _)).grown HAL.out (by decide) D
       ·obtain rfl:=List.mem_singleton.1 hq;exact(HQ5.out.below (bA (bR _) _)).grown HAL.out (by decide) D)
      have U:Hid (BW W1 Z):=Lq (cC HAL.out D (lr _) (bA (bT E.out HO5.out) _));have HP7:Hid (ab (f++[(aj.mk (ah.mk a d first last (on.map (fun o=>o)) z x) A8 c8)])=(cB (ab ms) F r.p.name X).take (k+1)):=Lq (by rw[List.take_add_one,(by rw[af.out,Cf hil2,←HXE.out];simp:(cB (ab ms) F r.p.name X)[k]?=some (ah.mk a d first last (on.map (fun o=>o)) z x)),nV,HP.out];rfl)
      clear u D K;go_wp2_with fail;go_roundw
      case rel=>exact⟨k+1,f++[(aj.mk (ah.mk a d first last (on.map (fun o=>o)) z x) A8 c8)],by omega,by go_num,by rw[List.length_append,HOL.out];rfl,HP7,HO7,V,U⟩
      case measure=>simp[intOf];omega
   ·have ak:((k:Int)==(F:Int))=false:=by simp;omega
    have al:(k==F)=false:=by simpa using hia
    go_wp2_with fail;rw[HG.out];have I:=bA (bR W0) (.cells #[.string yn,iv yk,iv yf,iv yl,.slice yA yon.length yc,iv yw,iv yz] 50);have KA:aa (W0.alloc (.cells #[.string yn,iv yk,iv yf,iv yl,.slice yA yon.length yc,iv yw,iv yz] 50)) g 50 #[.string yn,iv yk,iv yf,iv yl,.slice yA yon.length yc,iv yw,iv yz]:=HG.out▸aa.new W0 50 _;obtain⟨Wa,hWa⟩:=ex (W0.alloc (.cells #[.string yn,iv yk,iv yf,iv yl,.slice yA yon.length yc,iv yw,iv yz] 50));rw[hWa];rw[hWa]at I KA;by_cases hgt:F<k
    ·have ac:(k:Int)>(F:Int):=by omega
     have L:BW W0 Wa:=I;have HKA:Hid (aa Wa g 50 #[.string yn,iv yk,iv yf,iv yl,.slice yA yon.length yc,iv yw,iv yz]):=Lq KA;have HBA2:=Lq L;clear hWa L I KA;have honl:yon.length≤9223372036854775807:=by have:=HMY.out.le;have:=HMY.out.cm;simp only[maxLen]at *;omega
     go_loopw [10,11] (fun v i W=>∃j:Nat,j≤yon.length∧i=iv j∧Hid (W.ownsRow W0.heap.size 9 1 v j (gM yon (cR r.p.name X.name) j))∧Hid (aa W g 50 #[.string yn,iv yk,iv yf,iv yl,.slice yA yon.length yc,iv yw,iv yz])∧Hid (BW W0 W)) (fun _ i _=>yon.length-(intOf i).toNat)
     case atStart=>exact⟨0,by omega,rfl,Lq ⟨by simp[gM],.inl ⟨rfl,rfl⟩⟩,HKA,HBA2⟩
     case round =>
      clear q0 q1 q2 q3 q4 q5 q6 c0 c1 c2 c3 c4 c5 c6;obtain⟨j,hj,rfl,G,J,t⟩:=hrel;have hj0:=nn j;have bk:=J.out;have k4:wr.cell? ⟨g,4,none⟩=some (.slice yA yon.length yc):=bk.cell 4;clear bk;by_cases hjl:j<yon.length
      ·obtain⟨o,M⟩:=gX (l:=yon) (i:=j) hjl;obtain⟨ob,oo,hoa,_,ck⟩:=(HMY.out.on.below t.out (by omega)) j o M
       have ag:=Lq M;simp only at hoa;rw[hoa]at k4;obtain⟨b9,off9,ha9,_,_,d0,_⟩:=(HH.out.rd.below (bT E.out t.out) hBW1).at HIO.out;injection ha9 with ha9
       injection ha9 with e1 e2
       subst e1 e2;have T:=HX.out _ (bT E.out t.out);have q0:=T.c 0;clear T;have HSN:=Lq (qW (cR r.p.name X.name) M);clear M hoa;cases hp:(o.toList==r.p.name.toList)
       ·have ad:Hid (cR r.p.name X.name o=o):=Lq (by unfold cR eqS;rw[hp];rfl)
        go_wp2_with (at_builtin;refine wpList_append_own _ rfl _ _ 40 rfl W0.heap.size 9 i9 (.string ⟨#[]⟩) 1 16 Tryz.underlying40 hi9 hz90 hz91 hz92 rfl (by decide) _ _ _ rfl (G.out.alloc _) ⟨wr.heap.size,0,none⟩ 1 1 [.string o] rfl rfl (fK _ _ _) (by simp[Value.oneCell']) (by unfold maxLen;omega) (by have:=HMY.out.sz;simp only at this;omega) (by have:=t.out.size;simp only[World.size_alloc];omega) ?_)
        intro v6 R n C _;have HR6:Hid (R.ownsRow W0.heap.size 9 1 v6 (j+1) (gM yon (cR r.p.name X.name) (j+1))):=Lq (by rw[HSN.out,ad.out];exact n)
        have O:Hid (aa R g 50 #[.string yn,iv yk,iv yf,iv yl,.slice yA yon.length yc,iv yw,iv yz]):=Lq ((J.out.alloc _).grown C (ax G.out J.out (by decide)))
        have N:Hid (BW W0 R):=Lq (cC (G.out.alloc _) C (lr _) (bA t.out _));clear n C;go_wp2_with fail;go_roundw
        case rel=>exact⟨j+1,by omega,by go_num,HR6,O,N⟩
        case measure=>simp[intOf];omega
       ·have ad:Hid (cR r.p.name X.name o=a):=Lq (by unfold cR eqS;rw[hp];exact HXN.out.1)
        go_wp2_with (at_builtin;refine wpList_append_own _ rfl _ _ 40 rfl W0.heap.size 9 i9 (.string ⟨#[]⟩) 1 16 Tryz.underlying40 hi9 hz90 hz91 hz92 rfl (by decide) _ _ _ rfl (G.out.alloc _) ⟨wr.heap.size,0,none⟩ 1 1 [.string a] rfl rfl (fK _ _ _) (by simp[Value.oneCell']) (by unfold maxLen;omega) (by have:=HMY.out.sz;simp only at this;omega) (by have:=t.out.size;simp only[World.size_alloc];omega) ?_)
        intro v6 R n C _;have HR6:Hid (R.ownsRow W0.heap.size 9 1 v6 (j+1) (gM yon (cR r.p.name X.name) (j+1))):=Lq (by rw[HSN.out,ad.out];exact n)
        have O:Hid (aa R g 50 #[.string yn,iv yk,iv yf,iv yl,.slice yA yon.length yc,iv yw,iv yz]):=Lq ((J.out.alloc _).grown C (ax G.out J.out (by decide)))
        have N:Hid (BW W0 R):=Lq (cC (G.out.alloc _) C (lr _) (bA t.out _));clear n C;go_wp2_with fail;go_roundw
        case rel=>exact⟨j+1,by omega,by go_num,HR6,O,N⟩
        case measure=>simp[intOf];omega
      ·obtain rfl:j=yon.length:=by omega
       have S:=G.out;rw[qX]at S;obtain⟨A8,c8,rfl⟩:=gK S;have HR8:=Lq S;clear S G k4;have bk:=J.out;have k4:=bk.c 4;have f4:=bk.frozen 4;have hgw:=bk.lt;have B5:=bk.set_ 4 (.slice A8 yon.length c8);simp only[List.setIfInBounds_toArray,List.set_cons_zero,List.set_cons_succ]at B5;have O5:BW W0 (wr.setCell ⟨g,4,none⟩ (.slice A8 yon.length c8)):=aH t.out (by have:=HG.out;simp only;omega) _
       have Y:fd (wr.setCell ⟨g,4,none⟩ (.slice A8 yon.length c8)) (aj.mk (ah.mk yn yk yf yl (yon.map (cR r.p.name X.name)) yw yz) A8 c8):=⟨by have:=nT ((ai.of_set (bR wr) g 4 (.slice A8 yon.length c8)).own HR8.out (ax HR8.out bk (by decide)).symm);simpa using this,HMY.out.nm,by intro o M;obtain⟨o2,ho2,rfl⟩:=List.mem_map.1 M;unfold cR;split;exact HXN.out.2;exact HMY.out.ons o2 ho2,by have:=HMY.out.sz;simp only[List.length_map]at this ⊢;omega⟩
       obtain⟨W5,K⟩:=ex (wr.setCell ⟨g,4,none⟩ (.slice A8 yon.length c8));rw[K]at B5 O5 Y;have hz5:=B5.lt;have HB5:=Lq B5;have HO5:=Lq O5;have HQ5:=Lq Y;obtain⟨p0,p1,p2,p3,p4,p5,p6⟩:=B5.c7;have HAL:Hid ((W5.alloc (.cells #[.string yn,iv yk,iv yf,iv yl,.slice A8 yon.length c8,iv yw,iv yz] 50)).ownsRow W1.heap.size 50 7 u7 k (f.flatMap aJ)):=Lq (aN HO.out (bA O5 _));clear bk B5 O5 Y HR8 J;go_wp2_with (at_builtin;refine wpList_append_own _ rfl _ _ 22 rfl W1.heap.size 50 i47 (.agg #[.string ⟨#[]⟩,iv 0,iv 0,iv 0,.slice none 0 0,iv 0,iv 0]) 7 80 Tryz.underlying22 hi47 hz470 hz471 hz472 rfl (by decide) _ _ _ rfl HAL.out ⟨W5.heap.size,0,none⟩ 1 1 [.string yn,iv yk,iv yf,iv yl,.slice A8 yon.length c8,iv yw,iv yz] rfl rfl (fW _ _ _) (by simp[Value.oneCell']) (by unfold maxLen;omega) (by omega) (by have:=E.out.size;have:=HO5.out.size;simp only[World.size_alloc];omega) ?_)
       intro v7 Z u D _;have HO7:Hid (Z.ownsRow W1.heap.size 50 7 v7 (k+1) ((f++[(aj.mk (ah.mk yn yk yf yl (yon.map (cR r.p.name X.name)) yw yz) A8 c8)]).flatMap aJ)):=Lq (by simpa[aJ]using u)
       have V:Hid (∀q∈f++[(aj.mk (ah.mk yn yk yf yl (yon.map (cR r.p.name X.name)) yw yz) A8 c8)],fd Z q):=Lq (fun q hq=>by
        rcases List.mem_append.1 hq with hq | hq
        ·exact((HQ.out q hq).below (bA HO5.out _)).grown HAL.out (by decide) D
        ·obtain rfl:=List.mem_singleton.1 hq;exact(HQ5.out.below (bA (bR _) _)).grown HAL.out (by decide) D)
       have U:Hid (BW W1 Z):=Lq (cC HAL.out D (lr _) (bA (bT E.out HO5.out) _));have HP7:Hid (ab (f++[(aj.mk (ah.mk yn yk yf yl (yon.map (cR r.p.name X.name)) yw yz) A8 c8)])=(cB (ab ms) F r.p.name X).take (k+1)):=Lq (by rw[List.take_add_one,(tL hil2 (bN HYI.out) hgt:(cB (ab ms) F r.p.name X)[k]?=some (ah.mk yn yk yf yl (yon.map (cR r.p.name X.name)) yw yz)),nV,HP.out];rfl)
       clear u D K;go_wp2_with fail;go_roundw
       case rel=>exact⟨k+1,f++[(aj.mk (ah.mk yn yk yf yl (yon.map (cR r.p.name X.name)) yw yz) A8 c8)],by omega,by go_num,by rw[List.length_append,HOL.out];rfl,HP7,HO7,V,U⟩
       case measure=>simp[intOf];omega
    ·have ac:¬(k:Int)>(F:Int):=by omega
     have L:BW W0 Wa:=I;have HKA:Hid (aa Wa g 50 #[.string yn,iv yk,iv yf,iv yl,.slice yA yon.length yc,iv yw,iv yz]):=Lq KA;have HBA2:=Lq L;clear hWa L I KA;have honl:yon.length≤9223372036854775807:=by have:=HMY.out.le;have:=HMY.out.cm;simp only[maxLen]at *;omega
     go_loopw [10,11] (fun v i W=>∃j:Nat,j≤yon.length∧i=iv j∧Hid (W.ownsRow W0.heap.size 9 1 v j (gM yon (fun o=>o) j))∧Hid (aa W g 50 #[.string yn,iv yk,iv yf,iv yl,.slice yA yon.length yc,iv yw,iv yz])∧Hid (BW W0 W)) (fun _ i _=>yon.length-(intOf i).toNat)
     case atStart=>exact⟨0,by omega,rfl,Lq ⟨by simp[gM],.inl ⟨rfl,rfl⟩⟩,HKA,HBA2⟩
     case round =>
      clear q0 q1 q2 q3 q4 q5 q6 c0 c1 c2 c3 c4 c5 c6;obtain⟨j,hj,rfl,G,J,t⟩:=hrel;have hj0:=nn j;have bk:=J.out;have k4:wr.cell? ⟨g,4,none⟩=some (.slice yA yon.length yc):=bk.cell 4;clear bk;by_cases hjl:j<yon.length
      ·obtain⟨o,M⟩:=gX (l:=yon) (i:=j) hjl;obtain⟨ob,oo,hoa,_,ck⟩:=(HMY.out.on.below t.out (by omega)) j o M
       have ag:=Lq M;simp only at hoa;rw[hoa]at k4;have HSN:=Lq (qW (fun o=>o) M)
       clear M hoa;go_wp2_with (at_builtin;refine wpList_append_own _ rfl _ _ 40 rfl W0.heap.size 9 i9 (.string ⟨#[]⟩) 1 16 Tryz.underlying40 hi9 hz90 hz91 hz92 rfl (by decide) _ _ _ rfl (G.out.alloc _) ⟨wr.heap.size,0,none⟩ 1 1 [.string o] rfl rfl (fK _ _ _) (by simp[Value.oneCell']) (by unfold maxLen;omega) (by have:=HMY.out.sz;simp only at this;omega) (by have:=t.out.size;simp only[World.size_alloc];omega) ?_)
       intro v6 R n C _;have HR6:Hid (R.ownsRow W0.heap.size 9 1 v6 (j+1) (gM yon (fun o=>o) (j+1))):=Lq (by rw[HSN.out];exact n)
       have O:Hid (aa R g 50 #[.string yn,iv yk,iv yf,iv yl,.slice yA yon.length yc,iv yw,iv yz]):=Lq ((J.out.alloc _).grown C (ax G.out J.out (by decide)))
       have N:Hid (BW W0 R):=Lq (cC (G.out.alloc _) C (lr _) (bA t.out _));clear n C;go_wp2_with fail;go_roundw
       case rel=>exact⟨j+1,by omega,by go_num,HR6,O,N⟩
       case measure=>simp[intOf];omega
      ·obtain rfl:j=yon.length:=by omega
       have S:=G.out;rw[qX]at S;obtain⟨A8,c8,rfl⟩:=gK S;have HR8:=Lq S;clear S G k4;have bk:=J.out;have k4:=bk.c 4;have f4:=bk.frozen 4;have hgw:=bk.lt;have B5:=bk.set_ 4 (.slice A8 yon.length c8);simp only[List.setIfInBounds_toArray,List.set_cons_zero,List.set_cons_succ]at B5;have O5:BW W0 (wr.setCell ⟨g,4,none⟩ (.slice A8 yon.length c8)):=aH t.out (by have:=HG.out;simp only;omega) _
       have Y:fd (wr.setCell ⟨g,4,none⟩ (.slice A8 yon.length c8)) (aj.mk (ah.mk yn yk yf yl (yon.map (fun o=>o)) yw yz) A8 c8):=⟨by have:=nT ((ai.of_set (bR wr) g 4 (.slice A8 yon.length c8)).own HR8.out (ax HR8.out bk (by decide)).symm);simpa using this,HMY.out.nm,by simpa using HMY.out.ons,by have:=HMY.out.sz;simp only[List.length_map]at this ⊢;omega⟩
       obtain⟨W5,K⟩:=ex (wr.setCell ⟨g,4,none⟩ (.slice A8 yon.length c8));rw[K]at B5 O5 Y;have hz5:=B5.lt;have HB5:=Lq B5;have HO5:=Lq O5;have HQ5:=Lq Y;obtain⟨p0,p1,p2,p3,p4,p5,p6⟩:=B5.c7;have HAL:Hid ((W5.alloc (.cells #[.string yn,iv yk,iv yf,iv yl,.slice A8 yon.length c8,iv yw,iv yz] 50)).ownsRow W1.heap.size 50 7 u7 k (f.flatMap aJ)):=Lq (aN HO.out (bA O5 _));clear bk B5 O5 Y HR8 J;go_wp2_with (at_builtin;refine wpList_append_own _ rfl _ _ 22 rfl W1.heap.size 50 i47 (.agg #[.string ⟨#[]⟩,iv 0,iv 0,iv 0,.slice none 0 0,iv 0,iv 0]) 7 80 Tryz.underlying22 hi47 hz470 hz471 hz472 rfl (by decide) _ _ _ rfl HAL.out ⟨W5.heap.size,0,none⟩ 1 1 [.string yn,iv yk,iv yf,iv yl,.slice A8 yon.length c8,iv yw,iv yz] rfl rfl (fW _ _ _) (by simp[Value.oneCell']) (by unfold maxLen;omega) (by omega) (by have:=E.out.size;have:=HO5.out.size;simp only[World.size_alloc];omega) ?_)
       intro v7 Z u D _;have HO7:Hid (Z.ownsRow W1.heap.size 50 7 v7 (k+1) ((f++[(aj.mk (ah.mk yn yk yf yl (yon.map (fun o=>o)) yw yz) A8 c8)]).flatMap aJ)):=Lq (by simpa[aJ]using u)
       have V:Hid (∀q∈f++[(aj.mk (ah.mk yn yk yf yl (yon.map (fun o=>o)) yw yz) A8 c8)],fd Z q):=Lq (fun q hq=>by
        rcases List.mem_append.1 hq with hq | hq
        ·exact((HQ.out q hq).below (bA HO5.out _)).grown HAL.out (by decide) D
        ·obtain rfl:=List.mem_singleton.1 hq;exact(HQ5.out.below (bA (bR _) _)).grown HAL.out (by decide) D)
       have U:Hid (BW W1 Z):=Lq (cC HAL.out D (lr _) (bA (bT E.out HO5.out) _));have HP7:Hid (ab (f++[(aj.mk (ah.mk yn yk yf yl (yon.map (fun o=>o)) yw yz) A8 c8)])=(cB (ab ms) F r.p.name X).take (k+1)):=Lq (by rw[List.take_add_one,(by rw[Ce hil2 (bN HYI.out) (by omega)];simp:(cB (ab ms) F r.p.name X)[k]?=some (ah.mk yn yk yf yl (yon.map (fun o=>o)) yw yz)),nV,HP.out];rfl)
       clear u D K;go_wp2_with fail;go_roundw
       case rel=>exact⟨k+1,f++[(aj.mk (ah.mk yn yk yf yl (yon.map (fun o=>o)) yw yz) A8 c8)],by omega,by go_num,by rw[List.length_append,HOL.out];rfl,HP7,HO7,V,U⟩
       case measure=>simp[intOf];omega
  ·obtain rfl:k=ms.length:=by omega
   go_wp2_with fail;go_ret
   have hp:=HP.out;rw[List.take_of_length_le (by rw[qU hil2];simp)]at hp
   exact⟨f,by rw[hp,←HXE.out],HQ.out,u7,rfl,dv (by rw[ae];exact HO.out) (by omega),bT HB1.out E.out⟩
end
section
variable{Q:Exit→Act→World→Prop}{w:World}
def ma(Q:Exit→Act→World→Prop):Exit→Act→World→Prop
 | .normal,a,w=>Q .normal a w
 | _,_,_=>False
theorem ma.imp:∀(e:Exit) (a:Act) (w:World),ma Q e a w→Q e a w:=fun e a w h=>by cases e<;>first | exact h | exact(h:False).elim
theorem ma.shut:¬LetsOut (ma Q):=fun⟨_,_,h⟩=>h
section
variable {P:Program} {md:Region.Mode} {ops:Array Oper} {Q:Exit→Act→World→Prop} {l n:Nat}
theorem CC(m:∀(i:Nat) (o:Oper) c,ops[i]?=some o→o.op≠.defer c)(k:¬LetsOut Q){i:Nat}{K j:Act→World→Prop}(hK:∀a w,K a w→j a w){a:Act}(h:wpOp P ops Q i K a w):wpOpIn (Fence.wide.inRound l) n P ops Q i j a w:=by
 unfold wpOp at h;unfold wpOpIn;cases ho:ops[i]? with
 | none=>rw[ho]at h;exact hK _ _ h
 | some o =>
  rw[ho]at h;simp only at h ⊢;split
  ·rename_i g;rw[if_pos g]at h;rcases h with h | ⟨_,h⟩
   ·refine⟨fun _ _=>trivial, ?_⟩
    rw[Oper.semAt_eq _ _ _ (fun c=>m i o c ho)]
    unfold Oper.wp at h;generalize(execOp a.eval o).run P w=r at h;cases r with
    | ok x w' =>
     cases x with
     | value v=>exact hK _ _ h
     | skip=>exact hK _ _ h
     | defer d=>exact hK _ _ h
     | enter f args =>
      refine⟨(fun h=>by cases h),CallsIn.inRound l (callsIn_wide.2 (Calls.mono h fun e b he=>?_))⟩
      cases e with
      | returned v=>exact hK _ _ he
      | panicked c=>exact he
      | outgrown=>exact absurd he k
     | row r args =>
      refine⟨(fun h=>by cases h),fun c cs _=>?_⟩
      obtain⟨v,b,p,q⟩:=h c cs;exact⟨v,b,hK _ _ p,stepsIn_wide.2 q⟩
     | _=>exact h.elim
    | halt x w'=>cases x<;>first | exact h | exact h.elim
   ·exact absurd h k
  ·rename_i g;rw[if_neg g]at h;exact⟨fun _ _=>trivial,hK _ _ h⟩
theorem uo(b:∀(i:Nat) (o:Oper) c,ops[i]?=some o→o.op≠.defer c)(d:¬LetsOut Q):∀(fuel:Nat) (L:Array Bool) (a:Act) (w:World),wpAny P md ops Q fuel L a w→wpAnyIn (Fence.wide.inRound l) n P md ops Q fuel L a w
 | 0,_,_,_,h=>h
 | fuel+1,_,_,_,h=>⟨h.1,fun i f=>CC b d (fun a w hw=>uo b d fuel _ a w hw) (h.2 i f)⟩
def rv(ops:Array Oper):Bool:=ops.toList.all fun o=>match o.op with
 | .defer _=>false
 | _=>true
theorem CD(h:rv ops=true):∀(i:Nat) (o:Oper) c,ops[i]?=some o→o.op≠.defer c:=fun i o c a e=>by
 unfold rv at h;rw[List.all_eq_true]at h;have:=h o (by rw[Array.getElem?_eq_some_iff]at a;obtain⟨h1,rfl⟩:=a;simp)
 rw[e]at this;cases this
theorem CE{S:World→Prop}{id:Nat}{a:Act}(c:P.follows .mixedOrders=true)(b:rv ops=true)(h:wpAnyH P .any ops (ma Q) S ops.size (Array.replicate ops.size false) a w.drew):(Code.region id ops true).wpIn (Fence.wide.inRound l) n P Q a w :=
 wpIn_mono (wpIn_region_any c (uo (CD b) ma.shut _ _ _ _ (wpAny_of_held _ _ _ _ h))) ma.imp
end
end

end Go.Proofs.YtbillnhcmkpohaaGreatDoor
namespace Go.Proofs.YtbillnhcmkpohaaGreatDoor
set_option linter.unusedVariables false
structure Ed where
 fr:Nat
 en:Nat
 lo:Int
 hi:Int
 now:Int
instance:DecidableEq Ed:=fun a b=>decidable_of_iff (a.fr=b.fr∧a.en=b.en∧a.lo=b.lo∧a.hi=b.hi∧a.now=b.now) (by cases a;cases b;simp)
def Ed.room(x:Ed)(n:Nat):Int:=if n=x.fr then x.hi-x.now else x.now-x.lo
def Ed.other(x:Ed)(n:Nat):Nat:=x.fr+x.en-n
def DE(es:List Ed)(but:Int)(at':Nat)(s:List Int×List Nat)(i:Nat):List Int×List Nat:=match es[i]? with
 | none=>s
 | some x=>if(i:Int)=but∨(at'≠x.fr∧at'≠x.en)∨x.room at'≤0∨s.1.getD (x.other at') 0≠0 then s else(s.1.set (x.other at') ((i:Int)+1),s.2++[x.other at'])
def DF(es:List Ed)(but:Int)(at':Nat)(s:List Int×List Nat)(m:Nat):List Int×List Nat:=(List.range m).foldl (DE es but at') s
def DG(es:List Ed)(but:Int)(src:Nat)(want:Nat→Int):Nat→List Int→List Nat→Option (Nat×List Int)
 | 0,_,_=>none
 | _+1,_,[]=>none
 | f+1,by',a::rest=>if a≠src∧0<want a then some (a,by')else
  let s:=DF es but a (by',rest) es.length
  DG es but src want f s.1 s.2
def DH(es:List Ed)(by':List Int)(src:Nat):Nat→Nat→List (Nat×Nat)
 | 0,_=>[]
 | f+1,x=>if x=src then[]else
  let i:=(by'.getD x 0-1).toNat
  match es[i]? with
  | none=>[]
  | some e=>(i,e.other x)::DH es by' src f (e.other x)
def dU(es:List Ed)(k:Int)(l:List (Nat×Nat)):Int:=l.foldl (fun k p=>match es[p.1]? with | some e=>min k (e.room p.2) | none=>k) k
def ft(k:Int)(es:List Ed)(p:Nat×Nat):List Ed:=match es[p.1]? with | some e=>es.set p.1 { e with now:=if p.2=e.fr then e.now+k else e.now-k } | none=>es
def iu(k:Int)(es:List Ed)(l:List (Nat×Nat)):List Ed:=l.foldl (ft k) es
def ly(nodes:Nat)(es:List Ed):List Int:=es.foldl (fun o e=>let o1:=o.set e.fr (o.getD e.fr 0-e.now);o1.set e.en (o1.getD e.en 0+e.now)) (List.replicate nodes 0)
theorem uR(k:Int)(a:List Ed)(p:Nat×Nat):(ft k a p).length=a.length:=by unfold ft;split<;>simp
theorem uS(k:Int):∀(l:List (Nat×Nat)) (es:List Ed),(iu k es l).length=es.length
 | [],_=>rfl
 | p::l,es=>(uS k l (ft k es p)).trans (uR k es p)
end Go.Proofs.YtbillnhcmkpohaaGreatDoor
namespace Go.Proofs.YtbillnhcmkpohaaGreatDoor
open Go.RowKit
structure uT(x:Ed):Prop where
 lo:-4000000000000≤x.lo∧x.lo≤4000000000000
 hi:-4000000000000≤x.hi∧x.hi≤4000000000000
 now:-4000000000000≤x.now∧x.now≤4000000000000
 fr:x.fr<8
 en:x.en<8
def iR(x:Ed):List Value:=[iv x.fr,iv x.en,iv x.lo,iv x.hi,iv x.now]
theorem uU(x:Ed):(iR x).length=5:=rfl
theorem rK(x:Ed)(n:Nat)(w:World)(hx:uT x):Cs 140 #[.agg #[iv x.fr,iv x.en,iv x.lo,iv x.hi,iv x.now],iv n] w (Rt w (iv (x.room n))):=by
 obtain⟨⟨k,l⟩,⟨c,d⟩,⟨m,n2⟩,i,j⟩:=hx;obtain⟨fr,en,lo,hi,now⟩:=x;simp only at *;obtain⟨W1,hW1,b1⟩:=nA w (.cells #[iv fr,iv en,iv lo,iv hi,iv now] 154);obtain⟨g,hg⟩:=ex w.heap.size;have q1:aa W1 g 154 #[iv fr,iv en,iv lo,iv hi,iv now]:=by rw[←hW1,←hg];exact aa.new w 154 _
 have a:=Lq b1;obtain⟨x0,x1,x2,x3,x4⟩:=q1.c5;have hgl:=q1.lt;have hw1:IntKind.i64.wrap (hi-now)=hi-now:=by rw[IntKind.wrap_i64];omega
 have b:IntKind.i64.wrap (now-lo)=now-lo:=by rw[IntKind.wrap_i64];omega
 unfold Ed.room;clear b1 q1;by_cases h:n=fr
 ·subst h;rw[if_pos rfl];go_enter Tryz.func140,Tryz.ntmps140
  go_wp2_with fail;go_ret
  exact⟨rfl,a.out⟩
 ·rw[if_neg h];have f:((n:Int)==(fr:Int))=false:=by simp;omega
  simp only at *;go_enter Tryz.func140,Tryz.ntmps140
  go_wp2_with fail;go_ret
  exact⟨rfl,a.out⟩
end Go.Proofs.YtbillnhcmkpohaaGreatDoor
namespace Go.Proofs.YtbillnhcmkpohaaGreatDoor
set_option linter.unusedVariables false
def bY(but:Int)(a i:Nat)(x:Ed)(by':List Int):Bool:=decide ((i:Int)=but)||decide (a≠x.fr∧a≠x.en)||decide (x.room a≤0)||decide (by'.getD (x.other a) 0≠0)
def aP(but:Int)(a:Nat):Nat→List Ed→List Int→List Nat→List Int×List Nat
 | _,[],b,l=>(b,l)
 | i,x::es,b,l=>if bY but a i x b=true then aP but a (i+1) es b l else aP but a (i+1) es (b.set (x.other a) ((i:Int)+1)) (l++[x.other a])
def cI(es:List Ed)(but:Int)(src:Nat)(want:Nat→Int):Nat→List Int→List Nat→Option (Option (Nat×List Int))
 | 0,_,_=>none
 | _+1,_,[]=>some none
 | f+1,b,a::rest=>if a≠src∧0<want a then some (some (a,b))else cI es but src want f (aP but a 0 es b rest).1 (aP but a 0 es b rest).2
def cZ(es:List Ed)(b:List Int)(src:Nat):Nat→Nat→Option (List (Nat×Nat))
 | 0,_=>none
 | f+1,x=>if x=src then some []else if b.getD x 0≤0 then none else
  match es[(b.getD x 0-1).toNat]? with
  | none=>none
  | some e=>if x=e.fr∨x=e.en then(cZ es b src f (e.other x)).map fun l=>((b.getD x 0-1).toNat,e.other x)::l else none
def dV(es:List Ed)(nodes src:Nat)(most but:Int)(want:Nat→Int):Option (Int×Nat×List Ed) :=
 match cI es but src want (nodes+1) ((List.replicate nodes (0:Int)).set src (-1)) [src]with
 | none=>none
 | some none=>some (0,0,es)
 | some (some (a,b))=>match cZ es b src (nodes+1) a with
  | none=>none
  | some l=>some (dU es (min most (want a)) l,a,iu (dU es (min most (want a)) l) es l)
def bP(nodes:Nat)(x:Ed):Bool:=decide (-4000000000000≤x.lo∧x.lo≤4000000000000∧-4000000000000≤x.hi∧x.hi≤4000000000000∧-4000000000000≤x.now∧x.now≤4000000000000∧x.fr<nodes∧x.en<nodes)
def fP(nodes src:Nat):Nat→List Int→List Ed→Option (Bool×List Int×List Ed)
 | 0,_,_=>none
 | f+1,o,es=>if o.getD src 0≤0 then some (true,o,es)else if es.all (bP nodes)=false∨o.all (fun n=>decide (-4000000000000≤n∧n≤4000000000000))=false then none else
  match dV es nodes src (o.getD src 0) (-1) (fun n=>- o.getD n 0)with
  | none=>none
  | some (k,t,es')=>if k=0 then some (false,o,es')else fP nodes src f ((o.set src (o.getD src 0-k)).set t ((o.set src (o.getD src 0-k)).getD t 0+k)) es'
def cG(nodes f:Nat):List Nat→List Int→List Ed→Option (Bool×List Ed)
 | [],_,es=>some (true,es)
 | s::l,o,es=>match fP nodes s f o es with
  | none=>none
  | some (false,_,es')=>some (false,es')
  | some (true,o',es')=>cG nodes f l o' es'
def dW(nodes f:Nat)(es:List Ed):Option (Bool×List Ed):=cG nodes f (List.range nodes) (ly nodes es) es
end Go.Proofs.YtbillnhcmkpohaaGreatDoor
namespace Go.Proofs.YtbillnhcmkpohaaGreatDoor
open Go.RowKit
section
variable{out:Int}{b cap g gb nodes:Nat}{js:Value}{w:World}
structure lA(w:World)(gb g b cap:Nat)(nodes:Nat)(js:Value)(out:Int)(es:List Ed):Prop where
 bx:w.cell? ⟨gb,0,none⟩=some (pT g 0)
 wb:aa w g 89 #[.slice (some ⟨b,0,none⟩) es.length cap,iv nodes,js,iv out]
 rd:aG 5 iR w w.heap.size (some ⟨b,0,none⟩) es
 le:es.length≤cap∧cap≤maxLen
theorem lA.below{w':World}{c:List Ed}(h:lA w gb g b cap nodes js out c)(a:BW w w'):lA w' gb g b cap nodes js out c :=
 ⟨kC a h.bx,h.wb.keep a,(h.rd.below a (lr _)).more a.size,h.le⟩
theorem lA.at{a:List Ed}(h:lA w gb g b cap nodes js out a){i:Nat}{x:Ed}(hx:a[i]?=some x) :
  w.cell? ⟨b,i*5,none⟩=some (iv x.fr)∧cA w b (i*5+1) (iv x.en)∧cA w b (i*5+2) (iv x.lo)∧cA w b (i*5+3) (iv x.hi)∧cA w b (i*5+4) (iv x.now):=by
 obtain⟨f,d,e,_,hc⟩:=h.rd i x hx;injection e with e
 injection e with e1 e2
 subst e1 e2;have c:=hc 0 _ rfl;have h1:=hc 1 _ rfl;have h2:=hc 2 _ rfl;have h3:=hc 3 _ rfl;have h4:=hc 4 _ rfl;simp only[Nat.zero_add,Nat.add_zero]at c h1 h2 h3 h4;exact⟨c,h1,h2,h3,h4⟩
theorem pF(gb g b cap nodes i a:Nat)(js:Value)(out:Int)(d:List Ed)(x:Ed)(w:World)(H:lA w gb g b cap nodes js out d)(hx:d[i]?=some x)(k:x.fr<8)(l:x.en<8)(f:a=x.fr∨a=x.en) :
  Cs 139 #[iv i,iv a,pT gb 0] w (Rt w (iv (x.other a))):=by
 have m:=H.bx;have x1:=H.wb.c 0;obtain⟨c0,c1,_,_,_⟩:=H.at hx;have hil:i<d.length:=(lG hx);have hmx:=H.le;unfold maxLen at hmx;obtain⟨fr,en,lo,hi,now⟩:=x;simp only[Ed.other]at *;have hw1:IntKind.i64.wrap ((fr:Int)+(en:Int))=(fr:Int)+(en:Int):=by rw[IntKind.wrap_i64];omega
 have j:IntKind.i64.wrap ((fr:Int)+(en:Int)-(a:Int))=((fr+en-a:Nat):Int):=by rw[IntKind.wrap_i64];omega
 have h:=nn i;have hiz:(i:Int)<(d.length:Int):=by omega
 clear H hx f;go_enter Tryz.func139,Tryz.ntmps139
 go_wp2_with fail;go_quiet (fail)
 go_wp2_with fail;go_ret
 exact⟨rfl,cY (bR _) _⟩
end
theorem uV(n c d:Int)(a b:Addr)(w:World)(f:w.cell? a=some (iv c))(g:w.cell? b=some (iv d)) :
  Cs 79 #[iv n,.pointer (some a),.pointer (some b)] w fun e w'=>e=.returned (.bool (!inB c d n))∧w=w':=by
 by_cases h1:n<c
 ·go_enter Tryz.func79,Tryz.ntmps79
  go_wp2
  go_ret
  exact⟨aY (by unfold inB;rw[Bool.eq_iff_iff];simp;omega),rfl⟩
 ·go_enter Tryz.func79,Tryz.ntmps79
  go_wp2
  go_ret
  exact⟨aY (by unfold inB;rw[Bool.eq_iff_iff];simp;omega),rfl⟩
theorem DI(A:Option Addr)(xs:List Int)(B cap:Nat)(c a:Int)(g h:Addr)(w:World)(o:xs.length≤maxLen)(n:am iv w B A xs)(j:w.cell? g=some (iv c))(m:w.cell? h=some (iv a)) :
  Cs 85 #[.slice A xs.length cap,.func (.func 79) #[] #[.pointer (some g),.pointer (some h)]] w (qB (!allIn c a xs) w):=by
 unfold maxLen at o;go_enter Tryz.func85,Tryz.ntmps85
 go_wp2
 go_loop [8] (fun i=>∃k:Nat,k≤xs.length∧i=iv k∧allIn c a (xs.take k)=true) (fun i=>xs.length-(intOf i).toNat)
 case atStart=>exact⟨0,Nat.zero_le _,rfl,by simp[allIn]⟩
 case round =>
  obtain⟨k,p,rfl,d⟩:=hrel;by_cases hlt:k<xs.length
  ·obtain⟨x,hx⟩:=gX (l:=xs) (i:=k) hlt;obtain⟨b,off,rfl,_,hck⟩:=n k x hx;have Hx:=Lq hx;clear hx;by_cases hp:inB c a x=true
   ·go_wp2_with (go_at_call 79;refine(uV _ c a _ _ _ j m).mono ?_;rintro e w' ⟨rfl,rfl⟩)
    go_round
    case rel=>exact⟨k+1,by omega,by go_num,by rw[ti _ _ _ _ _ Hx.out,d,hp];rfl⟩
    case measure=>simp[intOf];omega
   ·have f:inB c a x=false:=by simpa using hp
    go_wp2_with (go_at_call 79;refine(uV _ c a _ _ _ j m).mono ?_;rintro e w' ⟨rfl,rfl⟩)
    go_ret
    exact⟨k,rfl,by rw[tj _ _ _ _ _ Hx.out f];simp,rfl⟩
  ·go_wp2
   go_ret
   refine⟨-1,rfl, ?_,rfl⟩;rw[List.take_of_length_le (by omega)]at d
   rw[d];rfl
theorem DJ(A:Option Addr)(xs:List Int)(B cap:Nat)(b a:Int)(c d:Addr)(w:World)(i:xs.length≤maxLen)(f:am iv w B A xs)(g:w.cell? c=some (iv b))(h:w.cell? d=some (iv a)) :
  Cs 30 #[.slice A xs.length cap,.func (.func 79) #[] #[.pointer (some c),.pointer (some d)]] w fun e w'=>e=.returned (.bool (!allIn b a xs))∧w=w':=by
 go_enter Tryz.func30,Tryz.ntmps30
 go_wp2_with (go_at_call 85;refine(DI _ xs B cap b a _ _ _ i f g h).mono ?_;rintro e w' ⟨r,rfl,j,rfl⟩)
 go_ret
 exact⟨by rw[←j];rfl,rfl⟩
theorem uW(A:Option Addr)(xs:List Int)(B cap:Nat)(b a:Int)(w:World)(g:xs.length≤maxLen)(f:am iv w B A xs)(d:B≤w.heap.size) :
  Cs 26 #[iv b,iv a,.slice A xs.length cap] w (Rt w (.bool (!allIn b a xs))):=by
 have c:=(f.alloc d (.cells #[iv b] 3)).alloc (by simp;omega) (.cells #[iv a] 3)
 go_enter Tryz.func26,Tryz.ntmps26
 go_wp2_with (go_at_call 30;refine(DJ _ xs B cap b a _ _ _ g c (by go_simp) (by go_simp)).mono ?_;rintro e w' ⟨rfl,rfl⟩)
 go_ret
 exact⟨rfl,((Below.refl _ _).alloc (lr _) _).alloc (by simp) _⟩
theorem lB(c b x:Int)(g:Nat)(w:World)(hc:w.cell? ⟨g,0,none⟩=some (iv x))(h:g<w.heap.size) :
  Cs 26 #[iv c,iv b,.slice (some ⟨g,0,none⟩) 1 1] w (Rt w (.bool (!inB c b x))):=by
 have d:am iv w w.heap.size (some ⟨g,0,none⟩) [x]:=by
  intro i y a
  match i,a with
  | 0,a=>simp at a;subst a;exact⟨g,0,rfl,h,hc⟩
 refine(uW _ [x] w.heap.size 1 c b w (by simp[maxLen]) d (lr _)).mono ?_
 rintro e w' ⟨rfl,f⟩;exact⟨aY (by simp[allIn]),f⟩
theorem uX(c b x y:Int)(g:Nat)(w:World)(hc:w.cell? ⟨g,0,none⟩=some (iv x))(j:w.cell? ⟨g,1,none⟩=some (iv y))(d:g<w.heap.size) :
  Cs 26 #[iv c,iv b,.slice (some ⟨g,0,none⟩) 2 2] w (Rt w (.bool (!(inB c b x&&inB c b y)))):=by
 have f:am iv w w.heap.size (some ⟨g,0,none⟩) [x,y]:=by
  intro i z a
  match i,a with
  | 0,a=>simp at a;subst a;exact⟨g,0,rfl,d,hc⟩
  | 1,a=>simp at a;subst a;exact⟨g,0,rfl,d,j⟩
 refine(uW _ [x,y] w.heap.size 2 c b w (by simp[maxLen]) f (lr _)).mono ?_
 rintro e w' ⟨rfl,h⟩;exact⟨aY (by simp[allIn]),h⟩
section
variable{B:Nat}{w:World}
structure cM where
 kind:Int
 place:Int
 lo:Int
 hi:Int
structure cT where
 kind:Int
 fr:Int
 en:Int
 kilos:Int
 copy:Int
structure ar where
 kinds:List ByteArray
 places:List ByteArray
 first:List cM
 papers:List cT
 last:List cM
def dq(c:cM):List Value:=[iv c.kind,iv c.place,iv c.lo,iv c.hi]
def iS(p:cT):List Value:=[iv p.kind,iv p.fr,iv p.en,iv p.kilos,iv p.copy]
structure aI where
 k:Option Addr
 p:Option Addr
 f:Option Addr
 a:Option Addr
 l:Option Addr
 ck:Nat
 cp:Nat
 cf:Nat
 ca:Nat
 cl:Nat
abbrev ak(y:ar)(A:aI):Array Value:=#[.slice A.k y.kinds.length A.ck,.slice A.p y.places.length A.cp,.slice A.f y.first.length A.cf,.slice A.a y.papers.length A.ca,.slice A.l y.last.length A.cl]
structure aO(w:World)(B:Nat)(y:ar)(A:aI):Prop where
 k:am .string w B A.k y.kinds
 p:am .string w B A.p y.places
 f:aG 4 dq w B A.f y.first
 a:aG 5 iS w B A.a y.papers
 l:aG 4 dq w B A.l y.last
 lk:y.kinds.length≤A.ck∧A.ck≤maxLen
 lp:y.places.length≤A.cp∧A.cp≤maxLen
 lf:y.first.length≤A.cf∧A.cf≤maxLen
 la:y.papers.length≤A.ca∧A.ca≤maxLen
 ll:y.last.length≤A.cl∧A.cl≤maxLen
 sk:∀s∈y.kinds,s.size≤maxLen
 sp:∀s∈y.places,s.size≤maxLen
theorem aO.below{w':World}{B':Nat}{y:ar}{A:aI}(h:aO w B y A)(c:Below B' w w')(b:B≤B'):aO w' B y A :=
 ⟨h.k.below c b,h.p.below c b,h.f.below c b,h.a.below c b,h.l.below c b,h.lk,h.lp,h.lf,h.la,h.ll,h.sk,h.sp⟩
theorem aO.paper{y:ar}{A:aI}(h:aO w B y A){i:Nat}{p:cT}(f:y.papers[i]?=some p) :
  ∃b c,A.a=some ⟨b,c,none⟩∧b<B∧cA w b (c+i*5) (iv p.kind)∧cA w b (c+i*5+1) (iv p.fr)∧cA w b (c+i*5+2) (iv p.en)∧cA w b (c+i*5+3) (iv p.kilos)∧cA w b (c+i*5+4) (iv p.copy):=by
 obtain⟨b,c,e,d,hc⟩:=h.a i p f;exact⟨b,c,e,d,hc 0 _ rfl,hc 1 _ rfl,hc 2 _ rfl,hc 3 _ rfl,hc 4 _ rfl⟩
def ju(p:cT)(i:Nat):Bool:=decide (p.copy<0)||decide ((i:Int)<p.copy)
theorem rL(y:ar)(A:aI)(B i:Nat)(p:cT)(w:World)(H:aO w B y A)(n:B≤w.heap.size)(j:y.papers[i]?=some p) :
  Cs 136 #[.agg (ak y A),iv i] w (Rt w (.bool (ju p i))):=by
 obtain⟨l,f,d⟩:=nA w (.cells (ak y A) 74);obtain⟨g,hg⟩:=ex w.heap.size;have q1:aa l g 74 (ak y A):=by rw[←f,←hg];exact aa.new w 74 _
 have k:=Lq d;have hgl:=q1.lt;obtain⟨b,off,hA,_,_,_,_,_,c4⟩:=(H.below d n).paper j;have x3:=q1.c 3;rw[hA]at x3;have hil:i<y.papers.length:=(lG j);have hmx:=H.la;unfold maxLen at hmx;have hi0:=nn i;have hiz:(i:Int)<(y.papers.length:Int):=by omega
 obtain⟨m,a⟩:=ex p.copy;unfold ju;rw[a]at c4 ⊢;clear H j d q1 a hA;by_cases h0:m<0
 ·go_enter Tryz.func136,Tryz.ntmps136
  go_wp2_with fail;go_ret
  exact⟨by simp[h0],k.out⟩
 ·go_enter Tryz.func136,Tryz.ntmps136
  go_wp2_with fail;go_ret
  exact⟨by simp;intro h;omega,k.out⟩
end
def gP(k p:Int)(c:cM):Bool:=c.kind==k&&c.place==p
theorem DK(c:cM)(k p:Int)(d:Nat)(w:World)(j:w.cell? ⟨d,0,none⟩=some (iv k))(l:w.cell? ⟨d,1,none⟩=some (iv p)) :
  Cs 192 #[.agg #[iv c.kind,iv c.place,iv c.lo,iv c.hi],pT d 0] w (Rt w (.bool (gP k p c))):=by
 obtain⟨i,f,a⟩:=nA w (.cells #[iv c.kind,iv c.place,iv c.lo,iv c.hi] 42);obtain⟨g,hg⟩:=ex w.heap.size;have q1:aa i g 42 #[iv c.kind,iv c.place,iv c.lo,iv c.hi]:=by rw[←f,←hg];exact aa.new w 42 _
 have b:=Lq a;obtain⟨x0,x1⟩:=q1.c2;have hgl:=q1.lt;have y0:=kC a j;have y1:=kC a l;obtain⟨kd,pl,lo,hi⟩:=c;simp only[gP]at *;clear a q1;by_cases e0:kd=k
 ·subst e0;by_cases e1:pl=p
  ·subst e1;go_enter Tryz.func192,Tryz.ntmps192
   go_wp2_with fail;go_ret
   exact⟨by simp,b.out⟩
  ·have h:(pl==p)=false:=by simpa using e1
   go_enter Tryz.func192,Tryz.ntmps192
   go_wp2_with fail;go_ret
   exact⟨by simp[h],b.out⟩
 ·have h:(kd==k)=false:=by simpa using e0
  go_enter Tryz.func192,Tryz.ntmps192
  go_wp2_with fail;go_ret
  exact⟨by simp[h],b.out⟩
theorem DL{k p:Int}{l:List cM}{i:Nat}{c:cM}(hc:l[i]?=some c):(l.take (i+1)).any (gP k p)=((l.take i).any (gP k p)||gP k p c):=by rw[List.take_add_one,hc,List.any_append];simp
def uY(k p:Int)(l:List cM)(w:World)(e:Ending)(w':World):Prop:=∃r:Int,e=.returned (iv r)∧BW w w'∧((r = -1∧l.any (gP k p)=false)∨∃(i:Nat) (c:cM),r=i∧l[i]?=some c∧gP k p c=true∧(l.take i).any (gP k p)=false)
theorem DM(F:Option Addr)(l:List cM)(B cap:Nat)(k p:Int)(d:Nat)(w:World)(o:aG 4 dq w B F l)(n:B≤w.heap.size)(t:l.length≤maxLen)(g:w.cell? ⟨d,0,none⟩=some (iv k))(j:w.cell? ⟨d,1,none⟩=some (iv p)) :
  Cs 191 #[.slice F l.length cap,.func (.func 192) #[] #[pT d 0]] w (uY k p l w):=by
 have q:=Lq o;have HS:Hid (∀(c:cM) W,BW w W→Cs 192 #[.agg #[iv c.kind,iv c.place,iv c.lo,iv c.hi],pT d 0] W (Rt W (.bool (gP k p c)))):=Lq fun c W hb=>DK c k p d W (kC hb g) (kC hb j)
 unfold maxLen at t;have r:=Lq n;clear o g j n;go_enter Tryz.func191,Tryz.ntmps191
 go_wp2_with fail;go_loopw [8] (fun i wr=>∃m:Nat,m≤l.length∧i=iv m∧Hid ((l.take m).any (gP k p)=false)∧Hid (BW w wr)) (fun i _=>l.length-(intOf i).toNat)
 case atStart=>exact⟨0,Nat.zero_le _,rfl,Lq rfl,Lq (bR _)⟩
 case round =>
  obtain⟨m,u,rfl,f,a⟩:=hrel;have hk0:=nn m;by_cases hlt:m<l.length
  case neg =>
   obtain rfl:m=l.length:=by omega
   go_wp2_with fail;go_ret
   refine⟨-1,rfl,a.out,.inl ⟨rfl, ?_⟩⟩;have h:=f.out
   rwa [List.take_length]at h
  have s:(m:Int)<(l.length:Int):=by omega
  obtain⟨c,hc⟩:=gX (l:=l) (i:=m) hlt;obtain⟨b,off,rfl,_,hcc⟩:=(q.out.below a.out r.out) m c hc;have c0:=hcc 0 _ rfl;have c1:=hcc 1 _ rfl;have c2:=hcc 2 _ rfl;have c3:=hcc 3 _ rfl;simp only[Nat.add_zero]at c0;have HCC:=Lq hc;obtain⟨bd,hbd⟩:=ex (gP k p c);have HD:Hid (Cs 192 #[.agg #[iv c.kind,iv c.place,iv c.lo,iv c.hi],pT d 0] wr (Rt wr (.bool bd))):=Lq (hbd▸HS.out c wr a.out);have HBD:=Lq hbd;clear hc hbd hcc;go_wp2_with fail;refine HD.out.mono ?_;rintro e w2 ⟨rfl,hb⟩;have HB2:=Lq (bT a.out hb);clear hb HD c0 c1 c2 c3;cases bd
  ·go_wp2_with fail;go_roundw
   case rel=>exact⟨m+1,hlt,by go_num,Lq (by rw[DL HCC.out,f.out,HBD.out];rfl),HB2⟩
   case measure=>simp[intOf];omega
  ·go_wp2_with fail;go_ret
   exact⟨m,rfl,HB2.out,.inr ⟨m,c,rfl,HCC.out,HBD.out,f.out⟩⟩
def uZ(k p:Int)(l:List cM)(w:World)(e:Ending)(w':World):Prop:=BW w w'∧((l.any (gP k p)=false∧e=.returned (.tuple #[.agg #[iv 0,iv 0],.bool false]))∨∃(i:Nat) (c:cM),l[i]?=some c∧gP k p c=true∧(l.take i).any (gP k p)=false∧e=.returned (.tuple #[.agg #[iv c.lo,iv c.hi],.bool true]))
theorem mU(F:Option Addr)(l:List cM)(B cap:Nat)(k p:Int)(w:World)(n:aG 4 dq w B F l)(m:B≤w.heap.size)(s:l.length≤maxLen) :
  Cs 135 #[.slice F l.length cap,.agg #[iv k,iv p]] w (uZ k p l w):=by
 obtain⟨j,h,g⟩:=nA w (.cells #[iv k,iv p] 216);obtain⟨W2,hW2,b2⟩:=nA j (.cells #[iv 0,iv 0] 33);obtain⟨g3,hg3⟩:=ex w.heap.size;obtain⟨g4,hg4⟩:=ex j.heap.size;have q3:aa W2 g3 216 #[iv k,iv p]:=by rw[←hW2];exact(by rw[←h,←hg3];exact aa.new w 216 _:aa j g3 216 #[iv k,iv p]).alloc _
 have t:aa W2 g4 33 #[iv 0,iv 0]:=by rw[←hW2,←hg4];exact aa.new j 33 _
 have u:=Lq (bT g b2);have HQ4:=Lq t;have HG4:Hid (w.heap.size≤g4):=Lq (by rw[←hg4];exact g.size)
 have q:Hid (Cs 191 #[.slice F l.length cap,.func (.func 192) #[] #[pT g3 0]] W2 (uY k p l W2)):=Lq (DM F l B cap k p g3 W2 (n.below (bT g b2) m) (lT m (bT g b2).size) s (q3.c 0) (q3.c 1));have HR:=Lq n;have HZ:=Lq m;unfold maxLen at s;clear n m g b2 q3 t;go_enter Tryz.func135,Tryz.ntmps135
 go_wp2_with fail;clear h hW2 hg3 hg4;refine q.out.mono ?_;rintro e z ⟨r,rfl,o,a⟩;have HB3:=Lq (bT u.out o);have qa:=HQ4.out.keep o;obtain⟨x0,x1⟩:=qa.c2;obtain⟨f0,f1⟩:=qa.f2;have hl:=qa.lt;have QA:=Lq qa;clear o qa q;rcases a with⟨rfl,hno⟩ | ⟨i,c,rfl,hc,hat,hno⟩
 ·have f:=Lq hno;clear hno;have qb:=(QA.out.set_ 0 (iv 0)).set_ 1 (iv 0);simp only[List.setIfInBounds_toArray,List.set_cons_zero,List.set_cons_succ]at qb;obtain⟨d0,d1⟩:=qb.c2;clear qb;go_wp2_with fail;exact bodyPost_ret (v:=.tuple #[.agg #[iv 0,iv 0],.bool false]) (by simp[results,Tryz.results135,go_sem,d0,d1]) rfl ⟨aH (aH HB3.out HG4.out (p:=⟨g4,0,none⟩) _) HG4.out (p:=⟨g4,1,none⟩) _,.inl ⟨f.out,rfl⟩⟩
 ·have x:i<l.length:=(lG hc);have hi0:=nn i;have hiz:(i:Int)<(l.length:Int):=by omega
  obtain⟨b,y,rfl,_,d⟩:=(HR.out.below HB3.out HZ.out) i c hc;have c2:=d 2 _ rfl;have c3:=d 3 _ rfl;have f:=Lq (And.intro hc (And.intro hat hno));have qb:=(QA.out.set_ 0 (iv c.lo)).set_ 1 (iv c.hi);simp only[List.setIfInBounds_toArray,List.set_cons_zero,List.set_cons_succ]at qb;obtain⟨d0,d1⟩:=qb.c2;clear qb d hc hat hno;go_wp2_with fail;exact bodyPost_ret (v:=.tuple #[.agg #[iv c.lo,iv c.hi],.bool true]) (by simp[results,Tryz.results135,go_sem,d0,d1]) rfl ⟨aH (aH HB3.out HG4.out (p:=⟨g4,0,none⟩) _) HG4.out (p:=⟨g4,1,none⟩) _,.inr ⟨i,c,f.out.1,f.out.2.1,f.out.2.2,rfl⟩⟩
end Go.Proofs.YtbillnhcmkpohaaGreatDoor
