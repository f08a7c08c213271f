/- hull: looks at ships (printed by mkHC1.py). hull: the closures of surveys; the ships that .. -/
import Derived.Test.YtbillnhcmkpohaaGreatDoorM11
set_option maxRecDepth 1000000
set_option maxHeartbeats 0
namespace Go.Proofs.YtbillnhcmkpohaaGreatDoor
open Go.RowKit
section
variable{nm:ByteArray}{fr:Int}
structure dX where
 nm:ByteArray
 fr:Int
 kd:Int
def lD(s:dX):List Value:=[.string s.nm,iv s.fr,iv s.kd]
theorem Er:∀s,(lD s).length=3:=fun _=>rfl
abbrev rZ(s:dX):Value:=.agg #[.string s.nm,iv s.fr,iv s.kd]
abbrev sa(s:cu):Value:=.agg #[.slice s.A s.ms.length s.cap]
theorem Es(P:dX→Bool)(A:Option Addr)(ms:List dX)(B cap:Nat)(g h:Value)(w:World)(o:ms.length≤maxLen)(n:B≤w.heap.size)(H:aG 3 lD w B A ms)(c:∀W m,BW w W→m∈ms→Cs 160 #[rZ m,g,h] W (Rt W (.bool (P m)))) :
  Cs 197 #[.slice A ms.length cap,.func (.func 160) #[] #[g,h]] w (Rt w (iv (dx P (ms)))):=by
 unfold maxLen at o;have j:=Lq H;have HCL:=Lq c;clear H c;go_enter Tryz.func197,Tryz.ntmps197
 go_wp2
 go_loopw [8] (fun i wr=>∃k:Nat,k≤ms.length∧i=iv k∧Hid (dS P ms k=false)∧Hid (BW w wr)) (fun i _=>ms.length-(intOf i).toNat)
 case atStart=>exact⟨0,Nat.zero_le _,rfl,Lq rfl,Lq (bR _)⟩
 case round =>
  obtain⟨k,p,rfl,d,a⟩:=hrel;by_cases hlt:k<ms.length
  ·obtain⟨m,hx⟩:=gX (l:=ms) (i:=k) hlt;obtain⟨b,off,rfl,_,hcs⟩:=(j.out.below a.out n) k m hx;obtain⟨snm,sfr,skd⟩:=m;have c0:wr.cell? ⟨b,off+k*3,none⟩=some (.string snm):=hcs 0 _ rfl;have c1:wr.cell? ⟨b,off+k*3+1,none⟩=some (iv sfr):=hcs 1 _ rfl;have c2:wr.cell? ⟨b,off+k*3+2,none⟩=some (iv skd):=hcs 2 _ rfl;have HC:=Lq (HCL.out wr ⟨snm,sfr,skd⟩ a.out (mG ⟨k,hx⟩));have HX:Hid (ms[k]?=some ⟨snm,sfr,skd⟩):=Lq hx;clear hx HCL hcs;obtain⟨bp,hbp⟩:=ex (P ⟨snm,sfr,skd⟩);have HBP:=Lq hbp;simp only[hbp]at HC;clear hbp;go_wp2_with fail;refine HC.out.mono ?_;rintro e w1 ⟨rfl,hb⟩;have HB1:=Lq (bT a.out hb);clear hb c0 c1 c2;cases bp
   ·go_wp2_with fail;go_roundw
    case rel=>exact⟨k+1,by omega,by go_num,Lq (kE HX.out d.out HBP.out),HB1⟩
    case measure=>simp[intOf];omega
   ·go_wp2_with fail;go_ret
    exact⟨dm (kD HX.out HBP.out d.out).1.symm,HB1.out⟩
  ·go_wp2_with fail;go_ret
   refine⟨dm (fL ?_).symm,a.out⟩;have f:=d.out;unfold dS at f;rw[List.take_of_length_le (by omega)]at f
   exact f
theorem Et(P:dX→Bool)(A:Option Addr)(ms:List dX)(B cap:Nat)(b c:Value)(w:World)(j:ms.length≤maxLen)(g:B≤w.heap.size)(H:aG 3 lD w B A ms)(a:∀W m,BW w W→m∈ms→Cs 160 #[rZ m,b,c] W (Rt W (.bool (P m)))) :
  Cs 161 #[.slice A ms.length cap,.func (.func 160) #[] #[b,c]] w (Rt w (.bool (bu P (ms)))):=by
 have d:=Lq (Es P A ms B cap b c w j g H a);clear H a;obtain⟨r,hr⟩:=ex (dx P ms);rw[hr]at d;have hd:decide (0≤r)=bu P ms:=by
  unfold bu;cases h:ms.any P
  ·rw[←hr,fL h];rfl
  ·have:=lm h;rw[hr]at this
   simpa using this
 have f:=Lq hd;clear hr hd;go_enter Tryz.func161,Tryz.ntmps161
 go_wp2_with fail;refine d.out.mono ?_;rintro e k ⟨rfl,i⟩;go_wp2_with fail;go_ret
 exact⟨aY f.out,i⟩
theorem Eu(P:cu→Bool)(A:Option Addr)(ms:List cu)(B cap:Nat)(g:Value)(w:World)(n:ms.length≤maxLen)(j:B≤w.heap.size)(H:am dr w B A ms)(c:∀W m,BW w W→m∈ms→Cs 100 #[sa m,g] W (Rt W (.bool (P m)))) :
  Cs 162 #[.slice A ms.length cap,.func (.func 100) #[] #[g]] w (Rt w (iv (dx P (ms)))):=by
 unfold maxLen at n;have h:=Lq H;have HCL:=Lq c;clear H c;go_enter Tryz.func162,Tryz.ntmps162
 go_wp2
 go_loopw [8] (fun i wr=>∃k:Nat,k≤ms.length∧i=iv k∧Hid (dS P ms k=false)∧Hid (BW w wr)) (fun i _=>ms.length-(intOf i).toNat)
 case atStart=>exact⟨0,Nat.zero_le _,rfl,Lq rfl,Lq (bR _)⟩
 case round =>
  obtain⟨k,o,rfl,d,a⟩:=hrel;by_cases hlt:k<ms.length
  ·obtain⟨m,hx⟩:=gX (l:=ms) (i:=k) hlt;obtain⟨b,off,rfl,_,c0⟩:=(h.out.below a.out j) k m hx;unfold dr at c0;have HC:=Lq (HCL.out wr m a.out (mG ⟨k,hx⟩));have HX:Hid (ms[k]?=some m):=Lq hx;clear hx HCL;obtain⟨bp,hbp⟩:=ex (P m);have HBP:=Lq hbp;simp only[hbp]at HC;clear hbp;go_wp2_with fail;refine HC.out.mono ?_;rintro e w1 ⟨rfl,hb⟩;have HB1:=Lq (bT a.out hb);clear hb c0;cases bp
   ·go_wp2_with fail;go_roundw
    case rel=>exact⟨k+1,by omega,by go_num,Lq (kE HX.out d.out HBP.out),HB1⟩
    case measure=>simp[intOf];omega
   ·go_wp2_with fail;go_ret
    exact⟨dm (kD HX.out HBP.out d.out).1.symm,HB1.out⟩
  ·go_wp2_with fail;go_ret
   refine⟨dm (fL ?_).symm,a.out⟩;have f:=d.out;unfold dS at f;rw[List.take_of_length_le (by omega)]at f
   exact f
theorem Ev(P:cu→Bool)(A:Option Addr)(ms:List cu)(B cap:Nat)(b:Value)(w:World)(i:ms.length≤maxLen)(f:B≤w.heap.size)(H:am dr w B A ms)(a:∀W m,BW w W→m∈ms→Cs 100 #[sa m,b] W (Rt W (.bool (P m)))) :
  Cs 99 #[.slice A ms.length cap,.func (.func 100) #[] #[b]] w (Rt w (.bool (bu P (ms)))):=by
 have c:=Lq (Eu P A ms B cap b w i f H a);clear H a;obtain⟨r,hr⟩:=ex (dx P ms);rw[hr]at c;have hd:decide (0≤r)=bu P ms:=by
  unfold bu;cases h:ms.any P
  ·rw[←hr,fL h];rfl
  ·have:=lm h;rw[hr]at this
   simpa using this
 have d:=Lq hd;clear hr hd;go_enter Tryz.func99,Tryz.ntmps99
 go_wp2_with fail;refine c.out.mono ?_;rintro e j ⟨rfl,g⟩;go_wp2_with fail;go_ret
 exact⟨aY d.out,g⟩
theorem Ew(A:Option Addr)(ms:List aj)(B cap h i:Nat)(s:ByteArray)(w:World)(j:B≤w.heap.size)(l:ms.length≤maxLen)(H:cF w B A ms)(hc:w.cell? ⟨h,i,none⟩=some (.slice A ms.length cap)) :
  Cs 88 #[pT h i,.string s] w (Rt w (iv (ct (ab ms) s))):=by
 obtain⟨g,b,a⟩:=nA w (.cells #[.string s] 9);have hq:aa g w.heap.size 9 #[.string s]:=by rw[←b];exact aa.new w 9 _
 have f:=tQ (aX s) A ms B cap (pT w.heap.size 0) g l (lT j a.size) (H.below a j) (fun W m hb _=>tT m s _ W ((hq.keep hb).c 0))
 rw[←tU]at f;obtain⟨r,k⟩:=ex (ct (ab ms) s);rw[k]at f ⊢;have HI:=Lq f;have HB1:=Lq a;have k0:g.cell? ⟨h,i,none⟩=some (.slice A ms.length cap):=kC a hc;have hlt:=br hc;clear f a hq k H hc;go_enter Tryz.func88,Tryz.ntmps88
 go_wp2_with fail;refine HI.out.mono ?_;rintro e n ⟨rfl,d⟩;have HB2:=Lq (bT HB1.out d);clear d b k0;go_wp2_with fail;go_ret
 exact⟨rfl,HB2.out⟩
def fG(l:List ah)(nm:ByteArray)(fr:Int):Int:=match l.find? (aX nm)with
 | some p=>if inB p.first p.last fr then p.kind else 0
 | none=>0
theorem Ex{l:List ah}(h:hasP l nm=false):fG l nm fr=0:=by
 unfold fG;have:l.find? (aX nm)=none:=by rw[List.find?_eq_none];intro p hp hb;exact kS.1 h p hp (dM.1 hb)
 rw[this]
theorem Ey{l:List ah}{p:ah}(h:hasP l nm=true)(b:l[aL l nm]?=some p):fG l nm fr=if inB p.first p.last fr then p.kind else 0:=by
 unfold fG;obtain⟨y,c,a⟩:=o6 h;rw[c];rw[b]at a;injection a with a
 subst a;rfl
theorem vQ(A:Option Addr)(ms:List aj)(cap n q:Nat)(nm:ByteArray)(fr:Int)(w:World)(H:az w w.heap.size A cap ms)(hc:w.cell? ⟨n,q,none⟩=some (.slice A ms.length cap)) :
  Cs 102 #[pT n q,.agg #[.string nm,iv fr]] w (Rt w (iv (fG (ab ms) nm fr))):=by
 obtain⟨y,u,t⟩:=nA w (.cells #[.string nm,iv fr] 187);have q1:aa y w.heap.size 187 #[.string nm,iv fr]:=by rw[←u];exact aa.new w 187 _
 obtain⟨z,v⟩:=ex w.heap.size;rw[v]at q1;obtain⟨r,hr⟩:=ex (ct (ab ms) nm);have HSL:Hid (∀W,BW y W→az W W.heap.size A cap ms):=Lq fun W hb=>let h:=bT t hb;(H.below h (lr _)).more h.size
 have O:Hid (∀W,BW y W→Cs 88 #[pT n q,.string nm] W (Rt W (iv r))):=Lq fun W hb=>by have h2:=HSL.out W hb;exact hr▸Ew A ms W.heap.size cap n q nm W (lr _) (lT h2.le h2.max) h2.rd (kC (bT t hb) hc)
 have I:Hid (∀W,BW y W→cA W n q (.slice A ms.length cap)∧cA W z 0 (.string nm)∧cA W z 1 (iv fr)):=Lq fun W hb=>have k:=q1.keep hb;⟨kC (bT t hb) hc,k.c 0,k.c 1⟩
 have J:=Lq hr;have HB1:=Lq t;have hml:ms.length≤9223372036854775807:=by have:=H.le;have:=H.max;simp only[maxLen]at this;omega
 obtain⟨s,G,B⟩:=I.out _ (bR _);have hlt:=br s;clear H hc t q1 hr;go_enter Tryz.func102,Tryz.ntmps102
 go_wp2_with fail;refine(O.out _ (bR _)).mono ?_;rintro e F ⟨rfl,(d:Hid _)⟩;clear s G B hlt u v;obtain⟨s,G,B⟩:=I.out _ d.out;have hlt:=br s;by_cases hh:hasP (ab ms) nm=true
 ·obtain⟨o,x,p,f,_⟩:=fU hh;have hsv:=Ey (fr:=fr) hh f;obtain⟨i,hi⟩:=ex (aL (ab ms) nm);rw[hi]at o x f;rw[J.out]at o;subst o;obtain⟨m,hm,hmp⟩:∃m,ms[i]?=some m∧m.p=p:=by
   rw[List.getElem?_map]at f;cases hx:ms[i]? with
   | none=>rw[hx]at f;cases f
   | some m=>rw[hx]at f;injection f with f;exact⟨m,rfl,f⟩
  subst hmp;obtain⟨b,a,R,_,_,c0,c1,C,D,K,L,M⟩:=(HSL.out F d.out).rd.at hm;obtain⟨⟨yn,yk,yf,yl,yon,yw,yz⟩,yA,yc⟩:=m;subst R;simp only at c0 c1 C D K L M hsv;obtain⟨bI,hbI⟩:=ex (inB yf yl fr);rw[hbI]at hsv;have HI:Hid (∀g W,W.cell? ⟨g,0,none⟩=some (iv fr)→Cs 13 #[iv yf,iv yl,.slice (some ⟨g,0,none⟩) 1 1] W (Rt W (.bool (!bI)))):=Lq fun g W hc=>hbI▸kR yf yl fr g W hc (br hc)
  have S:=nn i;have hi1:(i:Int)<(ms.length:Int):=by have:=(lG hm);omega
  have N:decide ((i:Int)<0)=false:=by simp
  have j:=Lq hsv;have HS:Hid (∀W,BW F W→cA W n q (.slice (some ⟨b,a,none⟩) ms.length cap)∧cA W z 1 (iv fr)∧cA W b (a+i*7+1) (iv yk)∧cA W b (a+i*7+2) (iv yf)∧cA W b (a+i*7+3) (iv yl)):=Lq fun W hb=>⟨kC hb s,kC hb B,kC hb c1,kC hb C,kC hb D⟩
  clear hsv hm f hh x hi hbI c0 K L M G B;go_wp2_with fail;go_region_held3 (fun W=>cA W n q (.slice (some ⟨b,a,none⟩) ms.length cap)∧cA W z 1 (iv fr)∧cA W b (a+i*7+1) (iv yk)∧cA W b (a+i*7+2) (iv yf)∧cA W b (a+i*7+3) (iv yl)) (first | exact HS.out _ (bT (bA (aZ (bR _)) _) hb7) | exact HS.out _ (bA (aZ (bR _)) _) | exact HS.out _ (aZ (bR _))) ((go_at_call 13;((with_reducible refine(HI.out _ _ (by go_simp)).mono ?_);rintro e w7 ⟨rfl,hb7⟩)))
  have l:=Lq (bT (bA (aZ (bR F)) (.cells #[iv fr] 3)) hb7);obtain⟨y0,y2,y3,y4,y5⟩:=HS.out _ l.out;have hl7:=br y0;clear hb7 s c1 C D hlt;cases bI with
  | true =>
   go_wp2_with fail;go_ret
   exact⟨dm j.out.symm,bT HB1.out (bT d.out l.out)⟩
  | false =>
   go_wp2_with fail;go_ret
   exact⟨dm j.out.symm,bT HB1.out (bT d.out l.out)⟩
 ·have E:r = -1:=by rw[←J.out];exact kY (by simpa using hh)
  have j:=Lq (Ex (fr:=fr) (by simpa using hh:hasP (ab ms) nm=false))
  subst E;clear hh;go_wp2_with fail;go_quiet (fail)
  rename_i T;go_wp2_with fail;go_ret
  exact⟨dm j.out.symm,bT HB1.out (bT d.out (cY (bR _) _))⟩
end
theorem Ez(h j bs os n cs i:Nat)(s:dX)(a:cu)(w:World)(q:w.cell? ⟨h,0,none⟩=some (.slice (some ⟨bs,os,none⟩) n cs))(r:w.cell? ⟨j,0,none⟩=some (iv i))(t:i<n)(f:w.cell? ⟨bs,os+i,none⟩=some (dr a))(g:az w w.heap.size a.A a.cap a.ms) :
  Cs 160 #[rZ s,pT h 0,pT j 0] w (Rt w (.bool (fG (ab a.ms) s.nm s.fr != s.kd))):=by
 obtain⟨b,fr,l⟩:=s;obtain⟨W1,hW1,b1⟩:=nA w (.cells #[.string b,iv fr,iv l] 113);have q1:aa W1 w.heap.size 113 #[.string b,iv fr,iv l]:=by rw[←hW1];exact aa.new w 113 _
 obtain⟨d,p⟩:=ex w.heap.size;rw[p]at q1;obtain⟨sv,hsv⟩:=ex (fG (ab a.ms) b fr);have HSE:Hid (∀W,BW W1 W→Cs 102 #[pT bs (os+i),.agg #[.string b,iv fr]] W (Rt W (iv sv))):=Lq fun W hb=>hsv▸vQ a.A a.ms a.cap bs (os+i) b fr W ((g.below (bT b1 hb) (lr _)).more (bT b1 hb).size) (kC (bT b1 hb) f)
 have o:Hid (∀W,BW W1 W→cA W h 0 (.slice (some ⟨bs,os,none⟩) n cs)∧cA W j 0 (iv i)∧cA W d 0 (.string b)∧cA W d 1 (iv fr)∧cA W d 2 (iv l)):=Lq fun W hb=>have k:=q1.keep hb;⟨kC (bT b1 hb) q,kC (bT b1 hb) r,k.c 0,k.c 1,k.c 2⟩
 have m:=Lq b1;have KSV:=Lq hsv;have hi0:=nn i;have hi1:(i:Int)<(n:Int):=by omega
 obtain⟨u,v,x,y,z⟩:=o.out _ (bR _);clear q r f g b1 q1 hsv;go_enter Tryz.func160,Tryz.ntmps160
 go_wp2_with fail;go_region_held3 (fun W=>cA W h 0 (.slice (some ⟨bs,os,none⟩) n cs)∧cA W j 0 (iv i)∧cA W d 0 (.string b)∧cA W d 1 (iv fr)∧cA W d 2 (iv l)) (first | exact o.out _ (u0 hb7) | exact o.out _ (aZ (bR _))) ((go_at_call 102;((with_reducible refine(HSE.out _ (aZ (bR _))).mono ?_);rintro e w7 ⟨rfl,hb7⟩)))
 go_wp2_with fail;go_ret
 refine⟨aY ?_,bT m.out (u0 hb7)⟩;simp only[KSV.out]
theorem EA(s:cu)(a:ByteArray)(i:Nat)(w:World)(f:w.cell? ⟨i,0,none⟩=some (.string a))(b:az w w.heap.size s.A s.cap s.ms) :
  Cs 100 #[sa s,pT i 0] w (Rt w (.bool (!hasP (ab s.ms) a))):=by
 obtain⟨ms,A,cap⟩:=s;obtain⟨W1,hW1,b1⟩:=nA w (.cells #[.slice A ms.length cap] 62);have q1:aa W1 w.heap.size 62 #[.slice A ms.length cap]:=by rw[←hW1];exact aa.new w 62 _
 obtain⟨g,d⟩:=ex w.heap.size;rw[d]at q1;obtain⟨r,hr⟩:=ex (ct (ab ms) a);have hd:decide (r<0)=!hasP (ab ms) a:=by
  cases h:hasP (ab ms) a with
  | true=>rw[←hr,(fU h).1];simp
  | false=>rw[←hr,kY h];rfl
 have j:Hid (Cs 88 #[pT g 0,.string a] W1 (Rt W1 (iv r))):=by have h2:=(b.below b1 (lr _)).more b1.size;exact Lq (hr▸jK A ms W1.heap.size cap g a W1 (lr _) (lT h2.le h2.max) h2.rd (q1.c 0))
 have m:=kC b1 f;have hl:=br f;have HB1:=Lq b1;have HD:=Lq hd;clear f b b1 q1 hr hd;go_enter Tryz.func100,Tryz.ntmps100
 go_wp2_with fail;refine j.out.mono ?_;rintro e l ⟨rfl,k⟩;go_wp2_with fail;go_ret
 exact⟨aY HD.out,bT HB1.out k⟩
theorem Tryz.info62:(Tryz.prog.info? 62).map (fun i=>(i.zero,i.size,i.bytes))=some (some (.agg #[.slice none 0 0]),1,24):=by kernel_rfl
def dF(shs:List cu)(ag:List Nat):List cu:=ag.filterMap fun i=>shs[i]?
theorem EB{a:List cu}{b:List Nat}{k i:Nat}{s:cu}(d:b[k]?=some i)(c:a[i]?=some s):dF a (b.take (k+1))=dF a (b.take k)++[s]:=by unfold dF;rw[List.take_add_one,d];simp[c]
theorem vR{a:List cu}{b:List Nat}{s:cu}(h:s∈dF a b):s∈a:=by unfold dF at h;obtain⟨i,_,c⟩:=List.mem_filterMap.1 h;exact mG ⟨i,c⟩
theorem vT(n m:Option Addr)(a:List cu)(d:List Nat)(cs z:Nat)(w:World)(H:fQ w w.heap.size n a)(B:am nv w w.heap.size m d)(D:d.length≤1000)(t:∀i∈d,i<a.length) :
  Cs 98 #[.agg #[.slice n a.length cs,.slice m d.length z]] w fun e w'=>∃v,e=.returned v∧w'.ownsRow w.heap.size 62 1 v (dF a d).length ((dF a d).map dr)∧BW w w':=by
 obtain⟨j,p,u⟩:=nA w (.cells #[.slice n a.length cs,.slice m d.length z] 177);have q1:aa j w.heap.size 177 #[.slice n a.length cs,.slice m d.length z]:=by rw[←p];exact aa.new w 177 _
 obtain⟨G,q⟩:=ex w.heap.size;rw[q]at q1;have HH:Hid (∀W,BW j W→fQ W W.heap.size n a):=Lq fun W hb=>let h:=bT u hb;(H.below h (lr _)).more h.size
 have y:Hid (∀W,BW j W→am nv W W.heap.size m d):=Lq fun W hb=>let h:=bT u hb;(B.below h (lr _)).more h.size
 have C:=Lq q1;have HB1:=Lq u;have HIN:=Lq t;obtain⟨i109,hi109,hz1090,hz1091,hz1092⟩:=info_parts Tryz.info62;have A:=q1.c 0;have x1:=q1.c 1;clear H B u q1 t;go_enter Tryz.func98,Tryz.ntmps98
 go_wp2_with fail;clear A x1 p q;go_loopw [2,8] (fun v i wr=>∃k:Nat,k≤d.length∧i=iv k∧Hid (wr.ownsRow j.heap.size 62 1 v (dF a (d.take k)).length ((dF a (d.take k)).map dr))∧Hid (BW j wr)) (fun _ i _=>d.length-(intOf i).toNat)
 case atStart=>exact⟨0,Nat.zero_le _,rfl,Lq (World.ownsRow_nil _ _ _ _),Lq (bR _)⟩
 case round =>
  obtain⟨k,I,rfl,o,f⟩:=hrel;have hk0:=nn k;by_cases hlt:k<d.length
  ·obtain⟨x,hx⟩:=gX (l:=d) (i:=k) hlt;have hxl:=HIN.out x (mG ⟨k,hx⟩);obtain⟨s,hs⟩:=gX (l:=a) (i:=x) hxl;obtain⟨b,off,hA,_,c0⟩:=(y.out wr f.out) k x hx;obtain⟨b2,off2,hA2,_,c1⟩:=(HH.out wr f.out).rd x s hs;subst hA hA2;have HPS:=Lq (EB hx hs);have HPL:Hid ((dF a (d.take k)).length≤k):=Lq (by unfold dF;exact lT (List.length_filterMap_le _ _) (by rw[List.length_take];omega))
   have A:=(C.out.keep f.out).c 0;have hx0:=nn x;have hx1:(x:Int)<(a.length:Int):=by omega
   have E:=HPL.out;have HAL:=Lq (o.out.alloc (.cells #[dr s] 62));clear hx hs;unfold dr at c1;go_wp2_with (at_builtin;refine wpList_append_own _ rfl _ _ 175 rfl j.heap.size 62 i109 (.agg #[.slice none 0 0]) 1 24 Tryz.underlying175 hi109 hz1090 hz1091 hz1092 rfl (by decide) _ _ _ rfl HAL.out ⟨wr.heap.size,0,none⟩ 1 1 [dr s] rfl rfl (fK _ _ _) ?d2 ?d3 ?d4 ?d5 ?_)
   case d2=>simp[Value.oneCell',dr]
   case d3=>unfold maxLen;omega
   case d4=>omega
   case d5=>have:=f.out.size;(try simp only[World.size_alloc]);omega
   intro J F g r _;have hb9:BW j F:=cC HAL.out r (lr _) (bA f.out _);have HB9:=Lq hb9;have HO9:=Lq g;clear g r hb9 c0 c1 A;go_wp2_with fail;go_roundw
   case measure=>simp[intOf];omega
   case rel =>
    refine⟨k+1,by omega,by go_num,Lq ?_,HB9⟩
    rw[HPS.out]
    simpa using HO9.out
  ·obtain rfl:k=d.length:=by omega
   go_wp2_with fail;go_ret
   refine⟨_,rfl, ?_,bT HB1.out f.out⟩;have h:=dv o.out HB1.out.size;rw[List.take_of_length_le (lr _)]at h;exact h
section
variable{base c g n:Nat}{A:Option Addr}{v:Value}{W W1 w:World}
structure mt where
 A:Option Addr
 C:Option Addr
 cap:Nat
 capc:Nat
 ms:List aj
 cs:List ao
structure kJ(w:World)(b o:Nat)(p q:mt):Prop where
 p0:w.cell? ⟨b,o,none⟩=some (.slice p.A p.ms.length p.cap)
 p1:w.cell? ⟨b,o+1,none⟩=some (.slice p.C p.cs.length p.capc)
 q0:w.cell? ⟨b,o+2,none⟩=some (.slice q.A q.ms.length q.cap)
 q1:w.cell? ⟨b,o+2+1,none⟩=some (.slice q.C q.cs.length q.capc)
 pp:fF w p.A p.C p.cap p.capc p.ms p.cs
 qq:fF w q.A q.C q.cap q.capc q.ms q.cs
 q00:q.cs.length=0
theorem kJ.below{b o:Nat}{p q:mt}(h:kJ w b o p q)(a:BW w W):kJ W b o p q:=⟨kC a h.p0,kC a h.p1,kC a h.q0,kC a h.q1,h.pp.below a,h.qq.below a,h.q00⟩
theorem EC{t:TypeId}{C:Option Addr}{m d:Nat}(h:aa w g t #[.slice A n c,.slice C m d]):∀o s,w.cell? ⟨g,o,none⟩≠some (.string s):=by
 intro o s hc;rw[h.cell]at hc
 match o,hc with
 | 0,hc=>injection hc with hc;cases hc
 | 1,hc=>injection hc with hc;cases hc
 | o+2,hc=>rw[Array.getElem?_eq_none (by show 2≤o+2;omega)]at hc;cases hc
def pI(l:List ah)(sg:List dX):Bool:=sg.all fun s=>fG l s.nm s.fr==s.kd
def bD(shs:List (List ah))(sg:List dX)(n:Nat):List Nat:=(List.range n).filter fun i=>match shs[i]? with
 | some l=>pI l sg
 | none=>false
structure pJ(s:dX):Prop where
 nm:du s.nm=true
 sz:s.nm.size≤maxLen
 fr:inB 0 40 s.fr=true
 kd:inB 0 5 s.kd=true
def ED(a b:List ah)(sg:List dX)(w:World)(e:Ending)(w':World):Prop:=∃(g c:Nat) (Ag:Option Addr) (cg:Nat) (s1 s2:cu),e=.returned (.tuple #[.agg #[.slice (some ⟨g,0,none⟩) 2 c,.slice Ag (bD [a,b] sg 2).length cg],iv 0])∧BW w w'∧ab s1.ms=a∧ab s2.ms=b∧fQ w' w'.heap.size (some ⟨g,0,none⟩) [s1,s2]∧am nv w' w'.heap.size Ag (bD [a,b] sg 2)∧(bD [a,b] sg 2).length≤cg∧cg≤maxLen
theorem fS{α:Type}{enc:α→Value}{e:TypeId}{xs:List α}(h:w.ownsRow base e 1 v xs.length (xs.map enc)):∃A cap,v=.slice A xs.length cap∧am enc w w.heap.size A xs∧xs.length≤cap∧cap≤maxLen:=by
 obtain⟨A,cap,a,b,_⟩:=io h;refine⟨A,cap,a,b, ?_⟩;rcases h.2 with⟨hv,hn⟩ | ⟨g,c,cur,hv,_,_,hc,hm,_⟩
 ·rw[a]at hv;injection hv with _ h3 h4
  subst h4;exact⟨by omega,Nat.zero_le _⟩
 ·rw[a]at hv;injection hv with _ _ h4
  subst h4;exact⟨hc,hm⟩
theorem EE{t:TypeId}{f i j:Value}(a b d:Value)(h:aa w g t #[f,i,j]):aa (((w.setCell ⟨g,0,none⟩ a).setCell ⟨g,1,none⟩ b).setCell ⟨g,2,none⟩ d) g t #[a,b,d]:=by
 have h:=((h.set_ 0 a).set_ 1 b).set_ 2 d
 simpa using h
theorem EF(wr:World)(t:TypeId)(a b d f h i:Value):∃Wa W2,wr.alloc (.cells #[a,b,d] t)=Wa∧(((Wa.setCell ⟨wr.heap.size,0,none⟩ f).setCell ⟨wr.heap.size,1,none⟩ h).setCell ⟨wr.heap.size,2,none⟩ i)=W2∧BW wr W2∧aa Wa wr.heap.size t #[a,b,d]∧BW wr Wa∧aa W2 wr.heap.size t #[f,h,i]:=by
 refine⟨_,_,rfl,rfl, ?_,aa.new wr t _,bA (bR _) _, ?_⟩
 ·exact((((ai.of_below (bR _) wr.heap.size).set 0 _).set 1 _).set 2 _).below (bA (bR _) _) (lr _)
 ·exact EE _ _ _ (aa.new wr t _)
theorem EG{a:List (List ah)}{sg:List dX}{j:Nat}{l:List ah}(h:a[j]?=some l):bD a sg (j+1)=bD a sg j++(if pI l sg then[j]else[]):=by unfold bD;rw[List.range_succ,List.filter_append];simp only[List.filter_cons,List.filter_nil,h]
theorem sb(a:List (List ah))(sg:List dX)(j:Nat):(bD a sg j).length≤j:=by unfold bD;exact lT (List.length_filter_le _ _) (by simp)
theorem Tryz.info3:(Tryz.prog.info? 3).map (fun i=>(i.zero,i.size,i.bytes))=some (some (iv 0),1,8):=by kernel_rfl
structure EH(W1 wr:World)(gf:Nat)(la:List ah)(s1:cu)(g1 c1:Nat):Prop where
 ps:ab s1.ms=la
 blk:aa wr gf 177 #[.slice (some ⟨g1,0,none⟩) 1 c1,.slice none 0 0]
 row:wr.ownsRow W1.heap.size 62 1 (.slice (some ⟨g1,0,none⟩) 1 c1) 1 [dr s1]
 only:ai W1 wr gf
 sl:∀W,aB gf g1 wr W→az W W.heap.size s1.A s1.cap s1.ms
structure pK(W1 wr:World)(gf:Nat)(la lb:List ah)(s1 s2:cu)(g c:Nat):Prop where
 ps:ab s1.ms=la∧ab s2.ms=lb
 blk:aa wr gf 177 #[.slice (some ⟨g,0,none⟩) 2 c,.slice none 0 0]
 r0:wr.cell? ⟨g,0,none⟩=some (dr s1)
 r1:wr.cell? ⟨g,1,none⟩=some (dr s2)
 ne:W1.heap.size≤g
 only:ai W1 wr gf
 sl:∀W,ai wr W gf→az W W.heap.size s1.A s1.cap s1.ms∧az W W.heap.size s2.A s2.cap s2.ms
theorem pK.below{wr:World}{b:Nat}{d f:List ah}{i j:cu}(h:pK W1 wr b d f i j g c)(a:BW wr W):pK W1 W b d f i j g c :=
 ⟨h.ps,h.blk.keep a,kC a h.r0,kC a h.r1,h.ne,oT h.only (ai.of_below a b),fun X k=>h.sl X (oT (ai.of_below a b) k)⟩
theorem az.moved{cap:Nat}{ms:List aj}(h:az w w.heap.size A cap ms)(b:∀o s,w.cell? ⟨g,o,none⟩≠some (.string s))(a:ai w W g):az W W.heap.size A cap ms:=(h.apart b a).more a.size
theorem mZ{w':World}{e:TypeId}{size:Nat}{xs:List Value}(h:w.ownsRow base e size v n xs)(b:w.grownBy w' v.ownBlock)(i:W1.heap.size≤base)(a:ai W1 w g):ai W1 w' g :=
 ⟨b.os.trans a.os,b.tape.trans a.tape,b.output.trans a.output,lT a.size b.size,fun k f d=>(b.block k (lz f a.size) (fun e=>by have:=(h.lt k e.symm).1;omega)).trans (a.block k f d)⟩
theorem sc(b o cp:Nat)(p q:mt)(sg:List dX)(Ss:Option Addr)(ap:Nat)(day:Int)(w:World)(H:kJ w b o p q)(hd:inB 0 40000 day=true)(hP:bS (ab p.ms) (an p.cs))(hQ:bS (ab q.ms) (an q.cs))(HS:aG 3 lD w w.heap.size Ss sg)(ag:sg.length≤12)(O:∀s∈sg,pJ s) :
  Cs 97 #[.slice (some ⟨b,o,none⟩) 2 cp,iv day,.slice Ss sg.length ap] w (ED (aA day (ab p.ms) (an p.cs)) (aA day (ab q.ms) (an q.cs)) sg w):=by
 obtain⟨W1,aw,b1⟩:=nA w (.cells #[.slice none 0 0,.slice none 0 0] 177);have q1:aa W1 w.heap.size 177 #[.slice none 0 0,.slice none 0 0]:=by rw[←aw];exact aa.new w 177 _
 obtain⟨t,aq⟩:=ex w.heap.size;rw[aq]at q1;have HQ1:=Lq q1;have HB1:=Lq b1;have HGF:Hid (w.heap.size≤t):=Lq (Nat.le_of_eq aq);have HPL:Hid (∀W,BW w W→kJ W b o p q):=Lq fun W y=>H.below y
 have av:Hid (∀W,BW w W→aG 3 lD W W.heap.size Ss sg):=Lq fun W y=>(HS.below y (lr _)).more y.size
 have HI:Hid (∀g W,W.cell? ⟨g,0,none⟩=some (iv 2)→Cs 13 #[iv 1,iv 6,.slice (some ⟨g,0,none⟩) 1 1] W (Rt W (.bool false))):=Lq fun g W hc=>kR 1 6 2 g W hc (br hc)
 have aJ:Hid (∀g W,W.cell? ⟨g,0,none⟩=some (iv day)→Cs 13 #[iv 0,iv 40000,.slice (some ⟨g,0,none⟩) 1 1] W (Rt W (.bool false))):=Lq fun g W hc=>by have h:=kR 0 40000 day g W hc (br hc);rw[hd]at h;exact h
 have HD:=Lq hd;have HPP:=Lq hP;have HQQ:=Lq hQ;have HSO:=Lq O;obtain⟨la,hla⟩:=ex (aA day (ab p.ms) (an p.cs));obtain⟨lb,hlb⟩:=ex (aA day (ab q.ms) (an q.cs));rw[hla,hlb];have HLA:=Lq hla;have HLB:=Lq hlb;obtain⟨i109,hi109,hz1090,hz1091,hz1092⟩:=info_parts Tryz.info62;clear H HS hd hP hQ O hla hlb b1 q1;go_enter Tryz.func97,Tryz.ntmps97
 go_wp2_with fail;refine(HI.out _ _ (by go_simp)).mono ?_
 rintro e w2 ⟨rfl,y⟩;have HB2:=Lq (bT (bA (bR W1) _) y);clear y aw aq HI;go_wp2_with fail;go_loopw [25] (fun i wr=>∃k:Nat,k≤2∧i=iv k∧Hid ((k=0∧BW W1 wr)∨(k=1∧∃s1 g1 c1,EH W1 wr t la s1 g1 c1)∨(k=2∧∃s1 s2 g c,pK W1 wr t la lb s1 s2 g c))) (fun i _=>2-(intOf i).toNat)
 case atStart=>exact⟨0,Nat.zero_le _,rfl,Lq (.inl ⟨rfl,HB2.out⟩)⟩
 case round =>
  obtain⟨k,hk,rfl,ad⟩:=hrel;have hst:=ad.out;rcases hst with⟨rfl,hbr⟩ | ⟨rfl,s1,g1,c1,O⟩ | ⟨rfl,s1,s2,g,c,hst⟩
  ·have hw:=bT HB1.out hbr;have hpl:=HPL.out wr hw;obtain⟨⟨pA,pC,pcap,pcapc,pms,pcs⟩,hpe⟩:=ex p;subst hpe;have p0:=hpl.p0;have p1:=hpl.p1;simp only at p0 p1 HPP HLA;obtain⟨Wa,W3,J,hW3,hb3,a,K,hq3⟩:=iq wr 27 (.slice none 0 0) (.slice none 0 0) (.slice pA pms.length pcap) (.slice pC pcs.length pcapc);obtain⟨g9,hg9⟩:=ex wr.heap.size;rw[hg9]at hW3 a hq3;have HB3:=Lq (bT hbr hb3);have HBD:Hid (Cs 29 #[.agg #[.slice pA pms.length pcap,.slice pC pcs.length pcapc],iv day] W3 (rD pms pcs day W3)):=Lq (let h:=(HPL.out W3 (bT hw hb3)).pp;uA pA pC pms pcs W3.heap.size pcap pcapc day W3 (lr _) h.sl h.ch h.wf);have af:=a.frozen 0;have af1:=a.frozen 1;have ac:=a.c 0;have ac1:=a.c 1;have al:=a.lt;have d0:=hq3.c 0;have d1:=hq3.c 1;clear hbr hw hpl hb3 a K hq3 ad;go_wp2_with fail;refine HBD.out.mono ?_;rintro e w4 ⟨rp,ri,r,Ax,n,c,rfl,y,G,M⟩;obtain rfl:=G.2 HPP.out;obtain⟨out,rfl,hps,ag⟩:=M rfl;obtain⟨Wb,W5,hWb,hW5,hb5,hqb,hbb,hq5⟩:=gg w4 62 (.slice none 0 0) (.slice Ax out.length c);obtain⟨g10,hg10⟩:=ex w4.heap.size;rw[hg10]at hW5 hqb hq5;have hb14:=bT HB3.out y;have E:=Lq hb14;have HB45:=Lq hb5;have HQ4:=Lq (HQ1.out.keep hb14);have HQ5:=Lq ((HQ1.out.keep hb14).keep hb5);have HSL:=Lq ag;have HPS:=Lq (hps.trans HLA.out);have bf:=hqb.frozen 0;have bc:=hqb.c 0;have bl:=hqb.lt;have e0:=hq5.c 0;have g0:=HQ5.out.c 0;have gfz:=HQ5.out.frozen 0;have gl:=HQ5.out.lt;have HAL:=Lq ((World.ownsRow_nil (w:=W5) W5.heap.size 62 1 |>.alloc (.cells #[dr ⟨out,Ax,c⟩] 62)))
   clear y G M hps ag hb5 hqb hbb hq5 hb14 p0 p1 af af1 ac ac1 al d0 d1 J hW3 hg9;go_wp2_with (at_builtin;refine wpList_append_own _ rfl _ _ 175 rfl W5.heap.size 62 i109 (.agg #[.slice none 0 0]) 1 24 Tryz.underlying175 hi109 hz1090 hz1091 hz1092 rfl (by decide) _ _ _ rfl HAL.out ⟨W5.heap.size,0,none⟩ 1 1 [dr ⟨out,Ax,c⟩] rfl rfl (fK _ _ _) ?d2 ?d3 ?d4 ?d5 ?_)
   case d2=>simp[Value.oneCell',dr]
   case d3=>unfold maxLen;omega
   case d4=>omega
   case d5=>(try simp only[World.size_alloc]);omega
   intro v9 I f d _;have hb59:BW W5 I:=cC HAL.out d (lr _) (bA (bR _) _);obtain⟨g1,c1,rfl,hgb,ae,_⟩:=gI f (by omega)
   have z:=HQ5.out.keep hb59;have k0:=z.c 0;have k1:=z.frozen 0;have k2:=z.lt;have HB59:=Lq hb59;have HO9:=Lq f;have HG9:=Lq hgb;have HQ9:=Lq z;clear f d hb59 z e0 g0 gfz gl bf bc bl hWb hW5 hg10;go_wp2_with fail;go_roundw
   case measure=>simp[intOf]
   case rel =>
    have L:ai I (I.setCell ⟨t,0,none⟩ (.slice (some ⟨g1,0,none⟩) 1 c1)) t:=ai.of_set (bR I) t 0 _;have hgg:t<g1:=lz HQ5.out.lt HG9.out;refine⟨1,by omega,rfl,Lq (.inr (.inl ⟨rfl,⟨out,Ax,c⟩,g1,c1,HPS.out, ?_, ?_, ?_, ?_⟩))⟩
    ·have h:=HQ9.out.set_ 0 (.slice (some ⟨g1,0,none⟩) 1 c1)
     simpa using h
    ·exact dv (jq HO9.out L (by have:=HQ5.out.lt;omega)) (lT E.out.size HB45.out.size)
    ·exact oT (ai.of_below (bT E.out (bT HB45.out HB59.out)) t) L
    ·intro W R;have hall:aB t g1 w4 W:=(aB.of_below (bT HB45.out HB59.out)).trans ((aB.of_only L).trans R);have hoo:ai w4 W t:=⟨hall.os,hall.tape,hall.output,hall.size,fun k hk hne=>hall.block k hk hne (by have:=HB45.out.size;have:=HG9.out;omega)⟩
     exact HSL.out.moved (EC HQ4.out) hoo
  ·have hw:BW w wr:=O.only.below HB1.out HGF.out;have hpl:=HPL.out wr hw;obtain⟨⟨qA,qC,qcap,qcapc,qms,qcs⟩,hqe⟩:=ex q;subst hqe;have p0:=hpl.q0;have p1:=hpl.q1;have hq00:=hpl.q00;simp only at p0 p1 HQQ HLB hq00;obtain⟨Wa,W3,J,hW3,hb3,a,K,hq3⟩:=iq wr 27 (.slice none 0 0) (.slice none 0 0) (.slice qA qms.length qcap) (.slice qC qcs.length qcapc);obtain⟨g9,hg9⟩:=ex wr.heap.size;rw[hg9]at hW3 a hq3;have HB3:=Lq hb3;have HBD:Hid (Cs 29 #[.agg #[.slice qA qms.length qcap,.slice qC qcs.length qcapc],iv day] W3 (py qA qcap qms qcs day W3)):=Lq (let h:=(HPL.out W3 (bT hw hb3)).qq;rF qA qC qms qcs W3.heap.size qcap qcapc day W3 (lr _) h.sl h.ch h.wf);have af:=a.frozen 0;have af1:=a.frozen 1;have ac:=a.c 0;have ac1:=a.c 1;have al:=a.lt;have d0:=hq3.c 0;have d1:=hq3.c 1;have HSO1:=Lq O;have HQ00:=Lq hq00;have HPSQ:Hid (ab qms=lb):=by
    have hc:an qcs=[]:=List.length_eq_zero_iff.1 (by simpa using hq00)
    have h:=HLB.out;rw[hc]at h;exact Lq h
   clear hw hpl hb3 a K hq3 ad O hq00;go_wp2_with fail;refine HBD.out.mono ?_;rintro e w4 ⟨rp,ri,r,Ax,n,c,rfl,y,G,M,V,_⟩;obtain rfl:=G.2 HQQ.out;obtain⟨rfl,rfl,rfl⟩:=V rfl HQ00.out;obtain⟨Wb,W5,hWb,hW5,hb5,hqb,hbb,hq5⟩:=gg w4 62 (.slice none 0 0) (.slice Ax qms.length c);obtain⟨g10,hg10⟩:=ex w4.heap.size;rw[hg10]at hW5 hqb hq5;have hb15:=bT HB3.out (bT y hb5);have HB15:=Lq hb15;have HQ5:=Lq (HSO1.out.blk.keep hb15);have bf:=hqb.frozen 0;have bc:=hqb.c 0;have bl:=hqb.lt;have e0:=hq5.c 0;have g0:=HQ5.out.c 0;have gfz:=HQ5.out.frozen 0;have gl:=HQ5.out.lt;have HAL:=Lq ((aN HSO1.out.row hb15).alloc (.cells #[dr ⟨qms,Ax,c⟩] 62));have h15:W1.heap.size≤W5.heap.size:=lT HSO1.out.only.size hb15.size;clear y G M V hb5 hqb hbb hq5 hb15 p0 p1 af af1 ac ac1 al d0 d1 J hW3 hg9;go_wp2_with (at_builtin;refine wpList_append_own _ rfl _ _ 175 rfl W1.heap.size 62 i109 (.agg #[.slice none 0 0]) 1 24 Tryz.underlying175 hi109 hz1090 hz1091 hz1092 rfl (by decide) _ _ _ rfl HAL.out ⟨W5.heap.size,0,none⟩ 1 1 [dr ⟨qms,Ax,c⟩] rfl rfl (fK _ _ _) ?e2 ?e3 ?e4 ?e5 ?_)
   case e2=>simp[Value.oneCell',dr]
   case e3=>unfold maxLen;omega
   case e4=>omega
   case e5=>(try simp only[World.size_alloc]);omega
   intro v9 I f d _;obtain⟨g2,c2,rfl,hgb,ae,_⟩:=gI f (by omega)
   have aP:t<g1:=lz HQ1.out.lt ((HSO1.out.row.lt g1 rfl).1);have z:aa I t 177 #[.slice (some ⟨g1,0,none⟩) 1 c1,.slice none 0 0]:=(HQ5.out.alloc _).grown d (by simp only[Value.ownBlock];intro h;injection h with h;omega)
   have k0:=z.c 0;have k1:=z.frozen 0;have k2:=z.lt;have HO9:=Lq f;have HG9:=Lq hgb;have HQ9:=Lq z;have Z:Hid (ai W1 I t):=Lq (mZ HAL.out d (lr _) (oT HSO1.out.only (ai.of_below (bA HB15.out _) t)));have HTW:Hid (aB t g1 wr I):=Lq ((aB.of_below (bA HB15.out _)).trans ⟨d.os,d.tape,d.output,d.size,fun k hk _ h2=>d.block k hk (by simp only[Value.ownBlock];intro h;injection h with h;exact h2 h)⟩)
   clear f d z e0 g0 gfz gl bf bc bl hWb hW5 hg10;go_wp2_with fail;go_roundw
   case measure=>simp[intOf]
   case rel =>
    have L:ai I (I.setCell ⟨t,0,none⟩ (.slice (some ⟨g2,0,none⟩) 2 c2)) t:=ai.of_set (bR I) t 0 _;have hgg:t<g2:=lz HQ1.out.lt HG9.out;have hrow:=jq HO9.out L HQ1.out.lt;refine⟨2,by omega,rfl,Lq (.inr (.inr ⟨rfl,s1,⟨qms,Ax,c⟩,g2,c2,⟨HSO1.out.ps,HPSQ.out⟩, ?_, ?_, ?_,HG9.out,oT Z.out L, ?_⟩))⟩
    ·have h:=HQ9.out.set_ 0 (.slice (some ⟨g2,0,none⟩) 2 c2)
     simpa using h
    ·exact hrow.cellAt 0 (by omega)
    ·exact hrow.cellAt 1 (by omega)
    ·intro W R;refine⟨HSO1.out.sl W (HTW.out.trans ((aB.of_only L).trans (aB.of_only R))), ?_⟩;exact(HPL.out W ((oT (oT Z.out L) R).below HB1.out HGF.out)).qq.sl
  ·have HT:=Lq hst;clear ad hst;have HBW:Hid (BW w wr):=Lq (HT.out.only.below HB1.out HGF.out);go_wp2_with fail;refine(aJ.out _ _ (by go_simp)).mono ?_
   rintro e w3 ⟨rfl,y⟩;have HB3:=Lq (bT (bA (bR wr) _) y);clear y;have hsl1:¬(sg.length:Int)>12:=by omega
   go_wp2_with fail;go_loopw [60] (fun i aO=>∃j:Nat,j≤sg.length∧i=iv j∧Hid (BW wr aO)) (fun i _=>sg.length-(intOf i).toNat)
   case atStart=>exact⟨0,Nat.zero_le _,rfl,HB3⟩
   case round =>
    obtain⟨j,hj,rfl,Y⟩:=hrel;have hj0:=nn j;by_cases hjl:j<sg.length
    ·obtain⟨s,X⟩:=gX (l:=sg) (i:=j) hjl;obtain⟨bs,os,rfl,_,hcs⟩:=(av.out _ (bT HBW.out Y.out)) j s X;have hok:=HSO.out s (mG ⟨j,X⟩);obtain⟨nm,fr,kd⟩:=s;have c0:wr.cell? ⟨bs,os+j*3,none⟩=some (.string nm):=hcs 0 _ rfl;have c1:wr.cell? ⟨bs,os+j*3+1,none⟩=some (iv fr):=hcs 1 _ rfl;have c2:wr.cell? ⟨bs,os+j*3+2,none⟩=some (iv kd):=hcs 2 _ rfl;have HNM:Hid (∀W,Cs 53 #[.string nm] W (Rt W (.bool true))):=Lq fun W=>by
      have h:=oU nm W hok.sz;rw[hok.nm]at h;exact h
     have aI:Hid (∀g W,W.cell? ⟨g,0,none⟩=some (iv fr)→Cs 13 #[iv 0,iv 40,.slice (some ⟨g,0,none⟩) 1 1] W (Rt W (.bool false))):=Lq fun g W hc=>by have h:=kR 0 40 fr g W hc (br hc);rw[hok.fr]at h;exact h
     have aK:Hid (∀g W,W.cell? ⟨g,0,none⟩=some (iv kd)→Cs 13 #[iv 0,iv 5,.slice (some ⟨g,0,none⟩) 1 1] W (Rt W (.bool false))):=Lq fun g W hc=>by have h:=kR 0 5 kd g W hc (br hc);rw[hok.kd]at h;exact h
     obtain⟨Wa,W4,J,S,N,a,K,D⟩:=EF wr 113 (.string ⟨#[]⟩) (iv 0) (iv 0) (.string nm) (iv fr) (iv kd);obtain⟨g15,hg15⟩:=ex wr.heap.size;rw[hg15]at S a D;have E:=Lq (bT Y.out N);have HQ15:=Lq D;have af0:=a.frozen 0;have af1:=a.frozen 1;have af2:=a.frozen 2;have ac0:=a.c 0;have ac1:=a.c 1;have ac2:=a.c 2;have al:=a.lt;have d0:=D.c 0;clear X hok hcs N a K D;go_wp2_with fail;refine(HNM.out _).mono ?_;rintro e w5 ⟨rfl,y⟩;have HQ5:=Lq (HQ15.out.keep y);have HB5:=Lq (bT E.out y);clear y c0 c1 c2 af0 af1 af2 ac0 ac1 ac2 al d0 J S hg15;have d1:=HQ5.out.c 1;go_wp2_with fail;refine(aI.out _ _ (by go_simp)).mono ?_
     rintro e w6 ⟨rfl,y⟩;have HQ6:=Lq (HQ5.out.keep (bT (bA (bR _) _) y));have HB6:=Lq (bT HB5.out (bT (bA (bR _) _) y));clear y d1;have d2:=HQ6.out.c 2;go_wp2_with fail;refine(aK.out _ _ (by go_simp)).mono ?_
     rintro e w7 ⟨rfl,y⟩;have HB7:=Lq (bT HB6.out (bT (bA (bR _) _) y));clear y d2;go_wp2_with fail;go_roundw
     case measure=>simp[intOf];omega
     case rel=>exact⟨j+1,by omega,by go_num,HB7⟩
    ·obtain rfl:j=sg.length:=by omega
     have u:=Lq (HT.out.below Y.out);have HBW7:=Lq (bT HBW.out Y.out);have k0:=u.out.blk.c 0;go_wp2_with fail;clear k0;go_loopw [86] (fun i wr3=>∃(j:Nat) (va:Value),j≤2∧i=iv j∧Hid (aa wr3 t 177 #[.slice (some ⟨g,0,none⟩) 2 c,va])∧Hid (wr3.ownsRow wr.heap.size 3 1 va (bD [la,lb] sg j).length ((bD [la,lb] sg j).map nv))∧Hid (ai wr wr3 t)) (fun i _=>2-(intOf i).toNat)
     case atStart=>exact⟨0,_,Nat.zero_le _,rfl,Lq u.out.blk,Lq (World.ownsRow_nil _ _ _ _),Lq (ai.of_below (bR _) _)⟩
     case round =>
      obtain⟨j,va,aQ,rfl,F,ao,C⟩:=hrel;have hj0:=nn j;have hbw:BW w wr:=C.out.below HBW7.out HGF.out;by_cases hjl:j<2
      ·obtain⟨sj,lj,U,ak,aF,aD⟩:∃(sj:cu) (lj:List ah),(∀W,ai wr W t→cA W g (0+j) (dr sj))∧(∀W,ai wr W t→az W W.heap.size sj.A sj.cap sj.ms)∧ab sj.ms=lj∧[la,lb][j]?=some lj:=by
        have B:g≠t:=by have h1:=u.out.ne;have h2:=HQ1.out.lt;omega
        rcases(show j=0∨j=1 by omega)with rfl | rfl
        ·exact⟨s1,la,fun W R=>(oT C.out R).cell u.out.r0 B,fun W R=>(u.out.sl W (oT C.out R)).1,u.out.ps.1,rfl⟩
        ·exact⟨s2,lb,fun W R=>(oT C.out R).cell u.out.r1 B,fun W R=>(u.out.sl W (oT C.out R)).2,u.out.ps.2,rfl⟩
       have ar:=Lq (EG (sg:=sg) aD);obtain⟨Wa,W4,J,S,N,a,K,D⟩:=gg wr 3 (iv 0) (iv j);obtain⟨gi,hgi⟩:=ex wr.heap.size;rw[hgi]at S a D;obtain⟨ba,hba2⟩:=ex (bu (fun s:dX=>fG (ab sj.ms) s.nm s.fr != s.kd) sg)
       have aj:pI lj sg=!ba:=by rw[←hba2,aF];unfold pI bu;rw[Bool.eq_iff_iff];simp only[List.all_eq_true,Bool.not_eq_true',List.any_eq_false];exact⟨fun h s X=>by have:=h s X;simp at this;simp[this],fun h s X=>by have:=h s X;simpa using this⟩
       have aH:Hid (∀W,BW W4 W→Cs 161 #[.slice Ss sg.length ap,.func (.func 160) #[] #[.pointer (some ⟨t,0,none⟩),.pointer (some ⟨gi,0,none⟩)]] W (Rt W (.bool ba))):=Lq fun W y=>by
        have ax:=bT N y;rw[←hba2];refine Et _ Ss sg W.heap.size ap _ _ W (lT ag (by unfold maxLen;omega)) (lr _) (av.out W (bT hbw ax)) (fun W2 m hb3 _=>?_)
        have T:=bT ax hb3;exact Ez t gi g 0 2 c j m sj W2 ((F.out.keep T).c 0) ((D.keep (bT y hb3)).c 0) hjl (U W2 (ai.of_below T t)) (ak W2 (ai.of_below T t))
       have E:=Lq N;have HQ4:=Lq D;have HAB:=Lq aj;have af:=a.frozen 0;have ac:=a.c 0;have al:=a.lt;clear U ak aF aD N a K D hba2 aj hbw;go_wp2_with fail;refine(aH.out _ (bR _)).mono ?_;rintro e w5 ⟨rfl,y⟩;have HB5:=Lq (bT E.out y);have d0:=(HQ4.out.keep y).c 0;have HBK5:=Lq (F.out.keep (bT E.out y));have HRW5:=Lq (aN ao.out (bT E.out y));clear y af ac al J S hgi;cases ba with
       | true =>
        go_wp2_with fail;go_roundw
        case measure=>simp[intOf];omega
        case rel =>
         refine⟨j+1,va,by omega,by go_num,HBK5,Lq ?_,Lq (oT C.out (ai.of_below HB5.out t))⟩
         rw[ar.out,HAB.out]
         simpa using HRW5.out
       | false =>
        have k1:=HBK5.out.c 1;have HAL:=Lq (HRW5.out.alloc (.cells #[iv j] 3));have hlen:=sb [la,lb] sg j;obtain⟨i3,hi3,hz30,hz31,hz32⟩:=info_parts Tryz.info3;go_wp2_with (at_builtin;refine wpList_append_own _ rfl _ _ 48 rfl (World.heap _).size 3 i3 (iv 0) 1 8 Tryz.underlying48 hi3 hz30 hz31 hz32 rfl (by decide) _ _ _ rfl HAL.out ⟨w5.heap.size,0,none⟩ 1 1 [iv j] rfl rfl (fK _ _ _) ?f2 ?f3 ?f4 ?f5 ?_)
        case f2=>simp[Value.oneCell']
        case f3=>unfold maxLen;omega
        case f4=>omega
        case f5=>have:=HB5.out.size;have:=C.out.size;(try simp only[World.size_alloc]);omega
        intro v9 I f d _;obtain⟨A9,c9,rfl⟩:=gK f;have hro:=HRW5.out.lt;have hgf7:=u.out.blk.lt;have z:aa I t 177 #[.slice (some ⟨g,0,none⟩) 2 c,va]:=(HBK5.out.alloc _).grown d (fun e=>by have:=(hro t e.symm).1;omega)
        have Z:Hid (ai _ I t):=Lq (mZ HAL.out d (lr _) (oT C.out (ai.of_below (bA HB5.out _) t)));have k2:=z.frozen 1;have k3:=z.c 1;have k4:=z.lt;have HO9:=Lq f;have HQ9:=Lq z;clear f d z hro;go_wp2_with fail;go_roundw
        case measure=>simp[intOf];omega
        case rel =>
         have L:ai I (I.setCell ⟨t,1,none⟩ (.slice A9 ((bD [la,lb] sg j).length+1) c9)) t:=ai.of_set (bR I) t 1 _;refine⟨j+1,.slice A9 ((bD [la,lb] sg j).length+1) c9,by omega,by go_num,Lq ?_,Lq ?_,Lq (oT Z.out L)⟩
         ·have h:=HQ9.out.set_ 1 (.slice A9 ((bD [la,lb] sg j).length+1) c9)
          simpa using h
         ·rw[ar.out,HAB.out];have h:=jq HO9.out L hgf7
          simpa using h
      ·obtain rfl:j=2:=by omega
       obtain⟨Ag,cg,rfl,aM,aC,aE⟩:=fS ao.out;have k0:=F.out.c 0;have k1:=F.out.c 1;have kf0:=F.out.frozen 0;have kf1:=F.out.frozen 1;have kl:=F.out.lt;obtain⟨W9,hW9⟩:=ex ((wr.setCell ⟨t,0,none⟩ (.slice (some ⟨g,0,none⟩) 2 c)).setCell ⟨t,1,none⟩ (.slice Ag (bD [la,lb] sg 2).length cg));have L:ai wr W9 t:=by rw[←hW9];exact((ai.of_below (bR wr) t).set 0 _).set 1 _
       have q9:aa W9 t 177 #[.slice (some ⟨g,0,none⟩) 2 c,.slice Ag (bD [la,lb] sg 2).length cg]:=by
        rw[←hW9];have h:=(F.out.set_ 0 (.slice (some ⟨g,0,none⟩) 2 c)).set_ 1 (.slice Ag (bD [la,lb] sg 2).length cg)
        simpa using h
       have d0:=q9.c 0;have d1:=q9.c 1;have hgf7:=u.out.blk.lt;have hrow9:=jq ao.out L hgf7;have hall:=oT C.out L;have B:g≠t:=by have h1:=u.out.ne;have h2:=HQ1.out.lt;omega
       have au:Hid (BW w W9):=Lq (hall.below HBW7.out HGF.out);have HSH:Hid (fQ W9 W9.heap.size (some ⟨g,0,none⟩) [s1,s2]):=Lq ⟨fun i x hx=>by
         have ae:g<W9.heap.size:=br (hall.cell u.out.r0 B)
         match i,hx with
         | 0,hx=>simp at hx;subst hx;exact⟨g,0,rfl,ae,hall.cell u.out.r0 B⟩
         | 1,hx=>simp at hx;subst hx;exact⟨g,0,rfl,ae,hall.cell u.out.r1 B⟩
         | n+2,hx=>simp at hx,fun s X=>by
         simp only[List.mem_cons,List.not_mem_nil,or_false]at X;rcases X with rfl | rfl
         ·exact(u.out.sl W9 hall).1
         ·exact(u.out.sl W9 hall).2⟩
       have aL:Hid (am nv W9 W9.heap.size Ag (bD [la,lb] sg 2)):=Lq (BI hrow9 rfl);have HLE:Hid ((bD [la,lb] sg 2).length≤cg∧cg≤maxLen):=Lq ⟨aC,aE⟩;clear L q9 hrow9 hall aM aC aE hbw;go_wp2_with fail;exact bodyPost_ret (v:=.tuple #[.agg #[.slice (some ⟨g,0,none⟩) 2 c,.slice Ag (bD [la,lb] sg 2).length cg],iv 0]) (by simp[results,Tryz.results97,go_sem,d0,d1]) rfl ⟨g,c,Ag,cg,s1,s2,rfl,au.out,u.out.ps.1,u.out.ps.2,HSH.out,aL.out,HLE.out.1,HLE.out.2⟩
end
def gQ(ls:List (List ah))(ag:List Nat):List (List ah):=ag.filterMap fun i=>ls[i]?
def gA(ls:List (List ah)):List ByteArray:=fv (ls.flatMap fun l=>l.map ah.name)
def lE(ls:List (List ah)):List ByteArray:=(gA ls).filter fun nm=>ls.all fun l=>hasP l nm
theorem vU{d f:cu}{a b:List ah}(g:ab d.ms=a)(h:ab f.ms=b)(c:List Nat):(dF [d,f] c).map (fun s=>ab s.ms)=gQ [a,b] c:=by
 subst g h;unfold dF gQ;rw[List.map_filterMap]
 congr 1
 funext i
 match i with
 | 0=>rfl
 | 1=>rfl
 | n+2=>rfl
theorem vV(a:List cu):bU a=(a.map fun s=>ab s.ms).flatMap fun l=>l.map ah.name:=by unfold bU mX;rw[List.flatMap_map]
theorem vW{a:List (List ah)}{sg:List dX}{n i:Nat}(h:i∈bD a sg n):i<n:=by unfold bD at h;exact List.mem_range.1 (List.mem_filter.1 h).1
def EI(ls:List (List ah))(sg:List dX)(w:World)(e:Ending)(w':World):Prop:=∃(A:Option Addr) (c:Nat),e=.returned (.tuple #[.slice A (bD ls sg 2).length c,iv 0])∧am nv w' w'.heap.size A (bD ls sg 2)∧(bD ls sg 2).length≤c∧c≤maxLen∧BW w w'
theorem EJ(b o x:Nat)(p q:mt)(sg:List dX)(m:Option Addr)(h:Nat)(day:Int)(w:World)(H:kJ w b o p q)(B:inB 0 40000 day=true)(y:bS (ab p.ms) (an p.cs))(z:bS (ab q.ms) (an q.cs))(v:aG 3 lD w w.heap.size m sg)(j:sg.length≤12)(k:∀s∈sg,pJ s) :
  Cs 44 #[.slice (some ⟨b,o,none⟩) 2 x,iv day,.slice m sg.length h] w (EI [aA day (ab p.ms) (an p.cs),aA day (ab q.ms) (an q.cs)] sg w):=by
 have f:=Lq (sc b o x p q sg m h day w H B y z v j k);obtain⟨la,hla⟩:=ex (aA day (ab p.ms) (an p.cs));obtain⟨lb,hlb⟩:=ex (aA day (ab q.ms) (an q.cs));rw[hla,hlb]at f ⊢;clear H v B y z k hla hlb j;go_enter Tryz.func44,Tryz.ntmps44
 go_wp2_with fail;refine f.out.mono ?_;rintro e C ⟨g,c,u,l,D,E,rfl,A,n,r,t,d,a,i⟩;obtain⟨L,hL⟩:=ex (bD [la,lb] sg 2);rw[hL]at d a;have HL:=Lq hL;obtain⟨Wa,W3,hWa,hW3,hb3,hqa,hba,hq3⟩:=iq C 177 (.slice none 0 0) (.slice none 0 0) (.slice (some ⟨g,0,none⟩) 2 c) (.slice u L.length l);obtain⟨g8,hg8⟩:=ex C.heap.size;rw[hg8]at hW3 hqa hq3;have HB3:=Lq (bT A hb3);have HRD:=Lq ((d.below hb3 (lr _)).more hb3.size);have HLE:Hid (L.length≤l∧l≤maxLen):=Lq ⟨a,i⟩;have af:=hqa.frozen 0;have af1:=hqa.frozen 1;have ac:=hqa.c 0;have ac1:=hqa.c 1;have al:=hqa.lt;have d1:=hq3.c 1;simp only[hL];clear A n r t d a i hb3 hqa hba hq3 hL;go_wp2_with fail
 go_ret2
 refine⟨u,l, ?_, ?_, ?_,HLE.out.2,HB3.out⟩
 ·rw[HL.out];rfl
 ·rw[HL.out];exact HRD.out
 ·rw[HL.out];exact HLE.out.1
def EK(ls:List (List ah))(w:World)(e:Ending)(w':World):Prop:=∃(A1 A2:Option Addr) (c1 c2:Nat),e=.returned (.tuple #[.slice A1 (lE ls).length c1,.slice A2 (gA ls).length c2,iv 0])∧am .string w' w'.heap.size A1 (lE ls)∧am .string w' w'.heap.size A2 (gA ls)∧(lE ls).length≤c1∧c1≤maxLen∧(gA ls).length≤c2∧c2≤maxLen∧BW w w'
theorem EL(b o cp:Nat)(p q:mt)(sg:List dX)(Ss:Option Addr)(S:Nat)(day:Int)(w:World)(H:kJ w b o p q)(hd:inB 0 40000 day=true)(hP:bS (ab p.ms) (an p.cs))(hQ:bS (ab q.ms) (an q.cs))(HS:aG 3 lD w w.heap.size Ss sg)(ad:sg.length≤12)(ae:∀s∈sg,pJ s)(h0:0<(bD [aA day (ab p.ms) (an p.cs),aA day (ab q.ms) (an q.cs)] sg 2).length)(d:0<((gQ [aA day (ab p.ms) (an p.cs),aA day (ab q.ms) (an q.cs)] (bD [aA day (ab p.ms) (an p.cs),aA day (ab q.ms) (an q.cs)] sg 2)).flatMap fun l=>l.map ah.name).length)(k:((gQ [aA day (ab p.ms) (an p.cs),aA day (ab q.ms) (an q.cs)] (bD [aA day (ab p.ms) (an p.cs),aA day (ab q.ms) (an q.cs)] sg 2)).flatMap fun l=>l.map ah.name).length≤1000) :
  Cs 46 #[.slice (some ⟨b,o,none⟩) 2 cp,iv day,.slice Ss sg.length S] w (EK (gQ [aA day (ab p.ms) (an p.cs),aA day (ab q.ms) (an q.cs)] (bD [aA day (ab p.ms) (an p.cs),aA day (ab q.ms) (an q.cs)] sg 2)) w):=by
 have R:=Lq (sc b o cp p q sg Ss S day w H hd hP hQ HS ad ae);obtain⟨la,hla⟩:=ex (aA day (ab p.ms) (an p.cs));obtain⟨lb,hlb⟩:=ex (aA day (ab q.ms) (an q.cs));rw[hla,hlb]at R h0 d k ⊢;obtain⟨ag,hag⟩:=ex (bD [la,lb] sg 2);have hin:∀i∈ag,i<2:=fun i hi=>vW (hag▸hi)
 have U:ag.length≤2:=hag▸sb _ _ _;rw[hag]at h0 d k ⊢;obtain⟨PL,hPL⟩:=ex (gQ [la,lb] ag);rw[hPL]at d k ⊢;have HAG:=Lq hag;have HPL:=Lq hPL;have HIN:=Lq hin;have HNM:=Lq d;have HNM9:=Lq k;have hag0:¬((ag.length:Int)=0):=by omega
 have au:((ag.length:Int)==0)=false:=by simpa using hag0
 clear H HS hd hP hQ ae hla hlb ad hag hPL hin d k h0;go_enter Tryz.func46,Tryz.ntmps46
 go_wp2_with fail;refine R.out.mono ?_;rintro e w2 ⟨g,c,Ag,cg,s1,s2,rfl,r,Y,Z,aa,n,V,aq⟩;rw[HAG.out]at n V;simp only[HAG.out];obtain⟨Wa,W3,F,hW3,hb3,a,I,hq3⟩:=iq w2 177 (.slice none 0 0) (.slice none 0 0) (.slice (some ⟨g,0,none⟩) 2 c) (.slice Ag ag.length cg);obtain⟨g9,x⟩:=ex w2.heap.size;rw[x]at hW3 a hq3;have HB3:=Lq (bT r hb3);have HQ9:=Lq hq3;have HLF:Hid (∀W,BW W3 W→Cs 98 #[.agg #[.slice (some ⟨g,0,none⟩) 2 c,.slice Ag ag.length cg]] W fun e w'=>∃A c9,e=.returned (.slice A (dF [s1,s2] ag).length c9)∧fQ w' w'.heap.size A (dF [s1,s2] ag)∧(dF [s1,s2] ag).length≤c9∧c9≤maxLen∧BW W w'):=Lq fun W hbW=>by
  have C:=bT hb3 hbW;have hs:=(aa.below C (lr _)).more C.size;refine(vT (some ⟨g,0,none⟩) Ag [s1,s2] ag c cg W hs ((n.below C (lr _)).more C.size) (by omega) (fun i hi=>HIN.out i hi)).mono ?_
  rintro e w' ⟨v,rfl,X,G⟩;obtain⟨A,c9,rfl,h1,h2,h3⟩:=fS X;exact⟨A,c9,rfl,⟨h1,fun s hs'=>((hs.ok s (vR hs')).below G (lr _)).more G.size⟩,h2,h3,G⟩
 have z:=vU Y Z ag;rw[HPL.out]at z;obtain⟨SH,hSH⟩:=ex (dF [s1,s2] ag);rw[hSH]at HLF z;have HPP:=Lq z;have HALL:Hid (bU SH=PL.flatMap fun l=>l.map ah.name):=Lq (by rw[vV,z])
 have av:SH.length≤2:=by rw[←hSH];unfold dF;exact lT (List.length_filterMap_le _ _) U
 have af:=a.frozen 0;have af1:=a.frozen 1;have ac:=a.c 0;have ac1:=a.c 1;have al:=a.lt;have d0:=hq3.c 0;have d1:=hq3.c 1;clear r Y Z aa n V aq hb3 a I hq3 z hSH;go_wp2_with fail;refine(HLF.out _ (bR _)).mono ?_;rintro e w4 ⟨A4,c4,rfl,hsr,hle4,hmx4,hb4⟩;have HNA:Hid (Cs 94 #[.slice A4 SH.length c4] w4 fun e w'=>∃g c,e=.returned (.slice (some ⟨g,0,none⟩) (gA PL).length c)∧am .string w' w'.heap.size (some ⟨g,0,none⟩) (gA PL)∧(gA PL).length≤c∧c≤maxLen∧BW w4 w'):=by
  have h:=vw A4 SH w4.heap.size c4 w4 (lr _) (by unfold maxLen;omega) hsr (by rw[HALL.out];exact HNM.out) (by rw[HALL.out];exact HNM9.out)
  rw[HALL.out]at h;exact Lq h
 have N:=Lq hb4;clear hsr hle4 hmx4 hb4 af af1 ac ac1 al d0 d1 F hW3 x;go_wp2_with fail;refine HNA.out.mono ?_;rintro e w5 ⟨gn,cn,rfl,n,hln,hcn,r⟩;obtain⟨NL,hNL⟩:=ex (gA PL);have HNL:=Lq hNL;simp only[hNL]at n hln ⊢;have HRDW:Hid (∀W,BW w5 W→am .string W W.heap.size (some ⟨gn,0,none⟩) NL):=Lq fun W r=>(n.below r (lr _)).more r.size
 have u:=Lq (bT N.out r);have HLN:Hid (NL.length≤cn∧cn≤maxLen):=Lq ⟨hln,hcn⟩;have hnl1000:NL.length≤1000:=by rw[←hNL];exact lT (rX _) HNM9.out
 obtain⟨i9,ap,ai,aj,ak⟩:=info_parts Tryz.info9;clear n r hNL HNA hln hcn;go_wp2_with fail;go_loopw [6,33] (fun v i wr=>∃j:Nat,j≤NL.length∧i=iv j∧Hid (wr.ownsRow w5.heap.size 9 1 v ((NL.take j).filter fun f=>PL.all fun l=>hasP l f).length (((NL.take j).filter fun f=>PL.all fun l=>hasP l f).map .string))∧Hid (BW w5 wr)) (fun _ i _=>NL.length-(intOf i).toNat)
 case atStart=>exact⟨0,Nat.zero_le _,rfl,Lq (by simp only[List.take_zero,List.filter_nil,List.length_nil,List.map_nil];exact World.ownsRow_nil _ _ _ _),Lq (bR _)⟩
 case round =>
  obtain⟨j,hj,rfl,O,t⟩:=hrel;have hj0:=nn j;by_cases hlt:j<NL.length
  ·obtain⟨f,d⟩:=gX (l:=NL) (i:=j) hlt;obtain⟨b2,off,hA,_,c0⟩:=(HRDW.out wr t.out) j f d;injection hA with hA
   injection hA with e1 e2
   subst e1 e2;rw[Nat.zero_add]at c0;obtain⟨bl,J⟩:=ex (bu (fun s:cu=>!hasP (ab s.ms) f) SH)
   have D:(PL.all fun l=>hasP l f)=!bl:=by rw[←J,←HPP.out];unfold bu;rw[List.all_map,Bool.eq_iff_iff];simp only[List.all_eq_true,Bool.not_eq_true',List.any_eq_false,Function.comp_apply];exact⟨fun h s hs=>by simp[h s hs],fun h s hs=>by simpa using h s hs⟩
   have HF:Hid ((NL.take (j+1)).filter (fun f=>PL.all fun l=>hasP l f)=(NL.take j).filter (fun f=>PL.all fun l=>hasP l f)++(if bl then[]else[f])):=Lq (by rw[List.take_add_one,d,List.filter_append];simp only[Option.toList_some,List.filter_cons,List.filter_nil,D];cases bl<;>rfl)
   have ao:Hid (((NL.take j).filter fun f=>PL.all fun l=>hasP l f).length≤j):=Lq (lT (List.length_filter_le _ _) (by rw[List.length_take];omega))
   obtain⟨Wa,W6,F,T,B,a,I,K⟩:=gg wr 9 (.string ⟨#[]⟩) (.string f);obtain⟨g11,hg11⟩:=ex wr.heap.size;rw[hg11]at T a K;have HB6:=Lq B;have HQ6:=Lq K;have af:=a.frozen 0;have ac:=a.c 0;have al:=a.lt;have hq9:=HQ9.out.keep (bT u.out (bT t.out B));have d0:=hq9.c 0;have d1:=hq9.c 1;have HB36:=Lq (bT u.out (bT t.out B));have HBL:=Lq J;clear d J D B a I K hq9;go_wp2_with fail;refine(HLF.out _ HB36.out).mono ?_;rintro e w7 ⟨A7,c7,rfl,hsr,hle7,hmx7,hb7⟩;have HCN:Hid (Cs 99 #[.slice A7 SH.length c7,.func (.func 100) #[] #[pT g11 0]] w7 (Rt w7 (.bool bl))):=Lq (by rw[←HBL.out];exact Ev _ A7 SH w7.heap.size c7 _ w7 (by unfold maxLen;omega) (lr _) hsr.rd (fun W m hbm hm=>EA m f g11 W ((HQ6.out.keep (bT hb7 hbm)).c 0) (((hsr.ok m hm).below hbm (lr _)).more hbm.size)))
   have E:=Lq (bT HB6.out hb7);have HQ67:=Lq (HQ6.out.keep hb7);clear hsr hle7 hmx7 hb7 c0 d0 d1 af ac al F T hg11;go_wp2_with fail;refine HCN.out.mono ?_;rintro e w8 ⟨rfl,r⟩;have HB8:=Lq (bT E.out r);have e0:=(HQ67.out.keep r).c 0;have HRW8:=Lq (aN O.out (bT E.out r));have HB58:=Lq (bT t.out (bT E.out r));clear r;cases bl with
   | true =>
    go_wp2_with fail;go_roundw
    case measure=>simp[intOf];omega
    case rel =>
     refine⟨j+1,by omega,by go_num,Lq ?_,HB58⟩
     rw[HF.out]
     simpa using HRW8.out
   | false =>
    have M:=Lq (HRW8.out.alloc (.cells #[.string f] 9));have hln:=ao.out;go_wp2_with (at_builtin;refine wpList_append_own _ rfl _ _ 40 rfl w5.heap.size 9 i9 (.string ⟨#[]⟩) 1 16 Tryz.underlying40 ap ai aj ak rfl (by decide) _ _ _ rfl M.out ⟨w8.heap.size,0,none⟩ 1 1 [.string f] rfl rfl (fK _ _ _) ?d2 ?d3 ?d4 ?d5 ?_)
    case d2=>simp[Value.oneCell']
    case d3=>unfold maxLen;omega
    case d4=>omega
    case d5=>have:=HB58.out.size;(try simp only[World.size_alloc]);omega
    intro v9 ar y x _;have hb9:BW w5 ar:=cC M.out x (lr _) (bA HB58.out _);have HB20:=Lq hb9;have HO9:=Lq y;clear y x hb9;go_wp2_with fail;go_roundw
    case measure=>simp[intOf];omega
    case rel =>
     refine⟨j+1,by omega,by go_num,Lq ?_,HB20⟩
     rw[HF.out]
     simpa using HO9.out
  ·obtain rfl:j=NL.length:=by omega
   have L:=O.out;rw[List.take_of_length_le (lr _)]at L;obtain⟨A1,c1,rfl,hrd1,hle1,hmx1⟩:=fS L;have HR1:=Lq hrd1;have HL1:Hid (_∧c1≤maxLen):=Lq ⟨hle1,hmx1⟩;clear L hrd1 hle1 hmx1;go_wp2_with fail
   go_ret3
   refine⟨A1,some ⟨gn,0,none⟩,c1,cn, ?_, ?_, ?_, ?_,HL1.out.2, ?_,HLN.out.2,bT HB3.out (bT u.out t.out)⟩
   ·unfold lE;rw[HNL.out];rfl
   ·unfold lE;rw[HNL.out];exact HR1.out
   ·rw[HNL.out];exact HRDW.out _ t.out
   ·unfold lE;rw[HNL.out];exact HL1.out.1
   ·rw[HNL.out];exact HLN.out.1
end Go.Proofs.YtbillnhcmkpohaaGreatDoor
namespace Go.Proofs.YtbillnhcmkpohaaGreatDoor
open Go.RowKit Go.Shelf
section
variable{nm:ByteArray}{f k:Nat}
attribute [local go_sem] Oper.semAt_some
abbrev pL(s:ByteArray×Int):Value:=.agg #[.string s.1,iv s.2]
def ix(nm:ByteArray)(f:Nat):List (ByteArray×Int):=(List.range f).map fun(x:Nat)=>(nm,(x:Int))
def dG(NL:List ByteArray):List (ByteArray×Int):=NL.flatMap fun nm=>ix nm 41
theorem vY(nm:ByteArray)(f:Nat):ix nm (f+1)=ix nm f++[(nm,(f:Int))]:=by unfold ix;rw[List.range_succ,List.map_append];rfl
theorem vZ{a:List ByteArray}(h:a[k]?=some nm):dG (a.take (k+1))=dG (a.take k)++ix nm 41:=by unfold dG;rw[List.take_add_one,h];simp
theorem EP(nm:ByteArray){g:Nat}(h:f≤g):ix nm f <+: ix nm g:=by
 unfold ix;have e:List.range f=(List.range g).take f:=by rw[List.take_range,Nat.min_eq_left h]
 rw[e,List.map_take];exact List.take_prefix _ _
theorem EQ{a:List ByteArray}(h:a[k]?=some nm)(c:f<41):dG (a.take k)++ix nm f++[(nm,(f:Int))] <+: dG a:=by
 rw[List.append_assoc,←vY];have b:dG a=dG (a.take (k+1))++dG (a.drop (k+1)):=by unfold dG;rw[←List.flatMap_append,List.take_append_drop]
 rw[b,vZ h];exact((List.prefix_append_right_inj _).2 (EP nm (by omega))).trans (List.prefix_append _ _)
theorem ER(A:Option Addr)(n cap:Nat)(w:World):Cs 101 #[.slice A n cap] w fun e w' =>
  e=.returned (.func (.func 163) #[] #[pT w.heap.size 0])∧w'=w.alloc (.cells #[.slice A n cap] 175):=by
 go_enter Tryz.func101,Tryz.ntmps101
 go_wp2
 go_ret
 exact⟨rfl,rfl⟩
theorem ES(Y:Nat)(A:Option Addr)(a:List cu)(cap:Nat)(w:World)(z:w.cell? ⟨Y,0,none⟩=some (.slice A a.length cap))(O:a.length≤maxLen)(H:fQ w w.heap.size A a)(R:0<(bU a).length)(E:(bU a).length≤1000) :
  vX 163 #[pT Y 0] pL (dG (fv (bU a))) (fun _=>True) w:=by
 intro M l m J W b S u G s;refine callsIn_wide.2 ?_;have q0:=kC b z;have HNM:=Lq (vu A a W.heap.size cap W (lr _) O ((H.below b (lr _)).more b.size) R E);have hnl:(fv (bU a)).length≤1000:=lT (rX _) E;obtain⟨NL,hNL⟩:=ex (fv (bU a));rw[hNL]at HNM hnl G ⊢;have HJB:=Lq u;have HY:=Lq G;have HJ0:=Lq s;have HMM:=Lq S;clear z H S u G s hNL b R E;go_enter Tryz.func163,Tryz.ntmps163
 go_wp2_with fail;refine HNM.out.mono ?_;rintro e q ⟨g,c,rfl,y,N,K,I,L⟩;have HCL:Hid (∀V,bX M q V→∀j x,NL[j]?=some x→cA V g j (.string x)):=Lq fun V hV j x hx=>by
  obtain⟨b2,Z,F,_,c0⟩:=y j x hx;injection F with F
  injection F with e1 e2
  subst e1 e2;rw[Nat.zero_add]at c0;exact hV.cell c0 (fun O=>by have:=(HMM.out _ O).2;omega)
 have r:=Lq (HJB.out [] W q HJ0.out I);have HB6:=Lq I;have HW6:Hid (0<NL.length→W.heap.size<q.heap.size):=Lq fun h=>by have:=br (HCL.out q (bX.refl _ _) 0 NL[0] (gE h));omega
 clear y N K I L q0 HNM HJ0;go_wp2_with fail;go_loopw [9] (fun i wr=>∃k:Nat,k≤NL.length∧i=iv k∧Hid (J (dG (NL.take k)) wr)∧Hid (bX M q wr)) (fun i _=>NL.length-(intOf i).toNat)
 case atStart=>exact⟨0,Nat.zero_le _,rfl,r,Lq (bX.refl _ _)⟩
 case round =>
  clear r;obtain⟨k,hk,rfl,o,p⟩:=hrel;have hk0:=nn k;by_cases hlt:k<NL.length
  ·obtain⟨nm,d⟩:=gX (l:=NL) (i:=k) hlt;have c0:=HCL.out wr p.out k nm d;have HLS:=Lq (vZ d);have HPR:Hid (∀f,f<41→dG (NL.take k)++ix nm f++[(nm,(f:Int))] <+: dG NL):=Lq fun f U=>EQ d U
   have D:Hid (∀V,bX M q V→W.heap.size<V.heap.size):=Lq fun V hV=>lz (HW6.out (by omega)) hV.size
   clear d;go_wp2_with fail;clear c0;go_loopw [13] (fun i B=>∃f:Nat,f≤41∧i=iv f∧Hid (J (dG (NL.take k)++ix nm f) B)∧Hid (bX M q B)) (fun i _=>41-(intOf i).toNat)
   case atStart=>exact⟨0,Nat.zero_le _,rfl,Lq (by simpa[ix]using o.out),p⟩
   case round =>
    clear o p;obtain⟨f,U,rfl,o,p⟩:=hrel;have hf0:=nn f;by_cases hfl:f<41
    ·obtain⟨fn,tmps,assign,body,X,T⟩:=HY.out 0 (dG (NL.take k)++ix nm f) (nm,(f:Int)) wr o.out (HPR.out f hfl) (D.out wr p.out);simp only[pL]at X;have HRS:=Lq (vY nm f);go_upto_region 6 with fail
     refine(wpIn_wide (n:=0)).1 ?_
     gi_wp2_with fail
     refine⟨rfl,T.mono ?_⟩;clear T X;rintro e W2 ⟨v,rfl,t⟩;have HK2:=Lq (p.out.trans v);have HJ2:=Lq t;clear v t
     gi_wp2_with fail
     go_wp2_with fail;go_roundw
     case measure=>simp[intOf];omega
     case rel=>exact⟨f+1,by omega,by go_num,Lq (by rw[HRS.out,←List.append_assoc];exact HJ2.out),HK2⟩
    ·obtain rfl:f=41:=by omega
     go_wp2_with fail;go_roundw
     case measure=>simp[intOf];omega
     case rel=>exact⟨k+1,by omega,by go_num,Lq (by rw[HLS.out];exact o.out),p⟩
  ·obtain rfl:k=NL.length:=by omega
   have C:Hid (J (dG NL) wr):=Lq (by have:=o.out;rwa [List.take_length]at this)
   clear o;go_wp2_with fail
   go_end0
   exact⟨⟨_,rfl⟩,C.out⟩
end
end Go.Proofs.YtbillnhcmkpohaaGreatDoor
namespace Go.Proofs.YtbillnhcmkpohaaGreatDoor
open Go.RowKit
section
variable{nm:ByteArray}{Q:Exit→Act→World→Prop}{fr l0:Int}{gF gL gN:Nat}{zA zB zK zL zN zO zP zR zS zT zC zU zV zW zX zY zZ za zb zc zd zD ze zf zg zh zi zj zk zl zm zn zE zo zp zq zr zs zt zu zv zw zx zF zy zz zAA zAB zAC zAD zAE zAF zAG zAH zAI zAJ zAK zAL zAM zAN zAO zAP zJ:Value}{V:World}
def jN(n:Nat):Code→Option Code
 | .region id ops d=>if id=n then some (.region id ops d)else none
 | .seq a b=>match jN n a with
  | some c=>some c
  | none=>jN n b
 | .cond _ a b=>match jN n a with
  | some c=>some c
  | none=>jN n b
 | .block _ c=>jN n c
 | .loop c=>jN n c
 | .scope c=>jN n c
 | .rangeFunc _ _ a b=>match jN n a with
  | some c=>some c
  | none=>jN n b
 | _=>none
noncomputable def ox(f:Func)(n:Nat):Code:=(f.body.bind (jN n)).getD .skip
noncomputable def xa:Array Oper:=aU (ox Tryz.f47 18)
theorem ET{m y a:Nat}{z:ByteArray}{i x:Int}(j:gN≠gF∧gN≠gL∧gF≠gL∧a≠gN∧a≠gF∧a≠gL)(r:aa V gN 9 #[.string z])(o:aa V gF 3 #[iv x])(q:aa V gL 3 #[iv l0])(t:aa V a 187 #[.string nm,iv fr])(s:∀u58 u59 u60 u61 u62 wx,(∃V0,BW V V0∧wx=((V0.setCell ⟨gN,0,none⟩ (.string nm)).setCell ⟨gF,0,none⟩ (iv fr)).setCell ⟨gL,0,none⟩ (iv i))→Q .normal ⟨#[zA,zB,zC,zD,zE,zF,.pointer (some ⟨gN,0,none⟩),.pointer (some ⟨gF,0,none⟩),.pointer (some ⟨gL,0,none⟩),zJ,zK,zL,.pointer (some ⟨a,0,none⟩),zN,zO,zP,iv i,zR,zS,zT,zU,zV,zW,zX,zY,zZ,za,zb,zc,zd,ze,zf,zg,zh,zi,zj,zk,zl,zm,zn,zo,zp,zq,zr,zs,zt,zu,zv,zw,zx,zy,zz,zAA,zAB,zAC,zAD,zAE,zAF,u58,u59,u60,u61,u62,zAL,zAM,zAN,zAO,zAP],[]⟩ wx) :
  (ox Tryz.f47 18).wpIn (Fence.wide.inRound y) m Tryz.prog Q ⟨#[zA,zB,zC,zD,zE,zF,.pointer (some ⟨gN,0,none⟩),.pointer (some ⟨gF,0,none⟩),.pointer (some ⟨gL,0,none⟩),zJ,zK,zL,.pointer (some ⟨a,0,none⟩),zN,zO,zP,iv i,zR,zS,zT,zU,zV,zW,zX,zY,zZ,za,zb,zc,zd,ze,zf,zg,zh,zi,zj,zk,zl,zm,zn,zo,zp,zq,zr,zs,zt,zu,zv,zw,zx,zy,zz,zAA,zAB,zAC,zAD,zAE,zAF,zAG,zAH,zAI,zAJ,zAK,zAL,zAM,zAN,zAO,zAP],[]⟩ V:=by
 have v:Hid (∀W,BW V W→cA W a 0 (.string nm)∧cA W a 1 (iv fr)):=Lq fun W hb=>have k:=t.keep hb;⟨k.c 0,k.c 1⟩
 have u:=Lq r;have HF:=Lq o;have HL:=Lq q;have HQ:=Lq s;have HB0:=Lq (fc (bR V));obtain⟨n1,n2,n3,n4,n5,n6⟩:=j;clear s r o q t;have e:ox Tryz.f47 18=Code.region 18 xa true:=by kernel_rfl
 rw[e];refine CE (S:=(fun W=>cA W a 0 (.string nm)∧cA W a 1 (iv fr))) (by kernel_rfl) (by kernel_rfl) ?_
 have b:=v.out _ HB0.out;have hsz:xa.size=8:=by kernel_rfl
 have d:Array.replicate 8 false=#[false,false,false,false,false,false,false,false]:=by kernel_rfl
 rw[hsz,d];clear e hsz d;generalize V.drew=V0 at HB0 b ⊢;refine tk 0 (.pointer (some ⟨a,0,none⟩)) ?_;refine tk 1 (.string nm) ?_;refine tk 2 (.pointer (some ⟨a,1,none⟩)) ?_;refine tk 3 (iv fr) ?_;refine tk 4 (iv i) ?_;have l:=u.out.keep HB0.out;have kF:=HF.out.keep HB0.out;have kL:=HL.out.keep HB0.out;refine rd1 5 fun n hK=>?_
 have h:=l.c 0;have a1:=l.frozen 0;have a2:=l.lt;go_simp;have hS1:(fun W=>cA W a 0 (.string nm)∧cA W a 1 (iv fr)) (V0.setCell ⟨gN,0,none⟩ (.string nm)):=⟨kV b.1 n4,kV b.2 n4⟩
 have f:=kF.far (p:=⟨gN,0,none⟩) (Ne.symm n1) (.string nm);have kL1:=kL.far (p:=⟨gN,0,none⟩) (Ne.symm n2) (.string nm);refine hK.out _ _ hS1 (fun b=>?_)
 clear hK h a1 a2;refine rd1 6 fun n hK=>?_
 have h:=f.c 0;have a1:=f.frozen 0;have a2:=f.lt;go_simp;have hS2:(fun W=>cA W a 0 (.string nm)∧cA W a 1 (iv fr)) ((V0.setCell ⟨gN,0,none⟩ (.string nm)).setCell ⟨gF,0,none⟩ (iv fr)):=⟨kV hS1.1 n5,kV hS1.2 n5⟩
 have g:=kL1.far (p:=⟨gF,0,none⟩) (Ne.symm n3) (iv fr);refine hK.out _ _ hS2 (fun b=>?_)
 clear hK h a1 a2;refine rd1 7 fun n hK=>?_
 have h:=g.c 0;have a1:=g.frozen 0;have a2:=g.lt;go_simp;refine hK.out _ _ ⟨kV hS2.1 n6,kV hS2.2 n6⟩ (fun b=>?_)
 clear hK h a1 a2;refine wpAnyH_done (by kernel_rfl) ?_ _
 exact(HQ.out _ _ _ _ _ _ ⟨_,HB0.out,rfl⟩)
noncomputable def EU:Array Oper:=aU (ox Tryz.f47 21)
theorem EV{ds}{o q:Value}(j:gN≠gF∧gN≠gL∧gF≠gL)(i:aa V gN 9 #[.string nm])(f:aa V gF 3 #[iv fr])(g:aa V gL 3 #[iv l0])(m:∀u65 u66 u67 wx,(∃V0,BW V V0∧wx=((V0.setCell ⟨gN,0,none⟩ (.string nm)).setCell ⟨gF,0,none⟩ (iv fr)).setCell ⟨gL,0,none⟩ (iv l0))→Q .normal ⟨#[zA,zB,zC,zD,zE,zF,.pointer (some ⟨gN,0,none⟩),.pointer (some ⟨gF,0,none⟩),.pointer (some ⟨gL,0,none⟩),iv 0,zK,zL,o,zN,zO,zP,q,zR,zS,zT,zU,zV,zW,zX,zY,zZ,za,zb,zc,zd,ze,zf,zg,zh,zi,zj,zk,zl,zm,zn,zo,zp,zq,zr,zs,zt,zu,zv,zw,zx,zy,zz,zAA,zAB,zAC,zAD,zAE,zAF,zAG,zAH,zAI,zAJ,zAK,zAL,zAM,u65,u66,u67],ds⟩ wx) :
  (ox Tryz.f47 21).wp Tryz.prog Q ⟨#[zA,zB,zC,zD,zE,zF,.pointer (some ⟨gN,0,none⟩),.pointer (some ⟨gF,0,none⟩),.pointer (some ⟨gL,0,none⟩),zJ,zK,zL,o,zN,zO,zP,q,zR,zS,zT,zU,zV,zW,zX,zY,zZ,za,zb,zc,zd,ze,zf,zg,zh,zi,zj,zk,zl,zm,zn,zo,zp,zq,zr,zs,zt,zu,zv,zw,zx,zy,zz,zAA,zAB,zAC,zAD,zAE,zAF,zAG,zAH,zAI,zAJ,zAK,zAL,zAM,zAN,zAO,zAP],ds⟩ V:=by
 have t:Hid (∀W,BW V W→cA W gN 0 (.string nm)∧cA W gF 0 (iv fr)∧cA W gL 0 (iv l0)):=Lq fun W hb=>⟨(i.keep hb).c 0,(f.keep hb).c 0,(g.keep hb).c 0⟩
 have s:=Lq i;have HF:=Lq f;have HL:=Lq g;have HQ:=Lq m;have HB0:=Lq (fc (bR V));obtain⟨n1,n2,n3⟩:=j;clear m i f g;refine gd (ops:=EU) (r:=21) (n:=7) (S:=(fun W=>cA W gN 0 (.string nm)∧cA W gF 0 (iv fr)∧cA W gL 0 (iv l0))) (fun W hb=>t.out W hb) fun V0 HB0 hHeld=>?_
 refine tk 0 (.string nm) ?_;refine tk 1 (iv fr) ?_;refine tk 2 (iv l0) ?_;have d:=s.out.keep HB0.out;have kF:=HF.out.keep HB0.out;have kL:=HL.out.keep HB0.out;have kF1:=kF.far (p:=⟨gN,0,none⟩) (Ne.symm n1) (.string nm);have kL1:=kL.far (p:=⟨gN,0,none⟩) (Ne.symm n2) (.string nm);have kN1:aa (V0.setCell ⟨gN,0,none⟩ (.string nm)) gN 9 #[.string nm]:=by
  have h:=d.set_ 0 (.string nm)
  simpa using h
 have a:=kL1.far (p:=⟨gF,0,none⟩) (Ne.symm n3) (iv fr);have kN2:=kN1.far (p:=⟨gF,0,none⟩) n1 (iv fr);have kF2:aa ((V0.setCell ⟨gN,0,none⟩ (.string nm)).setCell ⟨gF,0,none⟩ (iv fr)) gF 3 #[iv fr]:=by
  have h:=kF1.set_ 0 (iv fr)
  simpa using h
 have k:=kN2.far (p:=⟨gL,0,none⟩) n2 (iv l0);have kF3:=kF2.far (p:=⟨gL,0,none⟩) n3 (iv l0);have kL3:aa (((V0.setCell ⟨gN,0,none⟩ (.string nm)).setCell ⟨gF,0,none⟩ (iv fr)).setCell ⟨gL,0,none⟩ (iv l0)) gL 3 #[iv l0]:=by
  have h:=a.set_ 0 (iv l0)
  simpa using h
 refine rd1 3 fun l hK=>?_
 have b:=d.c 0;have a1:=d.frozen 0;have a2:=d.lt;go_simp;refine hK.out _ _ ⟨kN1.c 0,kF1.c 0,kL1.c 0⟩ (fun hHeld=>?_)
 clear hK b a1 a2;refine rd1 4 fun l hK=>?_
 have b:=kF1.c 0;have a1:=kF1.frozen 0;have a2:=kF1.lt;go_simp;refine hK.out _ _ ⟨kN2.c 0,kF2.c 0,a.c 0⟩ (fun hHeld=>?_)
 clear hK b a1 a2;refine rd1 5 fun l hK=>?_
 have b:=a.c 0;have a1:=a.frozen 0;have a2:=a.lt;go_simp;refine hK.out _ _ ⟨k.c 0,kF3.c 0,kL3.c 0⟩ (fun hHeld=>?_)
 clear hK b a1 a2;refine tk 6 (iv 0) ?_;exact dn (HQ.out _ _ _ _ ⟨_,HB0.out,rfl⟩)
end
end Go.Proofs.YtbillnhcmkpohaaGreatDoor
