/- hull: check (printed by mkHP4.py). hull: slices.Clone of parts and of names. hull: .. -/
import Derived.Lib.SliceRun
import Derived.Deep.RegionLaw
import Derived.Laws.IdiomCopy
import Derived.Maps.Own
import Derived.Laws.OwnMore
import Derived.Test.YtbillnhcmkpohaaGreatDoorM5
set_option maxRecDepth 1000000
set_option maxHeartbeats 0
namespace Go.Proofs.YtbillnhcmkpohaaGreatDoor
open Go.RowKit
section
variable{k:Nat}
theorem ug{l:List ah}{s:ByteArray}:hasP (l.take k) s=true↔0≤ct l s∧ct l s<k:=by
 have b:hasP l s=true→(hasP (l.take k) s=true↔aL l s<k):=by
  intro a;obtain⟨_,hl,p,hp,e⟩:=fU a;constructor
  ·intro h;obtain⟨q,hq,e2⟩:=im.1 h;obtain⟨j,hj⟩:=List.mem_iff_getElem?.1 hq;rw[List.getElem?_take]at hj;split at hj
   ·rename_i c;obtain⟨hjl,ej⟩:=List.getElem?_eq_some_iff.1 hj;unfold aL;rcases Nat.lt_or_ge (l.findIdx (aX s)) k with h2 | h2
    ·exact h2
    ·exfalso;have:=List.not_of_lt_findIdx (p:=aX s) (xs:=l) (i:=j) (by omega)
     rw[ej]at this;rw[dM.2 e2]at this;cases this
   ·cases hj
  ·intro h;exact im.2 ⟨p,mG ⟨_,by rw[List.getElem?_take_of_lt h];exact hp⟩,e⟩
 cases a:hasP l s with
 | false =>
  rw[kY a];constructor
  ·intro h;obtain⟨q,hq,e⟩:=im.1 h;exact absurd e (kS.1 a q (List.mem_of_mem_take hq))
  ·intro h;omega
 | true =>
  rw[b a,(fU a).1];omega
theorem iQ{α:Type}{P:α→Bool}{l:List α}:bu P l=false↔∀x∈l,P x=false:=by unfold bu;rw[List.any_eq_false];exact⟨fun h x hx=>by simpa using h x hx,fun h x hx=>by simp[h x hx]⟩
theorem uh{a:ByteArray}{b first last d c r:Int}{on:List ByteArray}{f bs:List ah}(v:du a=true)(x:ct f a=r)(u:¬(0≤r∧r<k))(z:bu (aX a) bs=false)(A:inB 1 5 b=true)(j:(inB 0 40 first&&inB 0 40 last)=true)(l:(inB 1 1000000 d&&inB 1 1000000 c)=true)(q:first≤last)(s:d≤c)(B:bu (fun o=>!hasP (f.take k) o) on=false) :
  cQ ⟨a,b,first,last,on,d,c⟩ (f.take k) (f.take k++bs)↔(on.map ByteArray.toList).Nodup∧bu (fun o=>!metB ⟨a,b,first,last,on,d,c⟩ (f.take k) o) on=false:=by
 rw[Bool.and_eq_true]at j l;have t:hasP (f.take k) a=false:=by
  cases h:hasP (f.take k) a with
  | false=>rfl
  | true =>
   have:=ug.1 h;rw[x]at this;exact absurd this u
 have i:∀o∈on,hasP (f.take k) o=true:=fun o ho=>by simpa using iQ.1 B o ho
 have g:∀o∈on,(metB ⟨a,b,first,last,on,d,c⟩ (f.take k) o=true↔∃y,(f.take k).find? (aX o)=some y∧dN ⟨a,b,first,last,on,d,c⟩ y=true):=by intro o ho;obtain⟨y,hy,_⟩:=o6 (i o ho);unfold metB;rw[hy];simp
 constructor
 ·intro h;refine⟨h.dup,iQ.2 fun o ho=>?_⟩
  have:=(g o ho).2 (h.on o ho);rw[this];rfl
 ·rintro⟨m,n⟩;refine⟨v,fun p hp=>?_,iM A,⟨(iM j.1).1,q,(iM j.2).2⟩,⟨(iM l.1).1,s,(iM l.2).2⟩,fun o ho=>(g o ho).1 (by have:=iQ.1 n o ho;simpa using this),m⟩
  rcases List.mem_append.1 hp with hp | hp
  ·exact kS.1 t p hp
  ·intro e;have:=iQ.1 z p hp;rw[dM.2 e]at this;cases this
theorem rr(A T:Option Addr)(ms bs:List aj)(x:aj)(B cap t O k:Nat)(w:World)(hB:B≤w.heap.size)(H:cF w B A ms)(H2:cF w B T bs)(hM:aR w B x)(ag:ms.length≤cap)(F:cap≤maxLen)(af:bs.length≤maxLen)(hk:k≤ms.length)(hs:w.cell? ⟨O,0,none⟩=some (.slice A ms.length cap)) :
  Cs 83 #[pT O 0,mV x,iv k,.slice T bs.length t] w (iP (cQ x.p ((ab ms).take k) ((ab ms).take k++ab bs)) w):=by
 obtain⟨M,ae,n,am,U⟩:=lY w x;have HM1:=Lq (hM.below n hB);have HH1:=Lq (H.below n hB);have HO1:=Lq (H2.below n hB);have hBW1:B≤M.heap.size:=by omega
 have al:=br hs;clear hM H H2;obtain⟨⟨name,kind,first,last,on,wlo,whi⟩,Ao,ca⟩:=x;obtain⟨gx,hgx⟩:=ex w.heap.size;rw[hgx]at U;have HB1:=Lq n;have HBX:Hid (∀W,BW M W→aa W gx 50 #[.string name,iv kind,iv first,iv last,.slice Ao on.length ca,iv wlo,iv whi]):=Lq fun W a=>U.keep a
 have j:Hid (∀W,BW M W→W.cell? ⟨gx,0,none⟩=some (.string name)∧W.cell? ⟨gx,1,none⟩=some (iv kind)∧W.cell? ⟨gx,2,none⟩=some (iv first)∧W.cell? ⟨gx,3,none⟩=some (iv last)∧W.cell? ⟨gx,4,none⟩=some (.slice Ao on.length ca)∧W.cell? ⟨gx,5,none⟩=some (iv wlo)∧W.cell? ⟨gx,6,none⟩=some (iv whi)∧gx<W.heap.size∧W.cell? ⟨O,0,none⟩=some (.slice A ms.length cap)):=Lq fun W a=>have k:=U.keep a;⟨k.c 0,k.c 1,k.c 2,k.c 3,k.c 4,k.c 5,k.c 6,k.lt,kC (bT n a) hs⟩
 have ai:ms.length≤maxLen:=lT ag F;have hk0:=nn k;have hkc:(k:Int)≤(cap:Int):=by omega
 have ak:cap≤9223372036854775807:=by simp only[maxLen]at F;omega
 obtain⟨b1,Y⟩:=ex (du name);have HN:Hid (∀W,Cs 53 #[.string name] W (Rt W (.bool b1))):=Lq fun W=>Y▸oU name W HM1.out.nm
 obtain⟨r,Z⟩:=ex (ct (ab ms) name);have HF:Hid (∀W,BW M W→Cs 88 #[pT O 0,.string name] W (Rt W (iv r))):=Lq fun W a=>Z▸jK A ms B cap O name W (lT hBW1 a.size) ai (HH1.out.below a hBW1) (j.out W a).2.2.2.2.2.2.2.2
 obtain⟨X,h3⟩:=ex (bu (aX name) (ab bs));have HB:Hid (∀W,BW M W→Cs 141 #[.slice T bs.length t,.func (.func 142) #[] #[pT gx 0]] W (Rt W (.bool X))):=Lq fun W a=>h3▸Ct (aX name) T bs B t (pT gx 0) W af (lT hBW1 a.size) (HO1.out.below a hBW1) (fun W2 m i _=>Cy m name gx W2 (j.out W2 (bT a i)).1)
 obtain⟨b4,h4⟩:=ex (inB 1 5 kind);obtain⟨b5,R⟩:=ex (inB 0 40 first&&inB 0 40 last);obtain⟨b6,h6⟩:=ex (inB 1 1000000 wlo&&inB 1 1000000 whi);have O4:Hid (∀g W,W.cell? ⟨g,0,none⟩=some (iv kind)→Cs 13 #[iv 1,iv 5,.slice (some ⟨g,0,none⟩) 1 1] W (Rt W (.bool (!b4)))):=Lq fun g W hc=>h4▸kR 1 5 kind g W hc (br hc)
 have O5:Hid (∀g W,W.cell? ⟨g,0,none⟩=some (iv first)→W.cell? ⟨g,1,none⟩=some (iv last)→Cs 13 #[iv 0,iv 40,.slice (some ⟨g,0,none⟩) 2 2] W (Rt W (.bool (!b5)))):=Lq fun g W hc hd=>R▸qD 0 40 first last g W hc hd (br hc)
 have O6:Hid (∀g W,W.cell? ⟨g,0,none⟩=some (iv wlo)→W.cell? ⟨g,1,none⟩=some (iv whi)→Cs 13 #[iv 1,iv 1000000,.slice (some ⟨g,0,none⟩) 2 2] W (Rt W (.bool (!b6)))):=Lq fun g W hc hd=>h6▸qD 1 1000000 wlo whi g W hc hd (br hc)
 have V:=Lq Y;have K2:=Lq Z;have K3:=Lq h3;have K4:=Lq h4;have K5:=Lq R;have K6:=Lq h6;clear Y Z h3 h4 R h6 U n hs;obtain⟨p0,p1,p2,p3,p4,p5,p6,hxl,ps⟩:=j.out _ (bR M);go_enter Tryz.func83,Tryz.ntmps83
 go_wp2_with fail;refine(HN.out _).mono ?_;rintro e w1 ⟨rfl,(D:Hid _)⟩;clear p0 p1 p2 p3 p4 p5 p6 hxl ps ae HN;obtain⟨p0,p1,p2,p3,p4,p5,p6,hxl,ps⟩:=j.out _ D.out;cases b1 with
 | false =>
  go_wp2_with fail;go_ret
  exact cL (by decide) (fun h=>by have:=h.nm;rw[V.out]at this;cases this) (bT HB1.out D.out)
 | true =>
  go_wp2_with fail;refine(HF.out _ D.out).mono ?_;rintro e w2 ⟨rfl,a⟩;have HB3:=Lq (bT D.out a);clear p0 p1 p2 p3 p4 p5 p6 hxl ps a;obtain⟨p0,p1,p2,p3,p4,p5,p6,hxl,ps⟩:=j.out _ HB3.out;by_cases hr0:0≤r
  ·go_wp2_with fail;refine(HF.out _ HB3.out).mono ?_;rintro e w3 ⟨rfl,a⟩;have HB3b:=Lq (bT HB3.out a);clear p0 p1 p2 p3 p4 p5 p6 hxl ps a;obtain⟨p0,p1,p2,p3,p4,p5,p6,hxl,ps⟩:=j.out _ HB3b.out;by_cases hrk:r<(k:Int)
   ·go_wp2_with fail;go_ret
    refine cL (by decide) (fun h=>?_) (bT HB1.out HB3b.out)
    have R:=(ug (l:=ab ms) (s:=name) (k:=k)).2 (by rw[K2.out];exact⟨hr0,hrk⟩)
    obtain⟨p,S,e⟩:=im.1 R;exact h.new p (List.mem_append_left _ S) e
   ·have J:Hid (¬(0≤r∧r<(k:Int))):=Lq (fun h=>hrk h.2)
    go_wp2_with fail;refine(HB.out _ HB3b.out).mono ?_;rintro e w4 ⟨rfl,a⟩;have HB4:=Lq (bT (HB3b.out) a);clear p0 p1 p2 p3 p4 p5 p6 hxl ps a;obtain⟨p0,p1,p2,p3,p4,p5,p6,hxl,ps⟩:=j.out _ HB4.out;cases X with
    | true =>
     go_wp2_with fail;go_ret
     refine cL (by decide) (fun h=>?_) (bT HB1.out HB4.out)
     have:bu (aX name) (ab bs)=false:=iQ.2 fun p S=>by
      cases hn:aX name p with
      | false=>rfl
      | true=>exact absurd (dM.1 hn) (h.new p (List.mem_append_right _ S))
     rw[K3.out]at this;cases this
    | false =>
     go_wp2_with fail;refine(O4.out _ _ (by go_simp)).mono ?_
     rintro e w5 ⟨rfl,a⟩;have HB5:=Lq (bT (bA (HB4.out) _) a);clear p0 p1 p2 p3 p4 p5 p6 hxl ps a;obtain⟨p0,p1,p2,p3,p4,p5,p6,hxl,ps⟩:=j.out _ HB5.out;cases b4 with
     | false =>
      go_wp2_with fail;go_ret
      exact cL (by decide) (fun h=>by have d:=cX h.kind.1 h.kind.2;(try simp only at d);rw[K4.out]at d;cases d) (bT HB1.out HB5.out)
     | true =>
      go_wp2_with fail;refine(O5.out _ _ (by go_simp) (by go_simp)).mono ?_
      rintro e w6 ⟨rfl,a⟩;have HB6:=Lq (bT (bA (HB5.out) _) a);clear p0 p1 p2 p3 p4 p5 p6 hxl ps a;obtain⟨p0,p1,p2,p3,p4,p5,p6,hxl,ps⟩:=j.out _ HB6.out;cases b5 with
      | false =>
       go_wp2_with fail;go_ret
       exact cL (by decide) (fun h=>by have d:(inB 0 40 first&&inB 0 40 last)=true:=(by rw[cX h.fr.1 (Int.le_trans h.fr.2.1 h.fr.2.2),cX (Int.le_trans h.fr.1 h.fr.2.1) h.fr.2.2];rfl);(try simp only at d);rw[K5.out]at d;cases d) (bT HB1.out HB6.out)
      | true =>
       go_wp2_with fail;refine(O6.out _ _ (by go_simp) (by go_simp)).mono ?_
       rintro e E ⟨rfl,a⟩;have HB7:=Lq (bT (bA (HB6.out) _) a);clear p0 p1 p2 p3 p4 p5 p6 hxl ps a;obtain⟨p0,p1,p2,p3,p4,p5,p6,hxl,ps⟩:=j.out _ HB7.out;cases b6 with
       | false =>
        go_wp2_with fail;go_ret
        exact cL (by decide) (fun h=>by have d:(inB 1 1000000 wlo&&inB 1 1000000 whi)=true:=(by rw[cX h.wt.1 (Int.le_trans h.wt.2.1 h.wt.2.2),cX (Int.le_trans h.wt.1 h.wt.2.1) h.wt.2.2];rfl);(try simp only at d);rw[K6.out]at d;cases d) (bT HB1.out HB7.out)
       | true =>
        by_cases h7:last<first
        ·go_wp2_with fail;go_ret
         exact cL (by decide) (fun h=>by have:=h.fr.2.1;simp only at this;omega) (bT HB1.out HB7.out)
        ·by_cases h8:whi<wlo
         ·go_wp2_with fail;go_ret
          exact cL (by decide) (fun h=>by have:=h.wt.2.1;simp only at this;omega) (bT HB1.out HB7.out)
         ·have ac:¬first>last:=by omega
          have ad:¬wlo>whi:=by omega
          obtain⟨q,u,z⟩:=nA E (.cells #[.slice A k cap] 62);have kb8:aa q E.heap.size 62 #[.slice A k cap]:=by rw[←u];exact aa.new E 62 _
          have f:=Lq (bT HB7.out z);obtain⟨gb,hgb⟩:=ex E.heap.size;rw[hgb]at kb8;have hlt:(ms.take k).length=k:=by rw[List.length_take];omega
          have C:∀W o,BW q W→Cs 143 #[.string o,pT gb 0] W (Rt W (.bool (!hasP ((ab ms).take k) o))):=fun W o a=>by
           have hc:=t7 A (ms.take k) B cap gb o W (lT hBW1 (bT f.out a).size) (by rw[hlt];omega) ((HH1.out.below (bT f.out a) hBW1).take k) (by rw[hlt];exact(kb8.keep a).c 0)
           rw[lh]at hc;exact hc
          obtain⟨N,d⟩:=ex (bu (fun o=>!hasP ((ab ms).take k) o) on)
          have I:Hid (Cs 91 #[.slice Ao on.length ca,.func (.func 143) #[] #[pT gb 0]] q (Rt q (.bool N))):=Lq (d▸tR (fun o=>!hasP ((ab ms).take k) o) Ao on B ca (pT gb 0) q (lT HM1.out.le HM1.out.cm) (lT hBW1 f.out.size) (HM1.out.on.below f.out hBW1) (fun W o a _=>C W o a))
          have L:=Lq d;have KB8:=Lq kb8;clear d C z kb8;obtain⟨q0,q1,q2,q3,q4,q5,q6,qxl,qs⟩:=j.out _ f.out;go_wp2_with fail;refine I.out.mono ?_;rintro e w9 ⟨rfl,a⟩;have HB98:=Lq a;have HB9:=Lq (bT f.out a);clear p0 p1 p2 p3 p4 p5 p6 hxl ps a u q0 q1 q2 q3 q4 q5 q6 qxl qs;obtain⟨p0,p1,p2,p3,p4,p5,p6,hxl,ps⟩:=j.out _ HB9.out;cases N with
          | true =>
           go_wp2_with fail;go_ret
           refine cL (by decide) (fun h=>?_) (bT HB1.out HB9.out)
           have:bu (fun o=>!hasP ((ab ms).take k) o) on=false:=iQ.2 fun o ho=>by obtain⟨y,hy,_⟩:=h.on o ho;have:=im.2 ⟨y,List.mem_of_find?_eq_some hy,dM.1 (List.find?_some hy)⟩;rw[this];rfl
           rw[L.out]at this;cases this
          | false =>
           have b:=Lq (uh (bs:=ab bs) V.out K2.out J.out K3.out K4.out K5.out K6.out (by omega) (by omega) L.out)
           have K:Hid (Cs 144 #[.slice Ao on.length ca] w9 (rq on w9)):=Lq (ue Ao on B ca w9 HM1.out.le HM1.out.cm (HM1.out.on.below HB9.out hBW1));obtain⟨ba,ha⟩:=ex (bu (fun o=>!metB (ah.mk name kind first last on wlo whi) ((ab ms).take k) o) on)
           have v:Cs 91 #[.slice Ao on.length ca,.func (.func 145) #[] #[pT gx 0,pT gb 0]] w9 (Rt w9 (.bool ba)):=ha▸tS (fun o=>!metB (ah.mk name kind first last on wlo whi) ((ab ms).take k) o) Ao on B ca (pT gx 0) (pT gb 0) w9 (lT HM1.out.le HM1.out.cm) (lT hBW1 HB9.out.size) (HM1.out.on.below HB9.out hBW1) (fun W o a ho=>by
            have i:=bT HB9.out a;have hc:=ub A (ms.take k) ⟨(ah.mk name kind first last on wlo whi),Ao,ca⟩ B cap gx gb o W (lT hBW1 i.size) (by rw[hlt];omega) ((HH1.out.below i hBW1).take k) (HBX.out W i) (by rw[hlt];exact(KB8.out.keep (bT HB98.out a)).c 0) (by rw[lh];have:=iQ.1 L.out o ho;simpa using this)
            rw[lh]at hc;exact hc)
           have G:=Lq v;have KA:=Lq ha;clear v ha;go_wp2_with fail;refine K.out.mono ?_;rintro e w' ⟨bd,rfl,hbd,rfl⟩;have HBD:=Lq hbd;clear hbd;cases bd with
           | true =>
            go_wp2_with fail;go_ret
            exact cL (by decide) (fun h=>by have:=HBD.out.2 (b.out.1 h).1;cases this) (bT HB1.out HB9.out)
           | false =>
            go_wp2_with fail;refine G.out.mono ?_;rintro e wa ⟨rfl,a⟩;have HBa:=Lq (bT HB9.out a);clear p0 p1 p2 p3 p4 p5 p6 hxl ps a;cases ba with
            | true =>
             go_wp2_with fail;go_ret
             exact cL (by decide) (fun h=>by have:=(b.out.1 h).2;rw[KA.out]at this;cases this) (bT HB1.out HBa.out)
            | false =>
             go_wp2_with fail;go_ret
             exact qO (b.out.2 ⟨HBD.out.1 (by simp),KA.out⟩) (bT HB1.out HBa.out)
  ·have J:Hid (¬(0≤r∧r<(k:Int))):=Lq (fun h=>hr0 h.1)
   go_wp2_with fail;refine(HB.out _ HB3.out).mono ?_;rintro e w4 ⟨rfl,a⟩;have HB4:=Lq (bT (HB3.out) a);clear p0 p1 p2 p3 p4 p5 p6 hxl ps a;obtain⟨p0,p1,p2,p3,p4,p5,p6,hxl,ps⟩:=j.out _ HB4.out;cases X with
   | true =>
    go_wp2_with fail;go_ret
    refine cL (by decide) (fun h=>?_) (bT HB1.out HB4.out)
    have:bu (aX name) (ab bs)=false:=iQ.2 fun p S=>by
     cases hn:aX name p with
     | false=>rfl
     | true=>exact absurd (dM.1 hn) (h.new p (List.mem_append_right _ S))
    rw[K3.out]at this;cases this
   | false =>
    go_wp2_with fail;refine(O4.out _ _ (by go_simp)).mono ?_
    rintro e w5 ⟨rfl,a⟩;have HB5:=Lq (bT (bA (HB4.out) _) a);clear p0 p1 p2 p3 p4 p5 p6 hxl ps a;obtain⟨p0,p1,p2,p3,p4,p5,p6,hxl,ps⟩:=j.out _ HB5.out;cases b4 with
    | false =>
     go_wp2_with fail;go_ret
     exact cL (by decide) (fun h=>by have d:=cX h.kind.1 h.kind.2;(try simp only at d);rw[K4.out]at d;cases d) (bT HB1.out HB5.out)
    | true =>
     go_wp2_with fail;refine(O5.out _ _ (by go_simp) (by go_simp)).mono ?_
     rintro e w6 ⟨rfl,a⟩;have HB6:=Lq (bT (bA (HB5.out) _) a);clear p0 p1 p2 p3 p4 p5 p6 hxl ps a;obtain⟨p0,p1,p2,p3,p4,p5,p6,hxl,ps⟩:=j.out _ HB6.out;cases b5 with
     | false =>
      go_wp2_with fail;go_ret
      exact cL (by decide) (fun h=>by have d:(inB 0 40 first&&inB 0 40 last)=true:=(by rw[cX h.fr.1 (Int.le_trans h.fr.2.1 h.fr.2.2),cX (Int.le_trans h.fr.1 h.fr.2.1) h.fr.2.2];rfl);(try simp only at d);rw[K5.out]at d;cases d) (bT HB1.out HB6.out)
     | true =>
      go_wp2_with fail;refine(O6.out _ _ (by go_simp) (by go_simp)).mono ?_
      rintro e E ⟨rfl,a⟩;have HB7:=Lq (bT (bA (HB6.out) _) a);clear p0 p1 p2 p3 p4 p5 p6 hxl ps a;obtain⟨p0,p1,p2,p3,p4,p5,p6,hxl,ps⟩:=j.out _ HB7.out;cases b6 with
      | false =>
       go_wp2_with fail;go_ret
       exact cL (by decide) (fun h=>by have d:(inB 1 1000000 wlo&&inB 1 1000000 whi)=true:=(by rw[cX h.wt.1 (Int.le_trans h.wt.2.1 h.wt.2.2),cX (Int.le_trans h.wt.1 h.wt.2.1) h.wt.2.2];rfl);(try simp only at d);rw[K6.out]at d;cases d) (bT HB1.out HB7.out)
      | true =>
       by_cases h7:last<first
       ·go_wp2_with fail;go_ret
        exact cL (by decide) (fun h=>by have:=h.fr.2.1;simp only at this;omega) (bT HB1.out HB7.out)
       ·by_cases h8:whi<wlo
        ·go_wp2_with fail;go_ret
         exact cL (by decide) (fun h=>by have:=h.wt.2.1;simp only at this;omega) (bT HB1.out HB7.out)
        ·have ac:¬first>last:=by omega
         have ad:¬wlo>whi:=by omega
         obtain⟨q,u,z⟩:=nA E (.cells #[.slice A k cap] 62);have kb8:aa q E.heap.size 62 #[.slice A k cap]:=by rw[←u];exact aa.new E 62 _
         have f:=Lq (bT HB7.out z);obtain⟨gb,hgb⟩:=ex E.heap.size;rw[hgb]at kb8;have hlt:(ms.take k).length=k:=by rw[List.length_take];omega
         have C:∀W o,BW q W→Cs 143 #[.string o,pT gb 0] W (Rt W (.bool (!hasP ((ab ms).take k) o))):=fun W o a=>by
          have hc:=t7 A (ms.take k) B cap gb o W (lT hBW1 (bT f.out a).size) (by rw[hlt];omega) ((HH1.out.below (bT f.out a) hBW1).take k) (by rw[hlt];exact(kb8.keep a).c 0)
          rw[lh]at hc;exact hc
         obtain⟨N,d⟩:=ex (bu (fun o=>!hasP ((ab ms).take k) o) on)
         have I:Hid (Cs 91 #[.slice Ao on.length ca,.func (.func 143) #[] #[pT gb 0]] q (Rt q (.bool N))):=Lq (d▸tR (fun o=>!hasP ((ab ms).take k) o) Ao on B ca (pT gb 0) q (lT HM1.out.le HM1.out.cm) (lT hBW1 f.out.size) (HM1.out.on.below f.out hBW1) (fun W o a _=>C W o a))
         have L:=Lq d;have KB8:=Lq kb8;clear d C z kb8;obtain⟨q0,q1,q2,q3,q4,q5,q6,qxl,qs⟩:=j.out _ f.out;go_wp2_with fail;refine I.out.mono ?_;rintro e w9 ⟨rfl,a⟩;have HB98:=Lq a;have HB9:=Lq (bT f.out a);clear p0 p1 p2 p3 p4 p5 p6 hxl ps a u q0 q1 q2 q3 q4 q5 q6 qxl qs;obtain⟨p0,p1,p2,p3,p4,p5,p6,hxl,ps⟩:=j.out _ HB9.out;cases N with
         | true =>
          go_wp2_with fail;go_ret
          refine cL (by decide) (fun h=>?_) (bT HB1.out HB9.out)
          have:bu (fun o=>!hasP ((ab ms).take k) o) on=false:=iQ.2 fun o ho=>by obtain⟨y,hy,_⟩:=h.on o ho;have:=im.2 ⟨y,List.mem_of_find?_eq_some hy,dM.1 (List.find?_some hy)⟩;rw[this];rfl
          rw[L.out]at this;cases this
         | false =>
          have b:=Lq (uh (bs:=ab bs) V.out K2.out J.out K3.out K4.out K5.out K6.out (by omega) (by omega) L.out)
          have K:Hid (Cs 144 #[.slice Ao on.length ca] w9 (rq on w9)):=Lq (ue Ao on B ca w9 HM1.out.le HM1.out.cm (HM1.out.on.below HB9.out hBW1));obtain⟨ba,ha⟩:=ex (bu (fun o=>!metB (ah.mk name kind first last on wlo whi) ((ab ms).take k) o) on)
          have v:Cs 91 #[.slice Ao on.length ca,.func (.func 145) #[] #[pT gx 0,pT gb 0]] w9 (Rt w9 (.bool ba)):=ha▸tS (fun o=>!metB (ah.mk name kind first last on wlo whi) ((ab ms).take k) o) Ao on B ca (pT gx 0) (pT gb 0) w9 (lT HM1.out.le HM1.out.cm) (lT hBW1 HB9.out.size) (HM1.out.on.below HB9.out hBW1) (fun W o a ho=>by
           have i:=bT HB9.out a;have hc:=ub A (ms.take k) ⟨(ah.mk name kind first last on wlo whi),Ao,ca⟩ B cap gx gb o W (lT hBW1 i.size) (by rw[hlt];omega) ((HH1.out.below i hBW1).take k) (HBX.out W i) (by rw[hlt];exact(KB8.out.keep (bT HB98.out a)).c 0) (by rw[lh];have:=iQ.1 L.out o ho;simpa using this)
           rw[lh]at hc;exact hc)
          have G:=Lq v;have KA:=Lq ha;clear v ha;go_wp2_with fail;refine K.out.mono ?_;rintro e w' ⟨bd,rfl,hbd,rfl⟩;have HBD:=Lq hbd;clear hbd;cases bd with
          | true =>
           go_wp2_with fail;go_ret
           exact cL (by decide) (fun h=>by have:=HBD.out.2 (b.out.1 h).1;cases this) (bT HB1.out HB9.out)
          | false =>
           go_wp2_with fail;refine G.out.mono ?_;rintro e wa ⟨rfl,a⟩;have HBa:=Lq (bT HB9.out a);clear p0 p1 p2 p3 p4 p5 p6 hxl ps a;cases ba with
           | true =>
            go_wp2_with fail;go_ret
            exact cL (by decide) (fun h=>by have:=(b.out.1 h).2;rw[KA.out]at this;cases this) (bT HB1.out HBa.out)
           | false =>
            go_wp2_with fail;go_ret
            exact qO (b.out.2 ⟨HBD.out.1 (by simp),KA.out⟩) (bT HB1.out HBa.out)
end
section
variable{w:World}
theorem ui{w':World}{size m:Nat}{b:Value}{a:List Value}(h:fX w size b m a)(d:BW w w'):fX w' size b m a:=by
 rcases h with h | ⟨ad,c,h1,h2,h3,h4⟩
 ·exact .inl h
 ·refine .inr ⟨ad,c,h1,h2,fun j u f=>?_,h4⟩
  exact tD d (h3 j u f)
theorem rt(A:Option Addr)(ms:List aj)(B cap:Nat)(w:World)(l:B≤w.heap.size)(H:az w B A cap ms)(s:ms.length≤12) :
  Cs 193 #[.slice A ms.length cap] w (jJ ms w):=by
 obtain⟨k,h,d,f,g⟩:=info_parts Tryz.info50;have q28:∀(w:World) (a:Option Addr) (n c n' c':Nat),(binOp .eql 22 (.slice a n c) (.slice none n' c')).run Tryz.prog w=.ok (.bool a.isNone) w:=fun w a n c n' c'=>Lib.run_eql_slice_nil w _ _ a n c n' c' Tryz.underlying22
 cases A with
 | none =>
  have q:ms=[]:=(H.row l).nil0 rfl |>.1
  subst q;clear H;go_enter Tryz.func193,Tryz.ntmps193
  go_wp2
  go_ret
  exact⟨_,rfl,World.ownsRow_nil _ _ _ _,bR _⟩
 | some ad =>
  have i:fX w 7 (.slice (some ad) ms.length cap) ms.length (ms.flatMap aJ):=by
   have:=(H.row l).low cH nU (p:=ms.length) (lr _)
   simpa using this
  have j:=Lq (ui i (bA (bR w) (.cells #[] 50)));have HL:=Lq (World.ownsRow_lit (e:=50) (size:=7) (base:=w.heap.size) w #[] 0 (lr _) (by decide) (by simp))
  clear H i;go_enter Tryz.func193,Tryz.ntmps193
  go_wp2_with (at_builtin;refine qR rfl _ _ 22 rfl w.heap.size 50 k _ 7 80 Tryz.underlying22 h d f g rfl (by decide) _ _ _ rfl HL.out (.slice (some ad) ms.length cap) ms.length _ rfl j.out (by unfold maxLen;omega) (by omega) (by simp only[World.size_alloc];omega) ?_)
  intro v' r b m _;have hb:=cC HL.out m (lr _) (bA (bR w) _);have HO:Hid (r.ownsRow w.heap.size 50 7 v' ms.length (ms.flatMap aJ)):=Lq (by simpa using b)
  have o:=Lq hb;clear b m hb HL;go_wp2
  go_ret
  exact⟨v',rfl,HO.out,o.out⟩
def pq(l:List ByteArray)(w:World)(e:Ending)(w':World):Prop:=∃v,e=.returned v∧w'.ownsRow w.heap.size 9 1 v l.length (l.map .string)∧BW w w'
theorem nZ{B cap:Nat}{c:Addr}{l:List ByteArray}(h:am .string w B (some c) l):fX w 1 (.slice (some c) l.length cap) l.length (l.map .string):=by
 refine .inr ⟨c,cap,rfl,by simp,fun j u a=>?_,fun u a=>?_⟩
 ·rw[List.getElem?_map]at a;cases hx:l[j]? with
  | none=>rw[hx]at a;cases a
  | some x =>
   rw[hx]at a;injection a with a
   subst a;obtain⟨b,d,e,_,hc⟩:=h j x hx;injection e with e
   subst e;rw[lX];exact hc
 ·obtain⟨x,_,rfl⟩:=List.mem_map.1 a;rfl
theorem um(A:Option Addr)(l:List ByteArray)(B cap:Nat)(w:World)(p:B≤w.heap.size)(H:am .string w B A l)(s:l.length*16≤140737488351232) :
  Cs 153 #[.slice A l.length cap] w (pq l w):=by
 obtain⟨q,j,d,f,g⟩:=info_parts Tryz.info9;have _u:=p;have q28:∀(w:World) (a:Option Addr) (n c n' c':Nat),(binOp .eql 40 (.slice a n c) (.slice none n' c')).run Tryz.prog w=.ok (.bool a.isNone) w:=fun w a n c n' c'=>Lib.run_eql_slice_nil w _ _ a n c n' c' Tryz.underlying40
 cases A with
 | none =>
  have o:l=[]:=by
   cases l with
   | nil=>rfl
   | cons x t =>
    obtain⟨_,_,h,_⟩:=H 0 x rfl;cases h
  subst o;clear H;go_enter Tryz.func153,Tryz.ntmps153
  go_wp2
  go_ret
  exact⟨_,rfl,World.ownsRow_nil _ _ _ _,bR _⟩
 | some ad =>
  have i:=Lq (ui (nZ (cap:=cap) H) (bA (bR w) (.cells #[] 9)));have HL:=Lq (World.ownsRow_lit (e:=9) (size:=1) (base:=w.heap.size) w #[] 0 (lr _) (by decide) (by simp))
  clear H;go_enter Tryz.func153,Tryz.ntmps153
  go_wp2_with (at_builtin;refine qR rfl _ _ 40 rfl w.heap.size 9 q _ 1 16 Tryz.underlying40 j d f g rfl (by decide) _ _ _ rfl HL.out (.slice (some ad) l.length cap) l.length _ rfl i.out (by unfold maxLen;omega) (by omega) (by simp only[World.size_alloc];omega) ?_)
  intro v' r b k _;have hb:=cC HL.out k (lr _) (bA (bR w) _);have HO:Hid (r.ownsRow w.heap.size 9 1 v' l.length (l.map .string)):=Lq (by simpa using b)
  have m:=Lq hb;clear b k hb HL;go_wp2
  go_ret
  exact⟨v',rfl,HO.out,m.out⟩
end
theorem CA{P:Program}(w:World)(t e q:TypeId)(z:Value)(a:List Value)(l:P.underlying t=some (.slice e))(m:∀w,(zeroValue e).run P w=.ok z w)(p:z.cells=a.toArray)(d:∀u∈a,u.oneCell'=true)(b o n c:Nat)(k:n=1)(hc:∀j,j<a.length→(w.cell? ⟨b,o+j,none⟩).isSome=true)(h:∀j,j<a.length→w.frozen? ⟨b,o+j,none⟩=false) :
  (Builtin.clear_ #[t] q #[.slice (some ⟨b,o,none⟩) n c]).run P w=.ok (.tuple #[]) (w.setCells b o a):=by
 subst k;have g:(Builtin.zeroCells z.cells 1).toList=a:=by
  rw[p];simp[Builtin.zeroCells];apply List.ext_getElem
  ·simp
  ·intro i d r;simp at d;simp[Nat.mod_eq_of_lt d];rw[gE d];rfl
 have f:=run_storeCells_cells (P:=P) b o a 0 w (by simpa using hc) (by simpa using h) d
 simp only[Nat.add_zero]at f;simp[Builtin.clear_,run_underlying l,m,g,f]
theorem un(g:Nat):∀(a:List Value) (o:Nat) (w b:World),ai w b g→ai w (b.setCells g o a) g:=by
 intro a;induction a with
 | nil=>intro o w b h;exact h
 | cons v a ih=>intro o w b h;exact ih (o+1) w _ (h.set o v)
theorem ru(g:Nat):∀(a:List Value) (o:Nat) (w:World) (k:Nat),(w.cell? ⟨g,k,none⟩).isSome=true→((w.setCells g o a).cell? ⟨g,k,none⟩).isSome=true:=by
 intro a;induction a with
 | nil=>intro o w k h;exact h
 | cons v a ih =>
  intro o w k h;refine ih (o+1) _ k ?_;obtain⟨u,hu⟩:=Option.isSome_iff_exists.1 h;obtain⟨v',hv⟩:=cell?_setCell_some (p:=⟨g,o,none⟩) (x:=v) hu;rw[hv];rfl
theorem Tryz.zero50(w:World):(zeroValue 50).run Tryz.prog w=.ok (.agg #[.string ⟨#[]⟩,iv 0,iv 0,iv 0,.slice none 0 0,iv 0,iv 0]) w:=by kernel_rfl
def mR:List Value:=[.string ⟨#[]⟩,iv 0,iv 0,iv 0,.slice none 0 0,iv 0,iv 0]
theorem CB(ms:List aj)(base g cap i:Nat)(w:World)(z:w.ownsRow base 50 7 (.slice (some ⟨g,0,none⟩) ms.length cap) ms.length (ms.flatMap aJ))(L:i<ms.length)(X:ms.length≤12) :
  Cs 195 #[.slice (some ⟨g,0,none⟩) ms.length cap,iv i,iv ((i:Int)+1)] w fun e w'=>e=.returned (.slice (some ⟨g,0,none⟩) (ms.length-1) cap)∧ai w w' g∧aG 7 aJ w' w'.heap.size (some ⟨g,0,none⟩) (ms.eraseIdx i):=by
 obtain⟨K,y,I,r,J⟩:=info_parts Tryz.info50;obtain⟨hle,hcm⟩:ms.length≤cap∧cap≤maxLen:=by
  obtain⟨A,c,s,_,_,E,N⟩:=jp cH z;injection s with _ _ s
  subst s;exact⟨E,N⟩
 have a:∀j u,(ms.flatMap aJ)[j]?=some u→w.cell? ⟨g,j,none⟩=some u:=fun j u f=>by
  have:=z.cellAt j (by have:=(lG f);rw[fV cH]at this;exact this)
  rw[this,f]
 have v:(ms.flatMap aJ).length=ms.length*7:=fV cH ms;have hsm:∀j,j<ms.length*7→(w.cell? ⟨g,j,none⟩).isSome=true:=fun j q=>by rw[a j _ (gE (by rw[v];exact q))];rfl
 have o:∀j,w.frozen? ⟨g,j,none⟩=false:=fun j=>z.frozenAt j
 obtain⟨n,l⟩:=ex ms.length;obtain⟨news,hnews⟩:=ex ((ms.drop (i+1)).flatMap aJ);have b:news.length=(n-(i+1))*7:=by rw[←hnews,fV cH,List.length_drop,l]
 have R:cap≤9223372036854775807:=by simp only[maxLen]at hcm;omega
 rw[l]at hle L X v hsm ⊢;obtain⟨C,O,B⟩:∃C:Addr,(if cap=i+1 then some (⟨g,0,none⟩:Addr)else some ⟨g,(i+1)*7,none⟩)=some C∧Hid (∀j u,news[j]?=some u→w.drew.cell? (C.add j)=some u):=by
  by_cases h:cap=i+1
  ·refine⟨_,by rw[if_pos h],Lq fun j u f=>?_⟩
   have:news.length=0:=by rw[b,show n-(i+1)=0 by omega]
   rw[List.length_eq_zero_iff.1 this]at f;simp at f
  ·refine⟨_,by rw[if_neg h],Lq fun j u f=>?_⟩
   rw[lX];have q:j<(n-(i+1))*7:=by rw[←b];exact(lG f)
   refine a ((i+1)*7+j) u ?_;have e:ms.flatMap aJ=(ms.take (i+1)).flatMap aJ++news:=by rw[←hnews,←List.flatMap_append,List.take_append_drop]
   rw[e,List.getElem?_append_right (by rw[fV cH,List.length_take];omega),fV cH,List.length_take]
   rw[show(i+1)*7+j-min (i+1) ms.length*7=j by rw[l,Nat.min_eq_left (by omega)];omega]
   exact f
 have s1:=Lq b;have s2:Hid (∀u∈news,u.oneCell'=true):=Lq fun u f=>by rw[←hnews]at f;obtain⟨c,_,hc⟩:=List.mem_flatMap.1 f;exact nU c u hc
 have M:Hid (∀j,j<news.length→(w.drew.cell? ⟨g,0+i*7+j,none⟩).isSome=true∧w.drew.frozen? ⟨g,0+i*7+j,none⟩=false):=Lq fun j q=>by rw[b]at q;exact⟨hsm _ (by omega),o _⟩
 obtain⟨p,m⟩:=ex (w.drew.setCells g (0+i*7) news);have HW1:=Lq m;have h0:=nn i;have hi2:(i:Int)≤(n:Int):=by omega
 have U:(i:Int)+1≤(n:Int):=by omega
 have V:(i:Int)+1≤(cap:Int):=by omega
 have Y:((i:Int)==(i:Int)+1)=false:=by simp;omega
 have W:(i:Int)≤(cap:Int):=by omega
 have Z:¬((i:Int)+1<0):=by omega
 have aa:((i:Int)+1).toNat=i+1:=by omega
 have HO:=Lq z;have HC:=Lq a;have HS:=Lq hsm;have HF:=Lq o;have hs1:∀k,k<n*7→(p.cell? ⟨g,k,none⟩).isSome=true:=fun k hk=>by rw[←m];exact ru g _ _ _ _ (hsm k hk)
 have t:∀k,p.frozen? ⟨g,k,none⟩=false:=fun k=>by rw[←m,World.frozen?_setCells];exact o k
 have S:∀ty,(Builtin.clear_ #[22] ty #[.slice (some ⟨g,(i+(n-(i+1)))*7,none⟩) (n-(i+(n-(i+1)))) (cap-(i+(n-(i+1))))]).run Tryz.prog p=.ok (.tuple #[]) (p.setCells g ((i+(n-(i+1)))*7) mR):=fun ty =>
  CA p 22 50 ty _ mR Tryz.underlying22 Tryz.zero50 rfl (by simp[mR,Value.oneCell']) g _ _ _ (by omega) (fun j q=>hs1 _ (by simp only[mR,List.length_cons,List.length_nil]at q;omega)) (fun j _=>t _)
 have T:¬cap=i+(n-(i+1)):=by omega
 have D:=Lq hnews;have HNN:=Lq l;clear a hsm o z b hnews m l hs1 t;go_enter Tryz.func195,Tryz.ntmps195
 go_wp2_with fail
 go_region_law (refine step_append_room rfl (.tmp 22) (.tmp 25) 22 rfl 50 K 7 Tryz.underlying22 y r g 0 i cap (by simp[Act.eval,Act.put]) C (n-(i+1)) (cap-(i+1)) news (by simp[Act.eval,Act.put]) s1.out B.out s2.out (by omega) M.out ?_;rw[HW1.out])
 go_wp2
 go_ret
 refine⟨by show Ending.returned (Value.slice (some ⟨g,0,none⟩) (i+(n-(i+1))) cap)=_;rw[show i+(n-(i+1))=n-1 by omega], ?_, ?_⟩
 ·refine un g _ _ _ _ ?_;rw[←HW1.out];exact un g _ _ _ _ ((ai.of_below (bR w) g).drew)
 ·intro d x hx;have hlen:(ms.eraseIdx i).length=n-1:=by rw[List.length_eraseIdx_of_lt (by rw[HNN.out];exact L),HNN.out]
  have hd:d<n-1:=by rw[←hlen];exact(lG hx)
  have G:g<(p.setCells g ((i+(n-(i+1)))*7) mR).heap.size:=by
   have s:=HS.out 0 (by omega)
   obtain⟨u,f⟩:=Option.isSome_iff_exists.1 s;have E:=ru g mR ((i+(n-(i+1)))*7) p 0 (by rw[←HW1.out];exact ru g _ _ _ _ s)
   obtain⟨u2,H⟩:=Option.isSome_iff_exists.1 E;exact br H
  refine⟨g,0,rfl,G,fun j u f=>?_⟩
  have q:j<7:=by rw[←cH x];exact(lG f)
  rw[World.cell?_setCells_out _ _ _ _ _ (by intro _ _;left;simp only;omega),←HW1.out]
  rw[List.getElem?_eraseIdx]at hx;split at hx
  ·rename_i F;rw[World.cell?_setCells_out _ _ _ _ _ (by intro _ _;left;simp only;omega),Nat.zero_add]
   exact HC.out _ _ (jo cH ms d x hx j u f)
  ·rename_i F;have hnw:news[(d-i)*7+j]?=some u:=by
    rw[←D.out];exact jo cH (ms.drop (i+1)) (d-i) x (by rw[List.getElem?_drop,show i+1+(d-i)=d+1 by omega];exact hx) j u f
   have b:=(lG hnw);have hin:=World.cell?_setCells_in g news (0+i*7) w.drew (fun k hk=>(M.out k hk).1) ((d-i)*7+j) b
   rw[show 0+d*7+j=0+i*7+((d-i)*7+j)by omega,hin,←hnw,gE b]
section
variable{name:ByteArray}{Q:Exit→Act→World→Prop}{first kind last whi wlo:Int}{ms:List aj}{ca cap gc gs n:Nat}{A Ao:Option Addr}{zB zK zL zM zN zO zP zQ zR zS zT zC zU zV zW zX zY zZ zk zl zm zn zE zF zG zH zI zJ:Value}{V:World}
noncomputable def rx:Array Oper:=aU (aF Tryz.f148 6)
abbrev uq(V:World)(A Ao:Option Addr)(n cap ca gs gc:Nat)(name:ByteArray)(kind first last wlo whi:Int)(on:List ByteArray):Prop:=∀W,BW V W→cA W gs 0 (.slice A n cap)∧cA W gc 3 (.string name)∧cA W gc 4 (iv kind)∧cA W gc 5 (iv first)∧cA W gc 6 (iv last)∧cA W gc 7 (.slice Ao on.length ca)∧cA W gc 8 (iv wlo)∧cA W gc 9 (iv whi)
theorem ur{on:List ByteArray}{s:Value}{o:Nat}(F:n≤11)(l:ms.length=n)(B:aa V gs 62 #[.slice A n cap])(z:uq V A Ao n cap ca gs gc name kind first last wlo whi on)(y:∀u26 u27 u28 u29 u30 u31 u32 u33 u34 u35 u36 u37 u38 u39 g c W',W'.ownsRow V.heap.size 50 7 (.slice (some ⟨g,0,none⟩) (n+1) c) (n+1) (ms.flatMap aJ++[.string name,iv kind,iv first,iv last,.slice Ao on.length ca,iv wlo,iv whi])→BW V W'→Q .normal ⟨#[pT gs 0,zB,zC,pT gc 0,zE,zF,zG,zH,zI,zJ,zK,zL,zM,zN,zO,zP,zQ,zR,zS,zT,zU,zV,zW,zX,zY,zZ,u26,u27,u28,u29,u30,u31,u32,u33,u34,u35,u36,u37,u38,u39],[]⟩ (W'.setCell ⟨gs,0,none⟩ (.slice (some ⟨g,0,none⟩) (n+1) c))){w:World}(x:w.ownsRow V.heap.size 50 7 s n (ms.flatMap aJ))(v:aa w o 50 #[.string name,iv kind,iv first,iv last,.slice Ao on.length ca,iv wlo,iv whi])(t:BW V w) :
  dO Tryz.prog .any rx (NoPanic Q) (fun W=>cA W gs 0 (.slice A n cap)∧cA W gc 3 (.string name)∧cA W gc 4 (iv kind)∧cA W gc 5 (iv first)∧cA W gc 6 (iv last)∧cA W gc 7 (.slice Ao on.length ca)∧cA W gc 8 (iv wlo)∧cA W gc 9 (iv whi)) (fun k=>k==14) 5 #[true,true,true,true,true,true,true,true,true,true,false,false,false,false,false] ⟨#[pT gs 0,zB,zC,pT gc 0,zE,zF,zG,zH,zI,zJ,zK,zL,zM,zN,zO,zP,zQ,zR,zS,zT,zU,zV,zW,zX,zY,zZ,pT gs 0,pT gs 0,pT gs 0,pT gs 0,pT gs 0,.slice A n cap,s,pT gc 3,.agg #[.string name,iv kind,iv first,iv last,.slice Ao on.length ca,iv wlo,iv whi],.slice (some ⟨o,0,none⟩) 1 1,zk,zl,zm,zn],[]⟩ w:=by
 obtain⟨r,i,d,f,h⟩:=info_parts Tryz.info50;have HS:=Lq z;have HQ:=Lq y;have HG:=Lq B;have HO:=Lq x;have HL:=Lq v;have HB:=Lq t;have _u:=l;clear z y B x v t l _u;refine aQ 10 fun C hK=>?_
 refine step_append_lies w (by rfl) _ _ 22 (by rfl) V.heap.size 50 r _ 7 80 Tryz.underlying22 i d f h rfl (by decide) s n _ (by rfl) HO.out ⟨o,0,none⟩ 1 1 [.string name,iv kind,iv first,iv last,.slice Ao on.length ca,iv wlo,iv whi] (by rfl) (by rfl) (fun j u D=>by rw[kW,HL.out.cell];simpa using D) (by simp[Value.oneCell']) (by omega) (by unfold maxLen;omega) (by omega) HB.out.size _ rfl ?_
 intro g c E b a p q;have HB2:Hid (BW V E):=Lq (cC HO.out a (lr _) HB.out);have HO2:=Lq b;refine hK.out _ _ (HS.out _ HB2.out) (fun hHeld=>?_)
 clear b a p q HO HL HB;clear hK;refine ae 11 (pT gs 0) ?_;refine ae 12 (pT gs 0) ?_;refine ae 13 (pT gs 0) ?_;refine bO 14 fun C hK=>?_
 have m:=HG.out.keep HB2.out;have cg:=m.c 0;have fg:=m.frozen 0;have lg:=m.lt;go_simp;refine hK.out _ _ ?_;clear m cg fg lg;clear hK;exact dL (HQ.out _ _ _ _ _ _ _ _ _ _ _ _ _ _ _ _ _ HO2.out HB2.out)
theorem CF{on:List ByteArray}{z B C D E F G H I J:Value}(x:n≤11)(f:ms.length=n)(v:aa V gs 62 #[.slice A n cap])(u:uq V A Ao n cap ca gs gc name kind first last wlo whi on)(t:∀u26 u27 u28 u29 u30 u31 u32 u33 u34 u35 u36 u37 u38 u39 g c W',W'.ownsRow V.heap.size 50 7 (.slice (some ⟨g,0,none⟩) (n+1) c) (n+1) (ms.flatMap aJ++[.string name,iv kind,iv first,iv last,.slice Ao on.length ca,iv wlo,iv whi])→BW V W'→Q .normal ⟨#[pT gs 0,zB,zC,pT gc 0,zE,zF,zG,zH,zI,zJ,zK,zL,zM,zN,zO,zP,zQ,zR,zS,zT,zU,zV,zW,zX,zY,zZ,u26,u27,u28,u29,u30,u31,u32,u33,u34,u35,u36,u37,u38,u39],[]⟩ (W'.setCell ⟨gs,0,none⟩ (.slice (some ⟨g,0,none⟩) (n+1) c)))(s:∀W,BW V W→Cs 193 #[.slice A n cap] W (jJ ms W)) :
  (aF Tryz.f148 6).wp Tryz.prog Q ⟨#[pT gs 0,zB,zC,pT gc 0,zE,zF,zG,zH,zI,zJ,zK,zL,zM,zN,zO,zP,zQ,zR,zS,zT,zU,zV,zW,zX,zY,zZ,z,B,C,D,E,F,G,H,I,J,zk,zl,zm,zn],[]⟩ V:=by
 have i:=Lq u;have HC:=Lq s;have HB0:=Lq (fc (bR V));have HQ:=Lq t;have HG:=Lq v;clear u s t v;have e:aF Tryz.f148 6=Code.region 6 rx true:=by kernel_rfl
 rw[e];refine wp_region_noPanic ?_;refine lZ (S:=(fun W=>cA W gs 0 (.slice A n cap)∧cA W gc 3 (.string name)∧cA W gc 4 (iv kind)∧cA W gc 5 (iv first)∧cA W gc 6 (iv last)∧cA W gc 7 (.slice Ao on.length ca)∧cA W gc 8 (iv wlo)∧cA W gc 9 (iv whi))) (late:=(fun k=>k==14)) (by kernel_rfl) ?_
 have a:=i.out _ HB0.out;have hsz:rx.size=15:=by kernel_rfl
 have h:Array.replicate 15 false=#[false,false,false,false,false,false,false,false,false,false,false,false,false,false,false]:=by kernel_rfl
 rw[hsz,h];clear e hsz h;generalize V.drew=V0 at HB0 a ⊢;refine ae 0 (pT gs 0) ?_;refine ae 1 (pT gs 0) ?_;refine ae 2 (pT gs 0) ?_;refine ae 3 (pT gs 0) ?_;refine ae 4 (pT gs 0) ?_;refine ae 5 (.slice A n cap) ?_;refine ae 7 (pT gc 3) ?_;refine ae 8 (.agg #[.string name,iv kind,iv first,iv last,.slice Ao on.length ca,iv wlo,iv whi]) ?_;refine tJ 6 9 (fun q hK=>?_) fun q hK=>?_
 ·skip;go_simp;refine(HC.out _ HB0.out).mono ?_;rintro e l ⟨r,rfl,o,m⟩;have HO5:Hid (l.ownsRow V.heap.size 50 7 r n (ms.flatMap aJ)):=Lq (f▸dv o HB0.out.size);have b:=Lq (bT HB0.out m);clear o m;refine hK.out _ _ (i.out _ b.out) (fun a=>?_)
  clear hK;refine aQ 9 fun q hK=>?_
  go_simp;have d:=Lq (aN HO5.out (bA (bR l) (.cells #[.string name,iv kind,iv first,iv last,.slice Ao on.length ca,iv wlo,iv whi] 50)));have HB6:=Lq (bA b.out (.cells #[.string name,iv kind,iv first,iv last,.slice Ao on.length ca,iv wlo,iv whi] 50));have HL6:=Lq (aa.new l 50 #[.string name,iv kind,iv first,iv last,.slice Ao on.length ca,iv wlo,iv whi]);obtain⟨y,hw6⟩:=ex (l.alloc (.cells #[.string name,iv kind,iv first,iv last,.slice Ao on.length ca,iv wlo,iv whi] 50));obtain⟨g1,hg1⟩:=ex l.heap.size;rw[hw6]at d HB6 HL6;rw[hg1]at HL6;rw[hw6,hg1];refine hK.out _ _ (i.out _ HB6.out) (fun a=>?_)
  clear hK hw6 hg1;exact ur x f HG.out i.out HQ.out d.out HL6.out HB6.out
 ·skip;go_simp;have b:=Lq (bA HB0.out (.cells #[.string name,iv kind,iv first,iv last,.slice Ao on.length ca,iv wlo,iv whi] 50));have HL5:=Lq (aa.new V0 50 #[.string name,iv kind,iv first,iv last,.slice Ao on.length ca,iv wlo,iv whi]);obtain⟨l,hw5⟩:=ex (V0.alloc (.cells #[.string name,iv kind,iv first,iv last,.slice Ao on.length ca,iv wlo,iv whi] 50));obtain⟨g1,hg1⟩:=ex V0.heap.size;rw[hw5]at b HL5;rw[hg1]at HL5;rw[hw5,hg1];refine hK.out _ _ (i.out _ b.out) (fun a=>?_)
  clear hK hw5 hg1;refine aQ 6 fun q hK=>?_
  go_simp;refine(HC.out _ b.out).mono ?_;rintro e y ⟨r,rfl,p,j⟩;have d:Hid (y.ownsRow V.heap.size 50 7 r n (ms.flatMap aJ)):=Lq (f▸dv p b.out.size);have HB6:=Lq (bT b.out j);have HL6:=Lq (HL5.out.keep j);clear p j;refine hK.out _ _ (i.out _ HB6.out) (fun a=>?_)
  clear hK;exact ur x f HG.out i.out HQ.out d.out HL6.out HB6.out
end
section
variable{ms:List aj}{cap g:Nat}{A:Option Addr}{W w:World}
theorem oT{X Y:World}(h:ai W X g)(a:ai X Y g):ai W Y g :=
 ⟨a.os.trans h.os,a.tape.trans h.tape,a.output.trans h.output,lT h.size a.size,fun k c b=>(a.block k (lz c h.size) b).trans (h.block k c b)⟩
def dT(w:World)(g:Nat)(A:Option Addr)(cap:Nat)(ms:List aj):Prop:=∀W,ai w W g→az W W.heap.size A cap ms
theorem dT.on(h:dT w g A cap ms)(a:ai w W g):dT W g A cap ms:=fun X hx=>h X (oT a hx)
theorem dT.below(h:dT w g A cap ms)(a:BW w W):dT W g A cap ms:=h.on (ai.of_below a g)
theorem dT.sl(h:dT w g A cap ms)(a:BW w W):az W W.heap.size A cap ms:=h W (ai.of_below a g)
theorem aR.only{B:Nat}{m:aj}(h:aR w B m)(b:ai w W g)(a:B≤g):aR W B m:=⟨b.rd1 h.on a,h.le,h.cm,h.nm,h.ons,h.sz⟩
theorem dT.own{base n:Nat}{v:Value}(h:w.ownsRow base 50 7 v n (ms.flatMap aJ))(d:n=ms.length)(f:g<base)(a:∀W,ai w W g→∀m∈ms,aR W W.heap.size m):∃A cap,v=.slice A ms.length cap∧dT w g A cap ms:=by
 obtain⟨A,cap,e,_⟩:=az.of_own h d (a w (ai.of_below (bR w) g));refine⟨A,cap,e,fun W ho=>?_⟩
 obtain⟨j,b,c,i⟩:=az.of_own (jq h ho f) d (a W ho);rw[e]at c;injection c with e3 _ e4
 subst e3 e4;exact i
def me(ms:List aj)(c:ao)(gs:Nat)(w:World)(e:Ending)(w':World):Prop:=∃r:Int,e=.returned (iv r)∧ai w w' gs∧(r≠0→bL (ab ms) c.c=none∧(c.what=2→hasP (ab ms) c.name=true→r=9))∧(r=0→∃out A cap,aa w' gs 62 #[.slice A out.length cap]∧bL (ab ms) c.c=some (ab out)∧dT w' gs A cap out)
theorem mg{c:ao}{a:Nat}{w':World}{r:Int}(b:r≠0)(h:bL (ab ms) c.c=none)(f:BW w w')(d:c.what=2→hasP (ab ms) c.name=true→r=9:=by first | exact fun h=>absurd (show(1:Int)=2 from h) (by decide) | exact fun h=>absurd (show(3:Int)=2 from h) (by decide)):me ms c a w (.returned (iv r)) w':=⟨r,rfl,ai.of_below f a,fun _=>⟨h,d⟩,fun h1=>absurd h1 b⟩
theorem CG(A:Option Addr)(ms:List aj)(c:ao)(B cap d:Nat)(w:World)(Z:B≤d)(K:aa w d 62 #[.slice A ms.length cap])(hK:dT w d A cap ms)(hM:aR w B c.part)(t:aE (ab ms))(N:c.what=1)(F:c.name.toList.isEmpty=true) :
  Cs 148 #[pT d 0,cV c] w (me ms c d w):=by
 have E:ms.length≤12:=by have:=t.len;simpa using this
 obtain⟨x,ac,n,ae,o⟩:=mO w c;have hgl:=K.lt;have HG:=Lq (K.keep n);have HK:=Lq (hK.below n);have HM:=Lq (hM.below n (lT Z (Nat.le_of_lt hgl)));have HB1:=Lq n;have HOK:=Lq t;have hgl1:d<x.heap.size:=by omega
 clear K hK hM n t;obtain⟨G,day,nm,⟨⟨b,a,first,last,on,l,j⟩,u,y⟩⟩:=c;obtain rfl:G=1:=N;have HNM:=Lq F;obtain⟨gc,hgc⟩:=ex w.heap.size;rw[hgc]at o;have HS:Hid (∀W,BW x W→cA W d 0 (.slice A ms.length cap)∧cA W gc 3 (.string b)∧cA W gc 4 (iv a)∧cA W gc 5 (iv first)∧cA W gc 6 (iv last)∧cA W gc 7 (.slice u on.length y)∧cA W gc 8 (iv l)∧cA W gc 9 (iv j)):=Lq fun W f=>have k:=o.keep f;⟨(HG.out.keep f).c 0,k.c 3,k.c 4,k.c 5,k.c 6,k.c 7,k.c 8,k.c 9⟩
 have H:Hid (∀W,BW x W→Cs 83 #[pT d 0,.agg #[.string b,iv a,iv first,iv last,.slice u on.length y,iv l,iv j],iv ms.length,.slice none 0 0] W (iP (cQ (ah.mk b a first last on l j) (ab ms) (ab ms)) W)):=Lq fun W f=>by
  have M:=HK.out.sl f;have h:=rr A none ms [] ⟨(ah.mk b a first last on l j),u,y⟩ W.heap.size cap 0 d ms.length W (lr _) M.rd cF.nil ((HM.out.below f (by omega)).more (lT (by omega) f.size)) M.le M.max (Nat.zero_le _) (lr _) (HS.out W f).1
  rw[List.take_of_length_le (by simp),show ab []=[]from rfl,List.append_nil]at h
  exact h
 have I:Hid (∀W,BW x W→Cs 193 #[.slice A ms.length cap] W (jJ ms W)):=Lq fun W f=>rt A ms W.heap.size cap W (lr _) (HK.out.sl f) E
 obtain⟨O,R,S,T,U,V,X,Y⟩:=HS.out _ (bR x);have hgw:=o.lt;clear o F;by_cases h12:12≤ms.length
 ·have C:(ms.length:Int)≥12:=by omega
  go_enter Tryz.func148,Tryz.ntmps148
  go_wp2_with fail;go_ret
  exact mg (by decide) (pj rfl (fun h=>by have:=h.1;simp at this;omega)) HB1.out
 ·have C:¬(ms.length:Int)≥12:=by omega
  go_enter Tryz.func148,Tryz.ntmps148
  go_wp2_with fail;go_region_held3 (fun W=>cA W d 0 (.slice A ms.length cap)∧cA W gc 3 (.string b)∧cA W gc 4 (iv a)∧cA W gc 5 (iv first)∧cA W gc 6 (iv last)∧cA W gc 7 (.slice u on.length y)∧cA W gc 8 (iv l)∧cA W gc 9 (iv j)) (first | exact HS.out _ (u0 hb5) | exact HS.out _ (aZ (bR _))) ((go_at_call 83;((with_reducible refine(H.out _ (aZ (bR _))).mono ?_);rintro e w5 ⟨r,rfl,hr,hb5⟩)))
  have i:=Lq (u0 hb5);have HR:=Lq hr;clear hb5 hr O R S T U V X Y;obtain⟨O,R,S,T,U,V,X,Y⟩:=HS.out _ i.out;by_cases hr0:r=0
  ·subst hr0;have J:=Lq (HR.out.1 rfl);clear HR;go_wp2_with fail;go_upto_region 6 with fail
   refine CF (ms:=ms) (by omega) rfl (HG.out.keep i.out) (fun W f=>HS.out W (bT i.out f)) ?_ (fun W f=>I.out W (bT i.out f))
   intro af ag ak al am an ap aq ar au av aw ax ay g c v p f;have HO:=Lq p;have HB:=Lq (bT i.out f);have hsz5:=i.out.size;clear p f O R S T U V X Y;go_wp2_with fail;go_ret
   refine⟨0,rfl,oT (ai.of_below (bT HB1.out HB.out) d) (ai.of_set (bR v) d 0 _),fun h=>absurd rfl h,fun _=>?_⟩
   have s:ai v (v.setCell ⟨d,0,none⟩ (.slice (some ⟨g,0,none⟩) (ms.length+1) c)) d:=ai.of_set (bR v) d 0 _;have hrow:(v.setCell ⟨d,0,none⟩ (.slice (some ⟨g,0,none⟩) (ms.length+1) c)).ownsRow w5.heap.size 50 7 (.slice (some ⟨g,0,none⟩) (ms.length+1) c) (ms.length+1) ((ms++[aj.mk (ah.mk b a first last on l j) u y]).flatMap aJ):=by
    have:=jq HO.out s (by omega)
    simpa[List.flatMap_append,aJ]using this
   obtain⟨A2,z,e2,L⟩:=dT.own (g:=d) hrow (by simp) (by omega) (fun W ho q o=>by
    have m:=oT (oT (ai.of_below HB.out d) s) ho;rcases List.mem_append.1 o with o | o
    ·exact(HK.out W m).rd.ok q o
    ·obtain rfl:=List.mem_singleton.1 o;exact(HM.out.only m Z).more (lT (by omega) m.size))
   refine⟨_,A2,z, ?_, ?_,L⟩
   ·have D:=(HG.out.keep HB.out).set_ 0 (.slice (some ⟨g,0,none⟩) (ms.length+1) c);simp only[List.setIfInBounds_toArray,List.set_cons_zero]at D;rw[←e2];exact D
   ·rw[qZ rfl HNM.out (by simp;omega) J.out,nV];rfl
  ·have ad:(r != 0)=true:=by simpa using hr0
   go_wp2_with fail;go_ret
   exact mg hr0 (pj rfl (fun h=>hr0 (HR.out.2 h.2))) (bT HB1.out i.out)
end
theorem CH{α:Type}{k:Nat}{enc:α→List Value}{w W:World}{B b a f:Nat}{xs:List α}(h:aG k enc w B (some ⟨b,a,none⟩) xs)(g:ai w W f)(d:b≠f)(c:b<W.heap.size):aG k enc W W.heap.size (some ⟨b,a,none⟩) xs:=by
 intro i x hx;obtain⟨b2,off2,e,_,hc⟩:=h i x hx;injection e with e
 injection e with e1 e2
 subst e1 e2;exact⟨b,a,rfl,c,fun j u l=>g.cell (hc j u l) d⟩
theorem CI(A:Option Addr)(ms:List aj)(c:ao)(cap d:Nat)(w:World)(K:aa w d 62 #[.slice A ms.length cap])(hK:dT w d A cap ms)(D:aE (ab ms))(M:c.what=2)(C:jl c.part.p=true) :
  Cs 150 #[pT d 0,cV c] w (me ms c d w):=by
 have u:ms.length≤12:=by have:=D.len;simpa using this
 obtain⟨t,J,s,X,E⟩:=mO w c;have hgl:=K.lt;have HG:=Lq (K.keep s);have HK:=Lq (hK.below s);have HB1:=Lq s;have hgl1:d<t.heap.size:=by omega
 clear K hK s D;obtain⟨F,day,j,⟨⟨O,N,first,last,on,ac,Z⟩,Ao,ca⟩⟩:=c;obtain rfl:F=2:=M;have HBP:=Lq C;obtain⟨gc,hgc⟩:=ex w.heap.size;rw[hgc]at E;have HS:Hid (∀W,BW t W→cA W d 0 (.slice A ms.length cap)∧cA W gc 2 (.string j)∧gc<W.heap.size):=Lq fun W b=>have k:=E.keep b;⟨(HG.out.keep b).c 0,k.c 2,k.lt⟩
 obtain⟨r,L⟩:=ex (ct (ab ms) j);have HF:Hid (∀W,BW t W→Cs 88 #[pT d 0,.string j] W (Rt W (iv r))):=Lq fun W b=>L▸jK A ms W.heap.size cap d j W (lr _) (lT (HK.out.sl b).le (HK.out.sl b).max) (HK.out.sl b).rd (HS.out W b).1
 obtain⟨bs,x⟩:=ex (bu (fun q=>standsB q j) (ab ms))
 have T:Hid (∀W,BW t W→Cs 141 #[.slice A ms.length cap,.func (.func 194) #[] #[pT gc 0]] W (Rt W (.bool bs))):=Lq fun W b=>x▸Cv (fun q=>standsB q j) A ms W.heap.size cap (pT gc 0) W (lT (HK.out.sl b).le (HK.out.sl b).max) (lr _) (HK.out.sl b).rd (fun W2 m l hm=>Cz m j gc W2.heap.size W2 (lr _) ((HK.out.sl (bT b l)).rd.ok m hm) (HS.out W2 (bT b l)).2.1)
 have I:Hid (∀W,BW t W→Cs 193 #[.slice A ms.length cap] W (jJ ms W)):=Lq fun W b=>rt A ms W.heap.size cap W (lr _) (HK.out.sl b) u
 have G:=Lq L;have KS:=Lq x;obtain⟨x0,x1,x2⟩:=HS.out _ (bR t);clear E C L x;go_enter Tryz.func150,Tryz.ntmps150
 go_wp2_with fail;refine(HF.out _ (bR t)).mono ?_;rintro e w2 ⟨rfl,(o:Hid _)⟩;clear J x0 x1 x2;obtain⟨x0,x1,x2⟩:=HS.out _ o.out;by_cases hr0:r<0
 ·go_wp2_with fail;go_ret
  exact mg (by decide) (pm rfl (fun h=>by have n:=iO.1 (by rw[G.out];exact hr0:ct (ab ms) j<0);have H:=h.1;simp only[ao.c]at H;rw[n]at H;cases H)) (bT HB1.out o.out) (fun _ y=>by have n:=iO.1 (by rw[G.out];exact hr0:ct (ab ms) j<0);simp only at y;rw[n]at y;cases y)
 ·have y:hasP (ab ms) j=true:=by
   cases h:hasP (ab ms) j with
   | true=>rfl
   | false=>have:=iO.2 h;rw[G.out]at this;exact absurd this hr0
  obtain⟨B,z,_⟩:=fU y;obtain⟨i,hi⟩:=ex (aL (ab ms) j);rw[hi]at B z;have hil2:i<ms.length:=by simpa using z
  obtain rfl:r=(i:Int):=by rw[←G.out];exact B
  have S:=Lq y;have HI:=Lq hi;have hi0:=nn i;clear y B z hi;go_wp2_with fail;refine(T.out _ o.out).mono ?_;rintro e w3 ⟨rfl,b⟩;have HB3:=Lq (bT o.out b);clear b x0 x1 x2;obtain⟨x0,x1,x2⟩:=HS.out _ HB3.out;cases bs with
  | true =>
   go_wp2_with fail;go_ret
   exact mg (by decide) (pm rfl (fun h=>by have n:bu (fun q=>standsB q j) (ab ms)=false:=iQ.2 h.2;rw[KS.out]at n;cases n)) (bT HB1.out HB3.out) (fun _ _=>rfl)
  | false =>
   go_wp2_with fail;refine(I.out _ HB3.out).mono ?_;rintro e Y ⟨v5,rfl,v,b⟩;have HB5:=Lq (bT HB3.out b);obtain⟨g,c5,rfl,hgb,hgl5,hc5⟩:=gI v (by omega)
   have V:d<g:=lz (lz hgl1 HB3.out.size) hgb;have hcm:c5≤maxLen:=by
    obtain⟨A9,c9,n,_,_,H,U⟩:=jp cH v;injection n with _ _ n
    subst n;exact U
   have R:=Lq (CB ms _ g c5 i Y v hil2 u);have hg3:w3.heap.size≤g:=hgb;clear b v x0 x1 x2;obtain⟨x0,x1,x2⟩:=HS.out _ HB5.out;go_wp2_with fail;refine R.out.mono ?_;rintro e w6 ⟨rfl,ho6,hr6⟩;have hb6:BW t w6:=ho6.below HB5.out (lT HB3.out.size hg3);have HB6:=Lq hb6;have HR6:=Lq hr6;have hgl6:g<w6.heap.size:=lz hgl5 ho6.size;have bg:=HG.out.keep hb6;have x0':=bg.c 0;have xf:=bg.frozen 0;have xl:=bg.lt;clear ho6 hr6 hb6 bg x0 x1 x2;go_wp2_with fail;go_ret
   have f:ai w6 (w6.setCell ⟨d,0,none⟩ (.slice (some ⟨g,0,none⟩) (ms.length-1) c5)) d:=ai.of_set (bR w6) d 0 _;have hel:(ms.eraseIdx i).length=ms.length-1:=List.length_eraseIdx_of_lt hil2;refine⟨0,rfl,oT (ai.of_below (bT HB1.out HB6.out) d) f,fun h=>absurd rfl h,fun _=>⟨ms.eraseIdx i,some ⟨g,0,none⟩,c5, ?_, ?_, ?_⟩⟩
   ·have l:=(HG.out.keep HB6.out).set_ 0 (.slice (some ⟨g,0,none⟩) (ms.length-1) c5);simp only[List.setIfInBounds_toArray,List.set_cons_zero]at l;rw[hel];exact l
   ·rw[tO rfl HBP.out S.out (iQ.1 KS.out),rh,←HI.out];rfl
   ·intro W v;have hall:=oT (oT (ai.of_below HB6.out d) f) v;have hl:g<W.heap.size:=lz hgl6 (oT f v).size;refine⟨⟨CH HR6.out (oT f v) (by omega) hl,fun q E=>(HK.out W hall).rd.ok q (List.mem_of_mem_eraseIdx E)⟩,by omega,hcm,fun h=>(by cases h),fun a ha=>?_⟩
    injection ha with ha
    subst ha;exact⟨rfl,hl⟩
theorem CJ(c:ao)(w:World):Cs 147 #[cV c] w (Rt w (.bool c.name.toList.isEmpty)):=by
 obtain⟨d,day,j,⟨⟨b,a,first,last,on,g,f⟩,h,i⟩⟩:=c;go_enter Tryz.func147,Tryz.ntmps147
 go_wp2
 go_ret
 exact⟨aY rfl,bA (bR _) _⟩
theorem CK(c:ao)(w:World):Cs 151 #[cV c] w (Rt w (.bool true)):=by
 obtain⟨d,day,j,⟨⟨b,a,first,last,on,g,f⟩,h,i⟩⟩:=c;go_enter Tryz.func151,Tryz.ntmps151
 go_wp2
 go_ret
 exact⟨rfl,bA (bR _) _⟩
theorem rz(m:aj)(w:World):Cs 95 #[mV m] w (Rt w (.agg #[.string m.p.name,iv m.p.kind,iv m.p.first,iv m.p.last,iv m.p.wlo,iv m.p.whi])):=by
 obtain⟨⟨b,a,first,last,on,d,c⟩,f,g⟩:=m;go_enter Tryz.func95,Tryz.ntmps95
 go_wp2
 exact bodyPost_ret (v:=.agg #[.string b,iv a,iv first,iv last,iv d,iv c]) (by simp[results,Tryz.results95,go_sem]) rfl ⟨rfl,bA (bA (bR _) _) _⟩
theorem CL(c:ao)(w:World)(h:c.part.p.on.length≤maxLen):Cs 149 #[cV c] w (Rt w (.bool (jl c.part.p))):=by
 obtain⟨i,day,m,⟨⟨b,a,first,last,on,g,f⟩,j,l⟩⟩:=c;have hon:on.length≤9223372036854775807:=by simp only[maxLen]at h;omega
 clear h;have k:=Lq (fun W=>rz ⟨⟨b,a,first,last,on,g,f⟩,j,l⟩ W)
 go_enter Tryz.func149,Tryz.ntmps149
 go_wp2_with fail;refine(k.out _).mono ?_;rintro e n ⟨rfl,d⟩;obtain⟨hc,hf⟩:=Bh d;have HB:=Lq (bT (bA (bR w) _) d);clear d;go_wp2
 all_goals
  go_ret
  exact⟨aY (by simp_all [jl]<;>(rw[Bool.eq_iff_iff];simp)),HB.out⟩
def lq(f:Nat):Value:=.agg #[.func (.func f) #[] #[],.func (.func (f+1)) #[] #[]]
open Classical in
noncomputable def mS:Value→Option (DataW Unit×List MemPlace)
 | .agg cs=>match cs.toList with
  | [.func (.func f) _ _,_]=>if cs=#[.func (.func f) #[] #[],.func (.func (f+1)) #[] #[]]then some (.lit (.int .i64 f),[])else none
  | _=>none
 | _=>none
theorem rA(f:Nat):mS (lq f)=some (.lit (.int .i64 f),[]):=by simp[mS,lq]
def mh:DataW Unit:=(((DataW.map []).put (.int .i64 1) (.lit (.int .i64 147))).put (.int .i64 2) (.lit (.int .i64 149))).put (.int .i64 3) (.lit (.int .i64 151))
def jL(w:World)(b:Nat):Prop:=w.ownsMap Tryz.prog 3 mS b 3 mh
theorem Tryz.law3:Maps.Keyed Tryz.prog 3:=Maps.int_keyed Tryz.underlying3
theorem CM(w:World):Cs 84 #[] w fun e w'=>∃b,e=.returned (.map (some b))∧jL w' b∧BW w w'∧w.heap.size≤b:=by
 have l:=@run_makeMap Tryz.prog;have h0:=World.ownsMap_made w Tryz.prog 3 mS;obtain⟨w1,hr1,h1,g1⟩:=h0.update (t:=156) Tryz.law3 Tryz.underlying156 (by unfold maxLen;omega) (key:=iv 1) (val:=lq 147) (Maps.keyOf_int_mk Tryz.underlying3 (by decide)) (rA 147)
 obtain⟨n,c,g,a⟩:=h1.update (t:=156) Tryz.law3 Tryz.underlying156 (by unfold maxLen;omega) (key:=iv 2) (val:=lq 149) (Maps.keyOf_int_mk Tryz.underlying3 (by decide)) (rA 149)
 obtain⟨m,d,h,f⟩:=g.update (t:=156) Tryz.law3 Tryz.underlying156 (by unfold maxLen;omega) (key:=iv 3) (val:=lq 151) (Maps.keyOf_int_mk Tryz.underlying3 (by decide)) (rA 151)
 have j:Hid (BW w m):=Lq (((((bA (bR w) (.map #[] 0)).grown g1 (by simp) (fun k hk=>by injection hk with hk;omega)).grown a ((by have:=g1.size;simp at this;omega)) (fun k hk=>by injection hk with hk;omega)).grown f ((by have:=g1.size;have:=a.size;simp at *;omega)) (fun k hk=>by injection hk with hk;omega)))
 have i:=Lq h;simp only[lq]at hr1 c d;clear h0 h1 g h g1 a f;go_enter Tryz.func84,Tryz.ntmps84
 go_wp2
 go_ret
 exact⟨_,rfl,i.out,j.out,lr _⟩
section
variable{n:Int}{b f:Nat}{w:World}
theorem Tryz.zero160(w:World):(zeroValue 160).run Tryz.prog w=.ok (.agg #[.nilFunc,.nilFunc]) w:=by kernel_rfl
theorem CN(a:DataW Unit):mh.atKey (.int .i64 1) a=.lit (.int .i64 147):=by rfl
theorem CO(a:DataW Unit):mh.atKey (.int .i64 2) a=.lit (.int .i64 149):=by rfl
theorem CP(a:DataW Unit):mh.atKey (.int .i64 3) a=.lit (.int .i64 151):=by rfl
theorem CQ(n:Int)(a:DataW Unit)(c:n≠1)(d:n≠2)(g:n≠3):mh.atKey (.int .i64 n) a=a:=by
 have h:mh=.map [(.int .i64 1,.lit (.int .i64 147)),(.int .i64 2,.lit (.int .i64 149)),(.int .i64 3,.lit (.int .i64 151))]:=by rfl
 rw[h];simp[DataW.atKey,Lit.sameKey,Ne.symm c,Ne.symm d,Ne.symm g]
theorem CR{v:Value}{y:DataW Unit×List MemPlace}(h:mS v=some y)(j:y.1=.lit (.int .i64 f)):v=lq f:=by
 unfold mS at h;split at h
 ·rename_i cs;split at h
  ·rename_i g a b c k;split at h
   ·rename_i d;injection h with h
    subst h;simp at j;have i:g=f:=Int.ofNat.inj j;subst i;rw[d];rfl
   ·cases h
  ·cases h
 ·cases h
theorem rB(h:jL w b)(j:Lit.wf (.int .i64 n)=true)(c:∀zd,mh.atKey (.int .i64 n) zd=.lit (.int .i64 f)):(Instr.lookup 156 (.map (some b)) (.int .i64 n) true).run Tryz.prog w=.ok (.tuple #[lq f,.bool true]) w:=by
 obtain⟨k,d,i,F,_,g⟩:=h;rcases Maps.fit_look true Tryz.law3 Tryz.underlying156 (Tryz.zero160 w) i F (Maps.keyOf_int_mk Tryz.underlying3 j)with⟨hrun,_,hz⟩ | ⟨e0,y,_,_,hrun,hR,hz,_⟩
 ·exfalso;have a:=hz .nil;rw[←g,c]at a;cases a
 ·have a:=hz .nil;rw[←g,c]at a;rw[hrun,CR hR a.symm];rfl
theorem CS(h:jL w b)(l:Lit.wf (.int .i64 n)=true)(d:n≠1)(g:n≠2)(i:n≠3):(Instr.lookup 156 (.map (some b)) (.int .i64 n) true).run Tryz.prog w=.ok (.tuple #[.agg #[.nilFunc,.nilFunc],.bool false]) w:=by
 obtain⟨m,c,k,F,_,j⟩:=h;rcases Maps.fit_look true Tryz.law3 Tryz.underlying156 (Tryz.zero160 w) k F (Maps.keyOf_int_mk Tryz.underlying3 l)with⟨hrun,_,hz⟩ | ⟨e0,y,_,_,hrun,hR,hz,_⟩
 ·rw[hrun];rfl
 ·exfalso;have a:=hz .nil;have b:=hz (.lit (.bool true));rw[←j,CQ n _ d g i]at a b;rw[←a]at b;cases b
end
def ut(m:aj)(w:World)(e:Ending)(w':World):Prop:=∃A c,e=.returned (.agg #[.string m.p.name,iv m.p.kind,iv m.p.first,iv m.p.last,.slice A m.p.on.length c,iv m.p.wlo,iv m.p.whi])∧fd w' ⟨m.p,A,c⟩∧w'.ownsRow w.heap.size 9 1 (.slice A m.p.on.length c) m.p.on.length (m.p.on.map .string)∧BW w w'
theorem CT(m:aj)(B:Nat)(w:World)(D:B≤w.heap.size)(f:aR w B m):Cs 87 #[mV m] w (ut m w):=by
 obtain⟨k,n,i,q,E⟩:=lY w m;obtain⟨W2,hW2,hb2⟩:=nA k (.cells #[.string ⟨#[]⟩,iv 0,iv 0,iv 0,.slice none 0 0,iv 0,iv 0] 50);have hq2:aa W2 k.heap.size 50 #[.string ⟨#[]⟩,iv 0,iv 0,iv 0,.slice none 0 0,iv 0,iv 0]:=by rw[←hW2];exact aa.new k 50 _
 have b:=bT i hb2;have HC:=Lq (um m.A m.p.on B m.cap W2 (lT D b.size) (f.on.below b D) f.sz);have HNM:=Lq f.nm;have HON:=Lq f.ons;have HSZ:=Lq f.sz;have HB:=Lq b;have HX:=Lq (E.keep hb2);have HY:=Lq hq2;obtain⟨⟨name,kind,first,last,on,wlo,whi⟩,Ao,ca⟩:=m;obtain⟨r,s,t,u,k4,x,y⟩:=HX.out.c7;obtain⟨gx,hgx⟩:=ex w.heap.size;obtain⟨gy,hgy⟩:=ex k.heap.size;rw[hgx]at HX r s t u k4 x y;rw[hgy]at HY;have hne:gx≠gy:=by omega
 have j:w.heap.size≤gy:=by omega
 have M:gx<W2.heap.size:=HX.out.lt;have hgy2:gy<W2.heap.size:=HY.out.lt;clear f i hb2 hq2 b E q;go_enter Tryz.func87,Tryz.ntmps87
 go_wp2_with fail;refine HC.out.mono ?_;rintro e l ⟨v,rfl,o,g⟩;obtain⟨A5,c5,rfl⟩:=gK o;have HO:=Lq o;have HB3:=Lq (bT HB.out g);have hx3:=HX.out.keep g;have hy3:=HY.out.keep g;have hsz3:=g.size;clear g o n hW2 r s t u k4 x y;have k4:=hx3.c 4;have f4:=hx3.frozen 4;have l4:=hx3.lt;have l5:=hy3.lt;obtain⟨W4,hW4⟩:=ex (l.setCell ⟨gx,4,none⟩ (.slice A5 on.length c5));have hx4:aa W4 gx 50 #[.string name,iv kind,iv first,iv last,.slice A5 on.length c5,iv wlo,iv whi]:=by have h:=hx3.set_ 4 (.slice A5 on.length c5);simp only[List.setIfInBounds_toArray,List.set_cons_zero,List.set_cons_succ]at h;rw[←hW4];exact h
 have a:aa W4 gy 50 #[.string ⟨#[]⟩,iv 0,iv 0,iv 0,.slice none 0 0,iv 0,iv 0]:=by rw[←hW4];exact hy3.far (p:=⟨gx,4,none⟩) (by simp only;omega) _
 have z:ai l W4 gx:=by rw[←hW4];exact ai.of_set (bR l) gx 4 _
 obtain⟨r,s,t,u,N,x,y⟩:=hx4.c7;obtain⟨y0,y1,y2,y3,y4,y5,y6⟩:=a.c7;obtain⟨e0,e1,e2,e3,e4,e5,e6⟩:=(⟨a.frozen 0,a.frozen 1,a.frozen 2,a.frozen 3,a.frozen 4,a.frozen 5,a.frozen 6⟩:_∧_∧_∧_∧_∧_∧_);have m4:=hx4.lt;have m5:=a.lt;obtain⟨W5,hW5⟩:=ex (((((((W4.setCell ⟨gy,0,none⟩ (.string name)).setCell ⟨gy,1,none⟩ (iv kind)).setCell ⟨gy,2,none⟩ (iv first)).setCell ⟨gy,3,none⟩ (iv last)).setCell ⟨gy,4,none⟩ (.slice A5 on.length c5)).setCell ⟨gy,5,none⟩ (iv wlo)).setCell ⟨gy,6,none⟩ (iv whi));have hy5:aa W5 gy 50 #[.string name,iv kind,iv first,iv last,.slice A5 on.length c5,iv wlo,iv whi]:=by rw[←hW5];exact nW _ _ _ _ _ _ _ a
 have C:ai W4 W5 gy:=by rw[←hW5];exact((((((((ai.of_below (bR W4) gy).set 0 _).set 1 _).set 2 _).set 3 _).set 4 _).set 5 _).set 6 _)
 obtain⟨F,G,H,I,J,K,L⟩:=hy5.c7;have hge:W2.heap.size≤l.heap.size:=hsz3;have hrow:W5.ownsRow W2.heap.size 9 1 (.slice A5 on.length c5) on.length (on.map .string):=jq (jq HO.out z (by omega)) C (by omega)
 have d:=Lq hrow;have hbel:BW w W5:=C.below (z.below HB3.out (Nat.le_of_eq hgx)) j;have HBEL:=Lq hbel;have hwz:w.heap.size≤W2.heap.size:=HB.out.size;clear hx3 hy3 hx4 a hy5 z C hrow hbel;go_wp2_with fail;exact bodyPost_ret (v:=.agg #[.string name,iv kind,iv first,iv last,.slice A5 on.length c5,iv wlo,iv whi]) (by simp[results,Tryz.results87,go_sem,F,G,H,I,J,K,L]) rfl ⟨A5,c5,rfl,⟨nT d.out,HNM.out,HON.out,HSZ.out⟩,dv d.out hwz,HBEL.out⟩
theorem CU:∀(L:List aj) (d:Nat) (m:aj),d<L.length→(((((((L.flatMap aJ).set (d*7) (.string m.p.name)).set (d*7+1) (iv m.p.kind)).set (d*7+2) (iv m.p.first)).set (d*7+3) (iv m.p.last)).set (d*7+4) (.slice m.A m.p.on.length m.cap)).set (d*7+5) (iv m.p.wlo)).set (d*7+6) (iv m.p.whi)=(L.set d m).flatMap aJ:=by
 intro L;induction L with
 | nil=>intro d m h;simp at h
 | cons a L ih =>
  intro d m h;cases d with
  | zero=>simp[aJ]
  | succ d =>
   have:=ih d m (by simpa using h)
   simp only[List.flatMap_cons,List.set_cons_succ,←this];simp only[show(d+1)*7=(aJ a).length+d*7 by rw[cH];omega,Nat.add_assoc]
   simp only[List.set_append_right _ _ (Nat.le_add_right _ _),Nat.add_sub_cancel_left]
theorem CV:∀(L:List aj) (d:Nat) (q:aj) (on:List ByteArray) (A:Option Addr) (c:Nat),L[d]?=some q→on.length=q.p.on.length→(L.flatMap aJ).set (d*7+4) (.slice A q.p.on.length c)=(L.set d ⟨{ q.p with on:=on },A,c⟩).flatMap aJ:=by
 intro L;induction L with
 | nil=>intro d q on A c h;simp at h
 | cons a L ih =>
  intro d q on A c h b;cases d with
  | zero =>
   simp at h;subst h;simp[aJ,b]
  | succ d =>
   have:=ih d q on A c (by simpa using h) b
   simp only[List.flatMap_cons,List.set_cons_succ,←this];rw[show(d+1)*7+4=(aJ a).length+(d*7+4)by rw[cH];omega,List.set_append_right _ _ (Nat.le_add_right _ _),Nat.add_sub_cancel_left]
section
variable{L:List aj}{a b base cap g gs:Nat}{V W w:World}
structure dP(V w:World)(a b:Nat):Prop where
 os:w.os=V.os
 tape:w.tape=V.tape
 output:w.output=V.output
 size:V.heap.size≤w.heap.size
 block:∀k,k<V.heap.size→k≠a→k≠b→w.heap[k]?=V.heap[k]?
theorem dP.of_below(h:BW V w):dP V w a b:=⟨h.os,h.tape,h.output,h.size,fun k c _ _=>h.block k c⟩
theorem dP.of_only(h:ai V w a):dP V w a b:=⟨h.os,h.tape,h.output,h.size,fun k d c _=>h.block k d c⟩
theorem dP.of_only2(h:ai V w b):dP V w a b:=⟨h.os,h.tape,h.output,h.size,fun k d _ c=>h.block k d c⟩
theorem dP.trans{x:World}(h:dP V w a b)(c:dP w x a b):dP V x a b :=
 ⟨c.os.trans h.os,c.tape.trans h.tape,c.output.trans h.output,lT h.size c.size,fun k i d f=>(c.block k (lz i h.size) d f).trans (h.block k i d f)⟩
def fM(w:World)(a b:Nat)(m:aj):Prop:=∀W,dP w W a b→aR W W.heap.size m
theorem fM.kept{m:aj}(h:fM w a b m)(c:dP w W a b):fM W a b m:=fun X hx=>h X (c.trans hx)
theorem fM.of_keeps{A:Option Addr}{ms:List aj}{m:aj}(h:dT w gs A cap ms)(c:BW w W)(i:w.heap.size≤g)(d:m∈ms):fM W g gs m:=fun X hx=>by
 have f:ai w X gs:=⟨hx.os.trans c.os,hx.tape.trans c.tape,hx.output.trans c.output,lT c.size hx.size,fun k hk hne=>(hx.block k (lz hk c.size) (by omega) hne).trans (c.block k hk)⟩
 exact(h X f).rd.ok m d
theorem fM.of_ok{B:Nat}{m:aj}(h:aR w B m)(f:B≤gs)(i:B≤g)(d:B≤w.heap.size):fM w g gs m:=fun X hx=>by
 have c:Below B w X:=⟨hx.os,hx.tape,hx.output,hx.size,fun k hk=>hx.block k (by omega) (by omega) (by omega)⟩
 exact(h.below c (lr _)).more (lT d hx.size)
theorem fM.of_own{m:aj}(h:fd w m)(c:∀k,(Value.slice m.A m.p.on.length m.cap).ownBlock=some k→k≠g∧k≠gs):fM w g gs m:=fun X hx=>by
 have d:X.ownsRow 0 9 1 (.slice m.A m.p.on.length m.cap) m.p.on.length (m.p.on.map .string):=kz h.ow fun k hk=>hx.block k (h.ow.lt k hk).2 (c k hk).1 (c k hk).2
 exact fd.ok ⟨d,h.nm,h.ons,h.sz⟩
theorem uu(h:w.ownsRow base 50 7 (.slice (some ⟨g,0,none⟩) L.length cap) L.length (L.flatMap aJ))(d:Nat)(m:aj)(c:d<L.length) :
  (((((((w.setCell ⟨g,d*7,none⟩ (.string m.p.name)).setCell ⟨g,d*7+1,none⟩ (iv m.p.kind)).setCell ⟨g,d*7+2,none⟩ (iv m.p.first)).setCell ⟨g,d*7+3,none⟩ (iv m.p.last)).setCell ⟨g,d*7+4,none⟩ (.slice m.A m.p.on.length m.cap)).setCell ⟨g,d*7+5,none⟩ (iv m.p.wlo)).setCell ⟨g,d*7+6,none⟩ (iv m.p.whi)).ownsRow base 50 7 (.slice (some ⟨g,0,none⟩) L.length cap) L.length ((L.set d m).flatMap aJ):=by
 rw[←CU L d m c];exact((((((((h.stored (d*7) _).1.stored (d*7+1) _).1.stored (d*7+2) _).1.stored (d*7+3) _).1.stored (d*7+4) _).1.stored (d*7+5) _).1.stored (d*7+6) _).1)
theorem CW(h:w.ownsRow base 50 7 (.slice (some ⟨g,0,none⟩) L.length cap) L.length (L.flatMap aJ)){d:Nat}{q:aj}(i:L[d]?=some q)(on:List ByteArray)(A:Option Addr)(c:Nat)(f:on.length=q.p.on.length) :
  (w.setCell ⟨g,d*7+4,none⟩ (.slice A q.p.on.length c)).ownsRow base 50 7 (.slice (some ⟨g,0,none⟩) L.length cap) L.length ((L.set d ⟨{ q.p with on:=on },A,c⟩).flatMap aJ):=by
 rw[←CV L d q on A c i f];exact(h.stored (d*7+4) _).1
end
end Go.Proofs.YtbillnhcmkpohaaGreatDoor
