/- The reference of layer 1: the error of a part. Rows of a call's own, several at once, no .. -/
import Derived.Deep.RegionHeld3
import Derived.Deep.DeepCutAuto
import Derived.OrdersHeld
import Derived.Deep.RegionHeld
import Derived.Test.YtbillnhcmkpohaaGreatDoorM0
set_option maxRecDepth 1000000
set_option maxHeartbeats 0
namespace Go.Proofs.YtbillnhcmkpohaaGreatDoor
open Go.RowKit
section
variable{w w':World}
def iP(P:Prop)(w:World)(e:Ending)(w':World):Prop:=∃r:Int,e=.returned (iv r)∧(r=0↔P)∧BW w w'
theorem cL{P:Prop}{r:Int}(a:r≠0)(b:¬P)(c:BW w w'):iP P w (.returned (iv r)) w':=⟨r,rfl,⟨fun h=>absurd h a,fun h=>absurd h b⟩,c⟩
theorem qO{P:Prop}(a:P)(b:BW w w'):iP P w (.returned (iv 0)) w':=⟨0,rfl,⟨fun _=>a,fun _=>rfl⟩,b⟩
theorem lY(w:World)(m:aj):∃W1,w.alloc (.cells #[.string m.p.name,iv m.p.kind,iv m.p.first,iv m.p.last,.slice m.A m.p.on.length m.cap,iv m.p.wlo,iv m.p.whi] 50)=W1∧BW w W1∧W1.heap.size=w.heap.size+1∧aa W1 w.heap.size 50 #[.string m.p.name,iv m.p.kind,iv m.p.first,iv m.p.last,.slice m.A m.p.on.length m.cap,iv m.p.wlo,iv m.p.whi] :=
 ⟨_,rfl,bA (bR _) _,by simp,aa.new w 50 _⟩
theorem aa.keep{W a:World}{g:Nat}{t:TypeId}{cs:Array Value}(h:aa W g t cs)(b:BW W a):aa a g t cs:=h.same (b.block _ h.lt)
theorem u0(h:BW w.drew w'):BW w w':=⟨h.os,h.tape,h.output,h.size,h.block⟩
theorem aZ{B:Nat}{a:World}(h:Below B a w):Below B a w.drew:=⟨h.os,h.tape,h.output,h.size,h.block⟩
theorem BP{a:ByteArray}{b first last d c m:Int}{on:List ByteArray}{bs os:List ah}(B:du a=true)(F:ct os a=m)(v:¬0≤m)(C:inB 1 5 b=true)(D:inB 0 40 first=true)(E:inB 0 40 last=true)(g:jk 1 1000000 d c=0)(r:first≤last) :
  cQ ⟨a,b,first,last,on,d,c⟩ bs os↔(∀o∈on,hasP bs o=true)∧(∀k x,on[k]?=some x→cK (on.take k) x=false)∧(∀o∈on,∀y,bs[aL bs o]?=some y→dN ⟨a,b,first,last,on,d,c⟩ y=true):=by
 have u:1≤d∧d≤c∧c≤1000000:=by
  unfold jk at g;split at g
  ·rename_i i;rw[Bool.and_eq_true]at i;have:=iM i.1;have:=iM i.2;split at g
   ·cases g
   ·omega
  ·cases g
 have t:hasP os a=false:=iO.1 (by omega)
 constructor
 ·intro h;refine⟨fun o ho=>?_,(qK on).1 h.dup,fun o ho y f=>?_⟩
  ·obtain⟨y,f,_⟩:=h.on o ho;exact im.2 ⟨y,List.mem_of_find?_eq_some f,dM.1 (List.find?_some f)⟩
  ·obtain⟨z,A,s⟩:=h.on o ho;obtain⟨j,rfl,hj,_⟩:=nO A;rw[hj]at f;injection f with f
   exact f▸s
 ·rintro⟨n,p,q⟩;refine⟨B,kS.1 t,iM C,⟨(iM D).1,r,(iM E).2⟩,u,fun o ho=>?_,(qK on).2 p⟩
  obtain⟨y,f,l⟩:=o6 (n o ho);exact⟨y,f,q o ho y l⟩
theorem qP(m:aj)(bs os:List aj)(A A':Option Addr)(B K co:Nat)(w:World)(hB:B≤w.heap.size)(hM:aR w B m)(H:cF w B A bs)(H':cF w B A' os)(N:bs.length≤K)(O:K≤maxLen)(ah:os.length≤maxLen)(hv:∀b∈bs,b.p.first≤b.p.last) :
  Cs 14 #[mV m,.slice A bs.length K,.slice A' os.length co] w (iP (cQ m.p (ab bs) (ab os)) w):=by
 obtain⟨M,ag,C,am,hq⟩:=lY w m;have HM1:=Lq (hM.below C hB);have HH1:=Lq (H.below C hB);have HO1:=Lq (H'.below C hB);have HV:=Lq hv;clear hM H H' hv;obtain⟨⟨name,kind,first,last,on,wlo,whi⟩,Ao,ca⟩:=m;have HB1:=Lq C;have HC:Hid (∀W,BW M W→cA W (w.heap.size) 0 (.string name)∧cA W (w.heap.size) 1 (iv kind)∧cA W (w.heap.size) 2 (iv first)∧cA W (w.heap.size) 3 (iv last)∧cA W (w.heap.size) 4 (.slice Ao on.length ca)∧cA W (w.heap.size) 5 (iv wlo)∧cA W (w.heap.size) 6 (iv whi)∧w.heap.size<W.heap.size):=Lq fun W f=>have k:=hq.keep f;⟨k.cell 0,k.cell 1,k.cell 2,k.cell 3,k.cell 4,k.cell 5,k.cell 6,k.lt⟩
 obtain⟨b1,h1⟩:=ex (du name);have HN:Hid (∀W,Cs 32 #[.string name] W (Rt W (.bool b1))):=Lq fun W=>h1▸BG name W HM1.out.nm
 obtain⟨r2,h2⟩:=ex (ct (ab os) name);have HF:Hid (∀W,BW M W→Cs 33 #[.slice A' os.length co,.string name] W fun e w'=>e=.returned (iv r2)∧W=w'):=Lq fun W f=>h2▸nQ A' os B co name W ah (HO1.out.below f (by omega))
 obtain⟨re,v⟩:=ex (jk 1 1000000 wlo whi);have HR:Hid (∀W,Cs 34 #[.agg #[iv wlo,iv whi],iv 1,iv 1000000] W (Rt W (iv re))):=Lq fun W=>v▸Br 1 1000000 wlo whi W
 obtain⟨b4,h4⟩:=ex (inB 1 5 kind);obtain⟨b5,h5⟩:=ex (inB 0 40 first);obtain⟨b6,h6⟩:=ex (inB 0 40 last);have HI4:Hid (∀W,Cs 15 #[iv kind,iv 1,iv 5] W fun e w'=>e=.returned (.bool b4)∧W=w'):=Lq fun W=>h4▸iN kind 1 5 W
 have q:Hid (∀W,Cs 15 #[iv first,iv 0,iv 40] W fun e w'=>e=.returned (.bool b5)∧W=w'):=Lq fun W=>h5▸iN first 0 40 W
 have r:Hid (∀W,Cs 15 #[iv last,iv 0,iv 40] W fun e w'=>e=.returned (.bool b6)∧W=w'):=Lq fun W=>h6▸iN last 0 40 W
 have K1:=Lq h1;have K2:=Lq h2;have K3:=Lq v;have K4:=Lq h4;have K5:=Lq h5;have K6:=Lq h6;clear h1 h2 v h4 h5 h6 hq C;have hon:on.length≤9223372036854775807:=by have:=HM1.out.le;have:=HM1.out.cm;simp only[maxLen]at *;omega
 obtain⟨D,p1,p2,p3,E,F,G,n⟩:=HC.out _ (bR M);go_enter Tryz.func14,Tryz.ntmps14
 go_wp2_with fail;refine(HN.out _).mono ?_;rintro e w1 ⟨rfl,(u:Hid _)⟩;clear ag D p1 p2 p3 E F G n HN;obtain⟨D,p1,p2,p3,E,F,G,n⟩:=HC.out _ u.out;cases b1 with
 | false =>
  go_wp2_with fail;go_ret
  exact cL (by decide) (fun h=>by have:=h.nm;rw[K1.out]at this;cases this) (bT HB1.out u.out)
 | true =>
  go_wp2_with fail;refine(HF.out _ u.out).mono ?_;rintro e w' ⟨rfl,rfl⟩;by_cases hr2:0≤r2
  ·go_wp2_with fail;go_ret
   refine cL (by decide) (fun h=>?_) (bT HB1.out u.out)
   have:=(iO (l:=ab os) (s:=name)).2 (kS.2 h.new);rw[K2.out]at this;omega
  ·go_wp2_with fail;refine(HR.out _).mono ?_;rintro e w2 ⟨rfl,f⟩;have HB3:=Lq (bT u.out f);clear f D p1 p2 p3 E F G n HR HF;obtain⟨D,p1,p2,p3,E,F,G,n⟩:=HC.out _ HB3.out;have HBX:=Lq (bT HB1.out HB3.out);cases b4 with
   | false =>
    go_wp2_with (go_at_call 15;refine(HI4.out _).mono ?_;rintro e w' ⟨rfl,rfl⟩)
    go_ret
    exact cL (by decide) (fun h=>by have:=K4.out;have h9:=cX h.kind.1 h.kind.2;simp only at h9;rw[this]at h9;cases h9) HBX.out
   | true =>
    cases b5 with
    | false =>
     go_wp2_with (first | (go_at_call 15;((with_reducible refine(HI4.out _).mono ?_);rintro e w' ⟨rfl,rfl⟩)) | (go_at_call 15;((with_reducible refine(q.out _).mono ?_);rintro e w' ⟨rfl,rfl⟩)))
     go_ret
     exact cL (by decide) (fun h=>by have:=K5.out;have h9:=cX h.fr.1 (Int.le_trans h.fr.2.1 h.fr.2.2);simp only at h9;rw[this]at h9;cases h9) HBX.out
    | true =>
     cases b6 with
     | false =>
      go_wp2_with (first | (go_at_call 15;((with_reducible refine(HI4.out _).mono ?_);rintro e w' ⟨rfl,rfl⟩)) | (go_at_call 15;((with_reducible refine(q.out _).mono ?_);rintro e w' ⟨rfl,rfl⟩)) | (go_at_call 15;((with_reducible refine(r.out _).mono ?_);rintro e w' ⟨rfl,rfl⟩)))
      go_ret
      exact cL (by decide) (fun h=>by have:=K6.out;have h9:=cX (Int.le_trans h.fr.1 h.fr.2.1) h.fr.2.2;simp only at h9;rw[this]at h9;cases h9) HBX.out
     | true =>
      by_cases h7:re=7
      ·subst h7;go_wp2_with (first | (go_at_call 15;((with_reducible refine(HI4.out _).mono ?_);rintro e w' ⟨rfl,rfl⟩)) | (go_at_call 15;((with_reducible refine(q.out _).mono ?_);rintro e w' ⟨rfl,rfl⟩)) | (go_at_call 15;((with_reducible refine(r.out _).mono ?_);rintro e w' ⟨rfl,rfl⟩)))
       go_ret
       exact cL (by decide) (fun h=>by have:=K3.out;rw[qE (by rw[cX h.wt.1 (Int.le_trans h.wt.2.1 h.wt.2.2),cX (Int.le_trans h.wt.1 h.wt.2.1) h.wt.2.2];rfl) h.wt.2.1]at this;cases this) HBX.out
      ·have ae:(re==7)=false:=by simpa using h7
       by_cases h8:last<first
       ·go_wp2_with (first | (go_at_call 15;((with_reducible refine(HI4.out _).mono ?_);rintro e w' ⟨rfl,rfl⟩)) | (go_at_call 15;((with_reducible refine(q.out _).mono ?_);rintro e w' ⟨rfl,rfl⟩)) | (go_at_call 15;((with_reducible refine(r.out _).mono ?_);rintro e w' ⟨rfl,rfl⟩)))
        go_ret
        exact cL (by decide) (fun h=>by have:=h.fr.2.1;simp only at this;omega) HBX.out
       ·have af:¬first>last:=by omega
        by_cases h9:re=0
        ·subst h9;go_wp2_with (first | (go_at_call 15;((with_reducible refine(HI4.out _).mono ?_);rintro e w' ⟨rfl,rfl⟩)) | (go_at_call 15;((with_reducible refine(q.out _).mono ?_);rintro e w' ⟨rfl,rfl⟩)) | (go_at_call 15;((with_reducible refine(r.out _).mono ?_);rintro e w' ⟨rfl,rfl⟩)))
         have HP:Hid (cQ ⟨name,kind,first,last,on,wlo,whi⟩ (ab bs) (ab os)↔(∀o∈on,hasP (ab bs) o=true)∧(∀k x,on[k]?=some x→cK (on.take k) x=false)∧(∀o∈on,∀y,(ab bs)[aL (ab bs) o]?=some y→dN ⟨name,kind,first,last,on,wlo,whi⟩ y=true)):=Lq (BP K1.out K2.out (by omega) K4.out K5.out K6.out K3.out (by omega))
         clear K1 K2 K3 K4 K5 K6 HI4 q r h7;go_loop [8] (fun i=>∃k:Nat,k≤on.length∧i=iv k∧∀o∈on.take k,hasP (ab bs) o=true) (fun i=>on.length-(intOf i).toNat)
         case atStart=>exact⟨0,Nat.zero_le _,rfl,by simp⟩
         case round =>
          obtain⟨k,hk,rfl,hn⟩:=hrel;have HN1:=Lq hn;clear hn;by_cases hlt:k<on.length
          ·obtain⟨o,hx⟩:=gX (l:=on) (i:=k) hlt;obtain⟨ob,oo,rfl,_,hck⟩:=(HM1.out.on.below HB3.out (by omega)) k o hx
           have J:=Lq hx;obtain⟨bo,hbo⟩:=ex (hasP (ab bs) o);have HBO:=Lq hbo;obtain⟨r3,v⟩:=ex (ct (ab bs) o);have g:Hid (Cs 33 #[.slice A bs.length K,.string o] w2 fun e w'=>e=.returned (iv r3)∧w2=w'):=Lq (v▸nQ A bs B K o w2 (lT N O) (HH1.out.below HB3.out (by omega)))
           have d:r3<0↔bo=false:=by rw[←v,←hbo];exact iO
           clear hx v hbo;cases bo
           ·have S:r3<0:=d.2 rfl;clear d;go_wp2_with (go_at_call 33;refine g.out.mono ?_;rintro e w' ⟨rfl,rfl⟩)
            go_ret
            refine cL (by decide) (fun h=>?_) HBX.out
            have:=(HP.out.1 h).1 o (mG ⟨k,J.out⟩);rw[HBO.out]at this;cases this
           ·have S:¬r3<0:=fun h=>by have:=d.1 h;cases this
            clear d;go_wp2_with (go_at_call 33;refine g.out.mono ?_;rintro e w' ⟨rfl,rfl⟩)
            go_round
            case rel =>
             refine⟨k+1,by omega,by go_num,fun o2 t=>?_⟩
             rw[List.take_add_one,J.out]at t;simp only[List.mem_append,Option.toList_some,List.mem_singleton]at t;rcases t with t | rfl
             ·exact HN1.out o2 t
             ·exact HBO.out
            case measure=>simp[intOf];omega
          ·have U:Hid (∀o∈on,hasP (ab bs) o=true):=Lq (by have:=HN1.out;rw[List.take_of_length_le (by omega)]at this;exact this)
           clear HN1;go_wp2_with fail;go_loopw [9] (fun i wr=>∃k:Nat,k≤on.length∧i=iv k∧Hid (∀j x,j<k→on[j]?=some x→cK (on.take j) x=false)∧Hid (BW M wr)) (fun i _=>on.length-(intOf i).toNat)
           case atStart=>exact⟨0,Nat.zero_le _,rfl,Lq (fun j x h=>by omega),HB3⟩
           case round =>
            clear D p1 p2 p3 E F G n;obtain⟨k,hk,rfl,L,c⟩:=hrel;obtain⟨D,p1,p2,p3,E,F,G,n⟩:=HC.out _ c.out;by_cases hlt:k<on.length
            ·obtain⟨o,hx⟩:=gX (l:=on) (i:=k) hlt;obtain⟨ob,oo,rfl,_,hck⟩:=(HM1.out.on.below c.out (by omega)) k o hx
             have J:=Lq hx;obtain⟨bo,hbo⟩:=ex (cK (on.take k) o);have HBO:=Lq hbo;obtain⟨r3,v⟩:=ex (kZ (on.take k) o);have hle:(on.take k).length=k:=by rw[List.length_take];omega
             have g:Hid (∀W,BW M W→Cs 35 #[.slice (some ⟨ob,oo,none⟩) k ca,.string o] W fun e w'=>e=.returned (iv r3)∧w'=W):=Lq fun W f=>by
              have:=tC (some ⟨ob,oo,none⟩) (on.take k) B ca o W (by rw[hle];simp only[maxLen];omega) ((HM1.out.on.below f (by omega)).take k)
              rw[hle,v]at this;exact this
             have d:r3<0↔bo=false:=by rw[←v,←hbo];exact tB
             have al:k≤ca:=lT hk HM1.out.le;have hca:ca≤9223372036854775807:=by have:=HM1.out.cm;simp only[maxLen]at this;omega
             clear hx v hbo hle;cases bo
             ·have S:r3<0:=d.2 rfl;clear d;go_wp2_with fail;go_quiet ((go_at_call 35;exact Calls.quiet_of_same (g.out _ (cY c.out _))))
              go_wp2_with fail;go_roundw
              case rel =>
               refine⟨k+1,by omega,by go_num,Lq (fun j x hj hx=>?_),Lq (cY c.out _)⟩
               rcases Nat.lt_or_ge j k with hjk | hjk
               ·exact L.out j x hjk hx
               ·obtain rfl:j=k:=by omega
                rw[J.out]at hx;injection hx with hx
                exact hx▸HBO.out
              case measure=>simp[intOf];omega
             ·have S:¬r3<0:=fun h=>by have:=d.1 h;cases this
              clear d;go_wp2_with fail;go_quiet ((go_at_call 35;exact Calls.quiet_of_same (g.out _ (cY c.out _))))
              go_wp2_with fail;go_ret
              refine cL (by decide) (fun h=>?_) (bT HB1.out (cY c.out _))
              have:=(HP.out.1 h).2.1 k o J.out;rw[HBO.out]at this;cases this
            ·have ac:Hid (∀k x,on[k]?=some x→cK (on.take k) x=false):=Lq (fun j x hx=>L.out j x (by have:=(lG hx);omega) hx)
             clear L;go_wp2_with fail;have ad:first≤last:=by omega
             clear hr2 ae h8 af;go_loopw [10] (fun i wr=>∃k:Nat,k≤on.length∧i=iv k∧Hid (∀o∈on.take k,∀y,(ab bs)[aL (ab bs) o]?=some y→dN ⟨name,kind,first,last,on,wlo,whi⟩ y=true)∧Hid (BW M wr)) (fun i _=>on.length-(intOf i).toNat)
             case atStart=>exact⟨0,Nat.zero_le _,rfl,Lq (by simp),c⟩
             case round =>
              clear D p1 p2 p3 E F G n c;obtain⟨k,hk,rfl,Y,c⟩:=hrel;obtain⟨D,p1,p2,p3,E,F,G,n⟩:=HC.out _ c.out;by_cases hlt:k<on.length
              ·obtain⟨o,hx⟩:=gX (l:=on) (i:=k) hlt;obtain⟨ob,oo,rfl,_,hck⟩:=(HM1.out.on.below c.out (by omega)) k o hx
               have Z:=U.out o (mG ⟨k,hx⟩);obtain⟨hp1,hjl,yp,hy,_⟩:=fU Z;obtain⟨j,hj⟩:=ex (aL (ab bs) o);rw[hj]at hp1 hjl hy;have hjl2:j<bs.length:=by simpa using hjl
               obtain⟨y,I⟩:=gX (l:=bs) (i:=j) hjl2;have hyp:yp=y.p:=by rw[bN I]at hy;injection hy with hy;exact hy.symm
               have aa:=HV.out y (mG ⟨j,I⟩);obtain⟨yb,yo,rfl,hyb,_,c0,c1,c2,c3,c4,c5,c6⟩:=(HH1.out.below c.out (by omega)).at I
               have J:=Lq hx;have HY:Hid ((ab bs)[aL (ab bs) o]?=some y.p):=Lq (by rw[hj];exact bN I)
               have g:Hid (∀W,BW M W→Cs 33 #[.slice (some ⟨yb,yo,none⟩) bs.length K,.string o] W fun e w'=>e=.returned (iv j)∧W=w'):=Lq fun W f=>hp1▸nQ _ bs B K o W (lT N O) (HH1.out.below f (by omega))
               have R:=tz (a:=⟨name,kind,first,last,on,wlo,whi⟩) (b:=y.p) ad aa;have hmc:=fun W=>tA ⟨⟨name,kind,first,last,on,wlo,whi⟩,some ⟨ob,oo,none⟩,ca⟩ y W
               clear Z hp1 hy hyp hx hj aa;obtain⟨⟨yn,yk,yf,yl,T,yw,yz⟩,yA,yc⟩:=y;obtain⟨bm,hbm⟩:=ex (mJ ⟨name,kind,first,last,on,wlo,whi⟩ ⟨yn,yk,yf,yl,T,yw,yz⟩);rw[hbm]at R hmc;have HME:=Lq R;have HMC:=Lq hmc;have HS:Hid (∀W,BW wr W→cA W (w.heap.size) 0 (.string name)∧cA W (w.heap.size) 1 (iv kind)∧cA W (w.heap.size) 2 (iv first)∧cA W (w.heap.size) 3 (iv last)∧cA W (w.heap.size) 4 (.slice (some ⟨ob,oo,none⟩) on.length ca)∧cA W (w.heap.size) 5 (iv wlo)∧cA W (w.heap.size) 6 (iv whi)∧cA W ob (oo+k) (.string o)∧cA W yb (yo+j*7) (.string yn)∧cA W yb (yo+j*7+1) (iv yk)∧cA W yb (yo+j*7+2) (iv yf)∧cA W yb (yo+j*7+3) (iv yl)∧cA W yb (yo+j*7+4) (.slice yA T.length yc)∧cA W yb (yo+j*7+5) (iv yw)∧cA W yb (yo+j*7+6) (iv yz)):=Lq fun W f=>⟨kC f D,kC f p1,kC f p2,kC f p3,kC f E,kC f F,kC f G,kC f hck,kC f c0,kC f c1,kC f c2,kC f c3,kC f c4,kC f c5,kC f c6⟩
               have X:Hid (Cs 33 #[.slice (some ⟨yb,yo,none⟩) bs.length K,.string o] wr.drew fun e w'=>e=.returned (iv j)∧wr.drew=w'):=Lq (g.out _ (aZ c.out))
               have ak:=nn k;have hj0:=nn j;have hbl9:bs.length≤9223372036854775807:=by have:=lT N O;simp only[maxLen]at this;omega
               clear hmc R hbm g;go_wp2_with fail;go_region_held3 (fun W=>cA W (w.heap.size) 0 (.string name)∧cA W (w.heap.size) 1 (iv kind)∧cA W (w.heap.size) 2 (iv first)∧cA W (w.heap.size) 3 (iv last)∧cA W (w.heap.size) 4 (.slice (some ⟨ob,oo,none⟩) on.length ca)∧cA W (w.heap.size) 5 (iv wlo)∧cA W (w.heap.size) 6 (iv whi)∧cA W ob (oo+k) (.string o)∧cA W yb (yo+j*7) (.string yn)∧cA W yb (yo+j*7+1) (iv yk)∧cA W yb (yo+j*7+2) (iv yf)∧cA W yb (yo+j*7+3) (iv yl)∧cA W yb (yo+j*7+4) (.slice yA T.length yc)∧cA W yb (yo+j*7+5) (iv yw)∧cA W yb (yo+j*7+6) (iv yz)) (first | exact HS.out _ (u0 hb7) | exact HS.out _ (aZ (bR _))) (first | (go_at_call 33;((with_reducible refine X.out.mono ?_);rintro e w' ⟨rfl,rfl⟩)) | (go_at_call 36;((with_reducible refine(HMC.out _).mono ?_);rintro e w7 ⟨rfl,hb7⟩)))
               have V:=Lq (bT c.out (u0 hb7));clear hb7 D p1 p2 p3 E F G c0 c1 c2 c3 c4 c5 c6 hck HS X HMC;cases bm
               ·go_wp2_with fail;go_ret
                refine cL (by decide) (fun h=>?_) (bT HB1.out V.out)
                have:=(HP.out.1 h).2.2 o (mG ⟨k,J.out⟩) _ HY.out;rw[←HME.out]at this;cases this
               ·go_wp2_with fail;go_roundw
                case rel =>
                 refine⟨k+1,by omega,by go_num,Lq (fun o2 t=>?_),V⟩
                 rw[List.take_add_one,J.out]at t;simp only[List.mem_append,Option.toList_some,List.mem_singleton]at t;rcases t with t | rfl
                 ·exact Y.out o2 t
                 ·intro z hz;rw[HY.out]at hz;injection hz with hz
                  rw[←hz];exact HME.out.symm
                case measure=>simp[intOf];omega
              ·go_wp2_with fail;go_ret
               refine qO (HP.out.2 ⟨U.out,ac.out,fun o t=>Y.out o (by rw[List.take_of_length_le (by omega)];exact t)⟩) (bT HB1.out c.out)
        ·have ai:(re != 0)=true:=by simpa using h9
         go_wp2_with (first | (go_at_call 15;((with_reducible refine(HI4.out _).mono ?_);rintro e w' ⟨rfl,rfl⟩)) | (go_at_call 15;((with_reducible refine(q.out _).mono ?_);rintro e w' ⟨rfl,rfl⟩)) | (go_at_call 15;((with_reducible refine(r.out _).mono ?_);rintro e w' ⟨rfl,rfl⟩)))
         go_ret
         exact cL (by decide) (fun h=>by have:=K3.out;rw[qE (by rw[cX h.wt.1 (Int.le_trans h.wt.2.1 h.wt.2.2),cX (Int.le_trans h.wt.1 h.wt.2.1) h.wt.2.2];rfl) h.wt.2.1]at this;exact h9 this.symm) HBX.out
end
section
variable{k n':Nat}{v':Value}
theorem tD{W b:World}(c:BW W b){a:Addr}{v:Value}(h:W.cell? a=some v):b.cell? a=some v :=
 (World.cell?_of_block (w:=W) (a:=a) (c.block a.block (World.block_lt_of_cell? W a h))).trans h
structure fY where
 v:Value
 e:TypeId
 size:Nat
 n:Nat
 xs:List Value
def ip(w:World)(base:Nat)(L:List (Option fY)):Prop :=
 base≤w.heap.size∧∀(i:Nat) (o:fY),L[i]?=some (some o)→w.ownsRow base o.e o.size o.v o.n o.xs∧∃g,o.v.ownBlock=some g∧∀(j:Nat) (o':fY),i≠j→L[j]?=some (some o')→o'.v.ownBlock≠some g
section
variable {w w':World} {base:Nat} {L:List (Option fY)}
theorem qQ(h:base≤w.heap.size):ip w base [none,none,none,none]:=⟨h,fun i o a=>by
 match i with
 | 0 | 1 | 2 | 3=>cases a
 | i+4=>simp at a⟩
theorem BQ(h:ip w base L):ip w.drew base L:=h
theorem BR(h:ip w base L)(k:Nat):ip w base (L.set k none):=⟨h.1,fun i o a=>by
 by_cases hk:k=i
 ·subst hk;rw[List.getElem?_set]at a;simp at a
 ·rw[List.getElem?_set_ne hk]at a;obtain⟨b,g,c,d⟩:=h.2 i o a;refine⟨b,g,c,fun j o' hij hj=>?_⟩
  by_cases hk':k=j
  ·subst hk';rw[List.getElem?_set]at hj;simp at hj
  ·rw[List.getElem?_set_ne hk']at hj;exact d j o' hij hj⟩
theorem pd(h:ip w base L){i:Nat}{o:fY}(a:L[i]?=some (some o)):w.ownsRow base o.e o.size o.v o.n o.xs:=(h.2 i o a).1
theorem tE(k:Nat)(o:fY)(t:base≤w'.heap.size)(u:w'.ownsRow base o.e o.size o.v o.n o.xs){g:Nat}(p:o.v.ownBlock=some g)(h:∀(i:Nat) (a:fY),i≠k→L[i]?=some (some a)→w'.ownsRow base a.e a.size a.v a.n a.xs∧a.v.ownBlock≠some g∧∃l,a.v.ownBlock=some l∧∀(j:Nat) (d:fY),j≠k→i≠j→L[j]?=some (some d)→d.v.ownBlock≠some l):ip w' base (L.set k (some o)):=⟨t,fun i a f=>by
 by_cases hk:k=i
 ·subst hk;rw[List.getElem?_set]at f;simp only[if_true]at f;split at f
  ·simp only[Option.some.injEq]at f;subst f;refine⟨u,g,p,fun j a c b=>?_⟩
   rw[List.getElem?_set_ne c]at b;exact(h j a (fun e=>c e.symm) b).2.1
  ·cases f
 ·rw[List.getElem?_set_ne hk]at f;obtain⟨q,r,l,m,s⟩:=h i a (fun e=>hk e.symm) f
  refine⟨q,l,m,fun j d c b=>?_⟩
  by_cases hk':k=j
  ·subst hk';rw[List.getElem?_set]at b;simp only[if_true]at b;split at b
   ·simp only[Option.some.injEq]at b;subst b;rw[p];intro e;exact r (m.trans e.symm)
   ·cases b
  ·rw[List.getElem?_set_ne hk']at b;exact s j d (fun e=>hk' e.symm) c b⟩
theorem BS(h:ip w base L)(k:Nat)(cs:Array Value)(e:TypeId)(size n:Nat)(f:n≤maxLen)(l:cs.size=n*size):ip (w.alloc (.cells cs e)) base (L.set k (some ⟨.slice (some ⟨w.heap.size,0,none⟩) n n,e,size,n,cs.toList⟩)):=by
 refine tE k _ (by simp;have:=h.1;omega) (World.ownsRow_lit w cs n h.1 f l) (g:=w.heap.size) rfl fun i o' _ hi=>?_
 obtain⟨a,b,c,d⟩:=h.2 i o' hi;refine⟨a.alloc _,fun e=>?_,b,c,fun j o'' _ hij hj=>d j o'' hij hj⟩
 have:=(a.lt _ e).2;omega
theorem BT(h:ip w base L){o:fY}(r:L[k]?=some (some o)){b:List Value}(l:w.grownBy w' o.v.ownBlock)(s:w'.ownsRow base o.e o.size v' n' b)(a:v'.ownBlock=o.v.ownBlock∨v'.ownBlock=some w.heap.size):ip w' base (L.set k (some ⟨v',o.e,o.size,n',b⟩)):=by
 obtain⟨x,g,f,q⟩:=h.2 k o r;obtain⟨g',hg'⟩:∃g',v'.ownBlock=some g':=by
  rcases a with a | a
  ·exact⟨g,a.trans f⟩
  ·exact⟨_,a⟩
 refine tE k _ (lT h.1 l.size) s hg' fun i d c m=>?_
 obtain⟨n,p,t,u⟩:=h.2 i d m;have hne:d.v.ownBlock≠o.v.ownBlock:=by rw[f];exact q i d (fun e=>c e.symm) m
 refine⟨n.kept l (.inr hne),fun e=>?_,p,t,fun j o'' _ hij hj=>u j o'' hij hj⟩
 rcases a with a | a
 ·rw[hg']at a;exact hne (e.trans a)
 ·rw[hg']at a;injection a with a
  subst a;have:=(n.lt _ e).2;omega
theorem BU(h:ip w base L){o:fY}(d:L[k]?=some (some o))(c:∀u∈o.xs,u.oneCell'=true):fX w o.size o.v o.n o.xs:=by
 obtain⟨b,g,a,_⟩:=h.2 k o d;have hc:=b.cells a;obtain⟨hl,hr⟩:=b;rcases hr with⟨hv,_⟩ | ⟨g',cap,cur,hv,_,_,_,_,_,_⟩
 ·rw[hv]at a;cases a
 ·refine .inr ⟨⟨g',0,none⟩,cap,hv,hl,fun j u f=>?_,c⟩
  rw[hv]at a;injection a with a
  subst a;exact hc j u f
end
def fq(V w:World)(L:List (Option fY)):Prop:=BW V w∧ip w V.heap.size L
section
variable {V w w':World} {L:List (Option fY)}
theorem BV:fq V V.drew [none,none,none,none]:=⟨fc (bR V),BQ (qQ (lr _))⟩
theorem mK(h:fq V w L)(k:Nat)(cs:Array Value)(e:TypeId)(size n:Nat)(a:n≤maxLen)(b:cs.size=n*size):fq V (w.alloc (.cells cs e)) (L.set k (some ⟨.slice (some ⟨w.heap.size,0,none⟩) n n,e,size,n,cs.toList⟩)):=⟨bA h.1 _,BS h.2 k cs e size n a b⟩
theorem BX(h:fq V w L)(k:Nat):fq V w (L.set k none):=⟨h.1,BR h.2 k⟩
theorem tF(h:fq V w L){o:fY}(c:L[k]?=some (some o)){a:List Value}(b:w.grownBy w' o.v.ownBlock)(d:w'.ownsRow V.heap.size o.e o.size v' n' a)(f:v'.ownBlock=o.v.ownBlock∨v'.ownBlock=some w.heap.size):fq V w' (L.set k (some ⟨v',o.e,o.size,n',a⟩)) :=
 ⟨cC (pd h.2 c) b (lr _) h.1,BT h.2 c b d f⟩
theorem nS(h:fq V w L){size:Nat}{b:Value}{m:Nat}{a:List Value}(d:fX V size b m a):fX w size b m a:=by
 rcases d with h' | ⟨ad,c,h1,h2,h3,h4⟩
 ·exact .inl h'
 ·exact .inr ⟨ad,c,h1,h2,fun j u f=>tD h.1 (h3 j u f),h4⟩
end
theorem mL{P:Program}{V w:World}{L:List (Option fY)}{ops:Array Oper}{o:Oper}{a:Act}{K:Act→World→Prop}{Q:Exit→Act→World→Prop}{E:Prop}(A:o.guard=none)(s x:Operand)(t:TypeId)(H:o.op=.call { callee:=.builtin .append,args:=#[s,x],argTypes:=#[t,t] })(q:fq V w L)(k:Nat)(r:fY)(B:L[k]?=some (some r))(i:TypeInfo)(z:Value)(b:Nat)(J:P.underlying t=some (.slice r.e))(G:P.info? r.e=some i)(S:i.zero=some z)(j:i.size=r.size)(y:i.bytes=b)(F:z.cells.size=r.size)(D:0<r.size)(I:a.eval s=r.v)(p:Value)(m:Nat)(f:List Value)(hx:a.eval x=p)(l:fX w r.size p m f)(u:r.n+m≤maxLen)(g:(r.n+m)*b≤140737488355328)(h:∀v' w',fq V w' (L.set k (some ⟨v',r.e,r.size,r.n+m,r.xs++f⟩))→K (a.put o.dst v') w') :
  if Region.wanted o (yielded ops a.tmps)=true then Oper.wp P o a w K Q else E:=by
 have R:Region.wanted o (yielded ops a.tmps)=true:=by simp[Region.wanted,A]
 rw[if_pos R];have d:=pd q.2 B;have hbase:=q.2.1;rcases l with⟨rfl,rfl,rfl⟩ | ⟨ad,c,rfl,hl,hnews,h1⟩
 ·have C:=run_append_owned_none (P:=P) w V.heap.size t o.type r.e i r.size J G r.v r.n r.xs d;unfold Oper.wp execOp;simp only[H,resolve,invoke,builtin,Sem.run_bind,Sem.run_pure,Result.andThen_ok,List.map_toArray,List.map_cons,List.map_nil,I,hx,C];refine h r.v w (tF q B (oY _ _) (by simpa using d) (.inl rfl))
 ·obtain⟨v',w',C,M,N,_,O⟩:=run_append_own_at (P:=P) w V.heap.size t o.type r.e i z r.size b J G S j y F D r.v r.n r.xs d ad m c f hl hnews h1 u g hbase;unfold Oper.wp execOp;simp only[H,resolve,invoke,builtin,Sem.run_bind,Sem.run_pure,Result.andThen_ok,List.map_toArray,List.map_cons,List.map_nil,I,hx,C];exact h v' w' (tF q B N M O)
end
section
variable{B b base base' g n n' off p size size':Nat}{v v':Value}{w w':World}
theorem kz{e:TypeId}{xs:List Value}(h:w.ownsRow base e size v n xs)(d:∀k,v.ownBlock=some k→w'.heap[k]?=w.heap[k]?):w'.ownsRow base e size v n xs:=by
 obtain⟨c,a⟩:=h;refine⟨c, ?_⟩;rcases a with a | ⟨g,cap,cur,hv,hg,hh,r⟩
 ·exact Or.inl a
 ·subst hv;exact Or.inr ⟨g,cap,cur,rfl,hg,by rw[d g rfl];exact hh,r⟩
theorem aN{e:TypeId}{xs:List Value}(h:w.ownsRow base e size v n xs)(a:BW w w'):w'.ownsRow base e size v n xs :=
 kz h fun k c=>a.block k (h.lt k c).2
theorem dv{e:TypeId}{xs:List Value}(h:w.ownsRow base e size v n xs)(d:base'≤base):w.ownsRow base' e size v n xs:=by
 obtain⟨c,a⟩:=h;refine⟨c, ?_⟩;rcases a with a | ⟨g,cap,cur,hv,hg,r⟩
 ·exact Or.inl a
 ·exact Or.inr ⟨g,cap,cur,hv,lT d hg,r⟩
theorem jq{c:Nat}{e:TypeId}{xs:List Value}(h:w.ownsRow base e size v n xs)(d:ai w w' c)(f:c<base):w'.ownsRow base e size v n xs :=
 kz h fun k a=>d.block k (h.lt k a).2 (by have:=(h.lt k a).1;omega)
theorem tG{α:Type}{k:Nat}(m:0<k){encs:α→List Value}(d:∀x,(encs x).length=k){xs:List α}(i:aG k encs w B (some ⟨b,off,none⟩) xs):∀j u,(xs.flatMap encs)[j]?=some u→cA w b (off+j) u:=by
 intro j u f;have hj:j<xs.length*k:=by rw[←fV d];exact(lG f)
 have l:j/k<xs.length:=Nat.div_lt_of_lt_mul (by rw[Nat.mul_comm];exact hj)
 have o:j%k<k:=Nat.mod_lt _ m;obtain⟨x,hx⟩:∃x,xs[j/k]?=some x:=⟨_,gE l⟩;obtain⟨v,hv⟩:∃v,(encs x)[j%k]?=some v:=⟨_,gE (by rw[d];exact o)⟩
 have a:=jo d xs _ x hx _ v hv;have e:j/k*k+j%k=j:=by rw[Nat.mul_comm];exact Nat.div_add_mod j k
 rw[e,f]at a;injection a with a
 subst a;obtain⟨q,h,c,_,hc⟩:=i _ x hx;injection c with c
 injection c with e1 e2
 subst e1 e2;have:=hc _ _ hv
 rwa [Nat.add_assoc,e]at this
structure gJ{α:Type}(lo k:Nat)(enc:α→List Value)(w:World)(A:Option Addr)(cap:Nat)(xs:List α):Prop where
 le:xs.length≤cap
 max:cap≤maxLen
 rd:aG k enc w w.heap.size A xs
 nil0:A=none→xs=[]∧cap=0
 here:∀a,A=some a→a.spot=none∧lo≤a.block∧a.block<w.heap.size
section
variable {α:Type} {lo k:Nat} {enc:α→List Value} {w w':World} {A:Option Addr} {cap:Nat} {xs:List α}
theorem gJ.nil:gJ lo k enc w none 0 []:=⟨lr _,Nat.zero_le _,aG.nil,fun _=>⟨rfl,rfl⟩,fun _ h=>by cases h⟩
theorem gJ.below(h:gJ lo k enc w A cap xs)(d:BW w w'):gJ lo k enc w' A cap xs :=
 ⟨h.le,h.max,(h.rd.below d (lr _)).more d.size,h.nil0,fun a c=>⟨(h.here a c).1,(h.here a c).2.1,lz (h.here a c).2.2 d.size⟩⟩
theorem gJ.set(h:gJ lo k enc w A cap xs){o:Nat}(m:g<lo)(u:Value):gJ lo k enc (w.setCell ⟨g,o,none⟩ u) A cap xs:=by
 refine⟨h.le,h.max,fun i x hx=>?_,h.nil0,fun a ha=>?_⟩
 ·obtain⟨b,off,e,l,hc⟩:=h.rd i x hx;have:=(h.here _ e).2.1;refine⟨b,off,e,by simpa using l,fun j v hv=>?_⟩
  exact kV (hc j v hv) (by simp only at this;omega)
 ·obtain⟨c,d,f⟩:=h.here a ha;exact⟨c,d,by simpa using f⟩
theorem gJ.of_own(s:∀x,(enc x).length=k){e:TypeId}{f:List Value}(h:w.ownsRow lo e k v n f)(t:n=xs.length)(c:f=xs.flatMap enc)(m:0<xs.length):∃A cap,v=.slice A xs.length cap∧gJ lo k enc w A cap xs:=by
 subst t c;obtain⟨A,cap,j,d,o,q,r⟩:=jp s h;obtain⟨x,hx⟩:=gX (l:=xs) (i:=0) m;obtain⟨b,off,rfl,hb,hc⟩:=d 0 x hx;refine⟨_,cap,j,q,r,d,fun h=>(by cases h),fun a ha=>?_⟩
 injection ha with ha
 subst ha;exact⟨rfl,(o b off rfl).1,hb⟩
theorem gJ.low(l:∀x,(enc x).length=k)(q:∀x,∀u∈enc x,u.oneCell'=true)(h:gJ lo k enc w A cap xs)(o:p≤xs.length):fX w k (.slice A p cap) p ((xs.take p).flatMap enc):=by
 cases A with
 | none =>
  obtain⟨rfl,rfl⟩:=h.nil0 rfl;have:p=0:=by simpa using o
  subst this;exact .inl ⟨rfl,rfl,rfl⟩
 | some a =>
  refine .inr ⟨a,cap,rfl,by rw[fV l];simp[Nat.min_eq_left o],fun j u d=>?_,fun u d=>?_⟩
  ·by_cases hk:0<k
   ·have f:0<(xs.take p).length:=by
     rcases Nat.eq_zero_or_pos (xs.take p).length with f | f
     ·rw[List.length_eq_zero_iff.1 f]at d;simp at d
     ·exact f
    have i:=h.rd.take p;obtain⟨b,off,e,_,_⟩:=i 0 _ (gE f);injection e with e
    subst e;rw[lX];exact tG hk l i j u d
   ·have m:=fV l (xs.take p);have:k=0:=by omega
    rw[this,Nat.mul_zero]at m;rw[List.length_eq_zero_iff.1 m]at d;simp at d
  ·obtain⟨c,_,hc⟩:=List.mem_flatMap.1 d;exact q c u hc
theorem aG.drop(h:aG k enc w B (some ⟨b,off,none⟩) xs)(p:Nat):aG k enc w B (some ⟨b,off+p*k,none⟩) (xs.drop p):=by
 intro i x hx;rw[List.getElem?_drop]at hx;obtain⟨b',off',e,hb,hc⟩:=h (p+i) x hx;injection e with e
 injection e with e1 e2
 subst e1 e2;refine⟨b,_,rfl,hb,fun j u a=>?_⟩
 have:=hc j u a;rw[Nat.add_mul,←Nat.add_assoc]at this;exact this
theorem gJ.high(m:0<k)(f:∀x,(enc x).length=k)(l:∀x,∀u∈enc x,u.oneCell'=true)(h:gJ lo k enc w A cap xs)(q:n=xs.length)(r:p≤n):fX w k (.slice (if cap=p then A else A.map fun x=>x.add (p*k)) (n-p) (cap-p)) (n-p) ((xs.drop p).flatMap enc):=by
 subst q;cases A with
 | none =>
  obtain⟨rfl,rfl⟩:=h.nil0 rfl;have:p=0:=by simpa using r
  subst this;exact .inl ⟨by simp,rfl,rfl⟩
 | some a =>
  by_cases hc:cap=p
  ·have o:=h.le;have hpl:p=xs.length:=by omega
   rw[if_pos hc];refine .inr ⟨a,cap-p,by simp, ?_, ?_, ?_⟩
   ·rw[fV f];simp
   ·intro j u d;rw[hpl,List.drop_length]at d;simp at d
   ·intro u d;rw[hpl,List.drop_length]at d;simp at d
  ·rw[if_neg hc];obtain⟨i,_,_⟩:=h.here a rfl;obtain⟨b,off,sub⟩:=a;simp only at i;subst i;refine .inr ⟨⟨b,off+p*k,none⟩,cap-p,by simp[lX],by rw[fV f];simp,fun j u d=>?_,fun u d=>?_⟩
   ·rw[lX];exact tG m f (h.rd.drop p) j u d
   ·obtain⟨c,_,hc⟩:=List.mem_flatMap.1 d;exact l c u hc
end
theorem qR{P:Program}{ops:Array Oper}{rest:List Oper}{o:Oper}{a:Act}{Q:Exit→Act→World→Prop}(y:o.guard=none)(s x:Operand)(t:TypeId)(J:o.op=.call { callee:=.builtin .append,args:=#[s,x],argTypes:=#[t,t] })(base:Nat)(e:TypeId)(i:TypeInfo)(z:Value)(size f:Nat)(M:P.underlying t=some (.slice e))(I:P.info? e=some i)(O:i.zero=some z)(u:i.size=size)(F:i.bytes=f)(H:z.cells.size=size)(G:0<size)(v:Value)(n:Nat)(xs:List Value)(L:a.eval s=v)(j:w.ownsRow base e size v n xs)(D:Value)(m:Nat)(l:List Value)(hx:a.eval x=D)(C:fX w size D m l)(E:n+m≤maxLen)(q:(n+m)*f≤140737488355328)(r:base≤w.heap.size)(h:∀v' w',w'.ownsRow base e size v' (n+m) (xs++l)→w.grownBy w' v.ownBlock→(v'.ownBlock=v.ownBlock∨v'.ownBlock=some w.heap.size)→wpList P ops Q rest (a.put o.dst v') w') :
  wpList P ops Q (o::rest) a w:=by
 rcases C with⟨rfl,rfl,rfl⟩ | ⟨ad,c,rfl,hl,hnews,h1⟩
 ·refine wpList_plain y fun K hK=>?_
  have N:=run_append_owned_none (P:=P) w base t o.type e i size M I v n xs j;unfold Oper.wp execOp;simp only[J,resolve,invoke,builtin,Sem.run_bind,Sem.run_pure,Result.andThen_ok,List.map_toArray,List.map_cons,List.map_nil,L,hx,N];exact hK _ _ (h v w (by simpa using j) (oY _ _) (.inl rfl))
 ·exact wpList_append_own_at w y s x t J base e i z size f M I O u F H G v n xs L j ad m c l hx hl hnews h1 E q r fun v' w' a b _ d=>h v' w' a b d
section
variable {w w':World} {base:Nat} {e:TypeId} {size n:Nat} {v:Value} {xs:List Value}
theorem jI{f:TypeId}{d:List Value}(h:w.ownsRow base e size v n xs)(i:w.ownsRow base' f size' v' n' d)(j:e≠f)(c:v.ownBlock=some g):v'.ownBlock≠some g:=by
 intro a;rcases h.2 with⟨rfl,_⟩ | ⟨g1,cap,cur,rfl,_,h1,_⟩
 ·cases c
 rcases i.2 with⟨rfl,_⟩ | ⟨g2,cap2,cur2,rfl,_,h2,_⟩
 ·cases a
 simp only[Value.ownBlock,Option.some.injEq]at c a;subst c a;rw[h1]at h2;injection h2 with h2
 injection h2 with _ h2
 exact j h2
theorem kA{c:TypeId}{a:List Value}(h:w.ownsRow base e size v n xs)(f:w.ownsRow base' c size' v' n' a)(i:e≠c)(j:w.grownBy w' v'.ownBlock):w'.ownsRow base e size v n xs :=
 kz h fun k d=>j.block k (h.lt k d).2 fun e2=>jI h f i d e2.symm
theorem gK(h:w.ownsRow base e size v n xs):∃A c,v=.slice A n c:=by
 rcases h.2 with⟨rfl,rfl⟩ | ⟨g,cap,cur,rfl,_⟩
 ·exact⟨none,0,rfl⟩
 ·exact⟨_,_,rfl⟩
theorem nT(h:w.ownsRow base e size v n xs):w.ownsRow 0 e size v n xs:=dv h (Nat.zero_le _)
end
end
end Go.Proofs.YtbillnhcmkpohaaGreatDoor
namespace Go.Proofs.YtbillnhcmkpohaaGreatDoor
def lc(n:Nat):Code→Option Code
 | .region id ops d=>if id=n then some (.region id ops d)else none
 | .seq a b=>match lc n a with
  | some c=>some c
  | none=>lc n b
 | .cond _ a b=>match lc n a with
  | some c=>some c
  | none=>lc n b
 | .block _ c=>lc n c
 | .loop c=>lc n c
 | .scope c=>lc n c
 | _=>none
noncomputable def aF(f:Func)(n:Nat):Code:=(f.body.bind (lc n)).getD .skip
noncomputable def aU:Code→Array Oper
 | .region _ ops _=>ops
 | _=>#[]
noncomputable def ay(ops:Array Oper)(i:Nat):Oper:=(ops[i]?).getD default
end Go.Proofs.YtbillnhcmkpohaaGreatDoor
namespace Go.Proofs.YtbillnhcmkpohaaGreatDoor
open Go
section
variable{fuel i:Nat}{v:Value}{w:World}
section
variable {P:Program} {ops:Array Oper} {Q:Exit→Act→World→Prop} {md:Region.Mode} {S:World→Prop} {late:Nat→Bool}
def dO(P:Program)(md:Region.Mode)(ops:Array Oper)(Q:Exit→Act→World→Prop)(S:World→Prop)(late:Nat→Bool):Nat→Array Bool→Act→World→Prop
 | 0,listed,a,w=>Region.ready md ops listed=[]∧Q .normal a w
 | fuel+1,listed,a,w =>
  (Region.ready md ops listed=[]→Q .normal a w) ∧
  ∀i∈Region.ready md ops listed,wpOp P ops Q i (fun a' w'=>(late i=true→wpAny P md ops Q fuel (listed.setIfInBounds i true) a' w')∧(late i=false→S w'∧dO P md ops Q S late fuel (listed.setIfInBounds i true) a' w')) a w
theorem tH:∀(fuel:Nat) (listed:Array Bool) (a:Act) (w:World),dO P md ops Q S late fuel listed a w→wpAny P md ops Q fuel listed a w
 | 0,_,_,_,h=>h
 | fuel+1,_,_,_,h=>⟨h.1,fun i b=>wpOp_mono (fun a' w' h'=>by
   cases hl:late i with
   | true=>exact h'.1 hl
   | false=>exact tH fuel _ a' w' (h'.2 hl).2) (h.2 i b)⟩
def mM(md:Region.Mode)(ops:Array Oper)(i:Nat):Nat→Nat→Bool
 | 0,_=>false
 | f+1,j=>match ops[j]? with
  | some o=>o.after.any fun e=>Region.binds md e&&(e.on==i||mM md ops i f e.on)
  | none=>false
def qS(md:Region.Mode)(ops:Array Oper)(late:Nat→Bool)(i:Nat):Bool :=
 (List.range ops.size).all fun j=>!late j||mM md ops i ops.size j
def mN(md:Region.Mode)(ops:Array Oper)(listed:Array Bool):Prop:=∀j oj,ops[j]?=some oj→listed.getD j false=true→∀e∈oj.after,Region.binds md e=true→listed.getD e.on false=true
def ph(md:Region.Mode)(ops:Array Oper)(listed:Array Bool):Bool :=
 (List.range ops.size).all fun j=>!listed.getD j false||(match ops[j]? with | some o=>o.after.all fun e=>!Region.binds md e||listed.getD e.on false | none=>true)
theorem BY{a:Array Bool}(h:ph md ops a=true):mN md ops a:=fun j g b f e d c=>by
 unfold ph at h;rw[List.all_eq_true]at h;have:=h j (List.mem_range.2 (Array.getElem?_eq_some_iff.1 b).1);rw[f,b]at this;simp only[Bool.not_true,Bool.false_or,Array.all_eq_true,Bool.or_eq_true,Bool.not_eq_true']at this;obtain⟨k,hk,rfl⟩:=Array.mem_iff_getElem.1 d;rcases this k hk with h1 | h1
 ·rw[c]at h1;cases h1
 ·exact h1
theorem BZ{a:Array Bool}(hc:mN md ops a):∀(f j:Nat) (c:Oper),ops[j]?=some c→(∀e∈c.after,Region.binds md e=true→a.getD e.on false=true)→mM md ops i f j=true→a.getD i false=true:=by
 intro f;induction f with
 | zero=>intro j c _ _ h;cases h
 | succ f ih =>
  intro j c l b h;rw[mM,l]at h;simp only[Array.any_eq_true,Bool.and_eq_true,Bool.or_eq_true,beq_iff_eq]at h;obtain⟨k,hk,h1,h2⟩:=h;have hl:=b _ (Array.getElem_mem hk) h1;rcases h2 with h2 | h2
  ·rw[←h2];exact hl
  ·cases hk2:ops[(c.after[k]).on]? with
   | none =>
    cases f with
    | zero=>cases h2
    | succ f=>rw[mM,hk2]at h2;cases h2
   | some ok=>exact ih _ ok hk2 (fun e g d=>hc _ ok hk2 hl e g d) h2
theorem mN.set{a:Array Bool}{j:Nat}(hc:mN md ops a)(l:j∈Region.ready md ops a):mN md ops (a.setIfInBounds j true):=fun k m g h e f d=>by
 by_cases hjk:j=k
 ·subst hjk;obtain⟨_,n,b,c⟩:=mem_ready.1 l;rw[g]at b;injection b with b
  subst b;exact getD_set_true (c e f d)
 ·rw[getD_set_ne false hjk]at h;exact getD_set_true (hc k m g h e f d)
theorem B0{n:Oper}(D:ops[i]?=some n)(m:∀(j:Nat) (o:Oper) cs b,ops[j]?=some o→o.op≠.select cs b)(I:∀c a w,Q (.panic c) (a.put n.dst v) w→Q (.panic c) a w)(s:late i=false)(K:∀j,j<ops.size→late j=true→mM md ops i ops.size j=true) :
  ∀(fuel:Nat) (d:Array Bool) (a:Act) (w:World),
   (∀j oj,ops[j]?=some oj→j≠i→d.getD j true=false→(∀e∈oj.after,Region.binds md e=true→e.on≠i)→n.apart ops oj=true) →
   mN md ops d→i∈Region.ready md ops d→YieldsIf P ops S n v a→S w →
   dO P md ops Q S late fuel (d.setIfInBounds i true) (a.put n.dst v) w→dO P md ops Q S late (fuel+1) d a w:=by
 intro fuel;induction fuel with
 | zero =>
  intro d a w _ _ l B q H;refine⟨fun h=>(by rw[h]at l;cases l),fun j hj=>?_⟩
  by_cases hji:j=i
  ·subst hji;exact B.wpOp D q ⟨fun h=>(by rw[s]at h;cases h),fun _=>⟨q,H⟩⟩
  ·have:=ready_mono hj hji;rw[H.1]at this;cases this
 | succ fuel ih =>
  intro d a w f r l B q H;refine⟨fun h=>(by rw[h]at l;cases l),fun j hj=>?_⟩
  by_cases hji:j=i
  ·subst hji;exact B.wpOp D q ⟨fun h=>(by rw[s]at h;cases h),fun _=>⟨q,H⟩⟩
  ·have p:=H.2 j (ready_mono hj hji);obtain⟨hjun,oj,hoj,hall⟩:=mem_ready.1 hj;have hnot:∀e∈oj.after,Region.binds md e=true→e.on≠i:=fun e he hb heq=>by
    have p:=hall e he hb;have h0:=(mem_ready.1 l).1;rw[heq]at p;rcases Nat.lt_or_ge i d.size with h' | h'
    ·simp[h']at h0 p;rw[h0]at p;cases p
    ·simp[Array.getElem?_eq_none h']at p
   have t:late j=false:=by
    cases hl:late j with
    | false=>rfl
    | true =>
     have A:=BZ r _ j oj hoj hall (K j (Array.getElem?_eq_some_iff.1 hoj).1 hl);have h0:=(mem_ready.1 l).1;rcases Nat.lt_or_ge i d.size with h' | h'
     ·simp[h']at h0 A;rw[h0]at A;cases A
     ·simp[Array.getElem?_eq_none h']at A
   have C:wpOp P ops Q j (fun y w'=>S w'∧dO P md ops Q S late fuel ((d.setIfInBounds i true).setIfInBounds j true) y w') (a.put n.dst v) w:=wpOp_mono (fun y w' h=>h.2 t) p
   have G:=wpOp_putIf hoj (f j oj hoj hji hjun hnot) (fun cs b=>m i n cs b D) (fun cs b=>m j oj cs b hoj) I B C
   have g:∀k x,ops[k]?=some x→k≠i→(d.setIfInBounds j true).getD k true=false →
     (∀e∈x.after,Region.binds md e=true→e.on≠i)→n.apart ops x=true:=fun k x J E u F=>by
    refine f k x J E ?_ F;by_cases hjk:j=k
    ·subst hjk;exact hjun
    ·rw[getD_set_ne true hjk]at u;exact u
   refine wpOp_mono (fun y w' z=>⟨fun h=>(by rw[t]at h;cases h),fun _=>⟨z.2.1,ih (d.setIfInBounds j true) y w' g (r.set hj) (ready_mono l (Ne.symm hji)) z.1 z.2.1 ?_⟩⟩) G
   rw[Array.setIfInBounds_comm _ _ hji];exact z.2.2
theorem Ca{d:Oper}{b:Array Bool}{a:Act}(l:ops[i]?=some d)(s:Region.noSelect ops=true)(o:Region.free md ops b i=true)(r:(Region.ready md ops b).contains i=true)(m:∀c a w,Q (.panic c) (a.put d.dst v) w→Q (.panic c) a w)(g:late i=false)(k:qS md ops late i=true)(f:ph md ops b=true)(t:YieldsIf P ops S d v a)(n:S w)(h:dO P md ops Q S late fuel (b.setIfInBounds i true) (a.put d.dst v) w):dO P md ops Q S late (fuel+1) b a w :=
 B0 l (Region.noSelect_spec s) m g (fun j p q=>by unfold qS at k;rw[List.all_eq_true]at k;have:=k j (List.mem_range.2 p);rw[q]at this;simpa using this) fuel b a w (Region.free_spec l o) (BY f) (by simpa using r) t n h
def fZ(P:Program)(md:Region.Mode)(ops:Array Oper)(Q:Exit→Act→World→Prop)(S:World→Prop)(late:Nat→Bool)(fuel:Nat)(listed:Array Bool)(a:Act)(w:World)(rs:List Nat):Prop :=
 ∀i∈rs,wpOp P ops Q i (fun a' w'=>(late i=true→wpAny P md ops Q fuel (listed.setIfInBounds i true) a' w')∧(late i=false→S w'∧dO P md ops Q S late fuel (listed.setIfInBounds i true) a' w')) a w
theorem fZ.nil{b:Array Bool}{a:Act}:fZ P md ops Q S late fuel b a w []:=fun _ h=>by cases h
theorem fZ.cons{b:Array Bool}{a:Act}{o:Oper}{f:List Nat}(k:ops[i]?=some o)(g:late i=false)(h:∀c:Act→World→Prop,Shut (∀a w,S w→(S w→dO P md ops Q S late fuel (b.setIfInBounds i true) a w)→c a w)→if Region.wanted o (yielded ops a.tmps)=true then Oper.wp P o a w c Q else c (a.put o.dst undef) w)(l:fZ P md ops Q S late fuel b a w f):fZ P md ops Q S late fuel b a w (i::f):=fun j d=>by
 rcases List.mem_cons.1 d with rfl | d
 ·exact wpOp_step k (fun c hK=>h c (fun a w hS hW=>hK a w ⟨fun h=>(by rw[g]at h;cases h),fun _=>⟨hS,hW hS⟩⟩))
 ·exact l j d
theorem fZ.last{b:Array Bool}{a:Act}{o:Oper}{f:List Nat}(k:ops[i]?=some o)(g:late i=true)(h:∀c:Act→World→Prop,Shut (∀a w,wpAny P md ops Q fuel (b.setIfInBounds i true) a w→c a w)→if Region.wanted o (yielded ops a.tmps)=true then Oper.wp P o a w c Q else c (a.put o.dst undef) w)(l:fZ P md ops Q S late fuel b a w f):fZ P md ops Q S late fuel b a w (i::f):=fun j d=>by
 rcases List.mem_cons.1 d with rfl | d
 ·exact wpOp_step k (fun c hK=>h c (fun a w hW=>hK a w ⟨fun _=>hW,fun h=>(by rw[g]at h;cases h)⟩))
 ·exact l j d
theorem qT{d:List Nat}{b:Array Bool}{a:Act}(f:Region.ready md ops b=d)(c:d≠[])(h:fZ P md ops Q S late fuel b a w d):dO P md ops Q S late (fuel+1) b a w :=
 ⟨fun g=>absurd (f▸g) c,f▸h⟩
theorem lZ{id:Nat}{a:Act}(b:P.follows .mixedOrders=true)(h:dO P .any ops Q S late ops.size (Array.replicate ops.size false) a w.drew):(Code.region id ops true).wp P Q a w :=
 wp_region_any b (tH _ _ _ _ h)
end
end
end Go.Proofs.YtbillnhcmkpohaaGreatDoor
namespace Go.Proofs.YtbillnhcmkpohaaGreatDoor
open Go Go.RowKit
section
variable {P:Program} {ops:Array Oper} {Q:Exit→Act→World→Prop} {md:Region.Mode} {S:World→Prop} {late:Nat→Bool} {fuel:Nat} {listed l' l2 l3:Array Bool} {a a':Act} {w:World}
noncomputable def kB(md:Region.Mode)(ops:Array Oper)(listed:Array Bool)(i:Nat):Bool:=Region.noSelect ops&&Region.free md ops listed i&&(Region.ready md ops listed).contains i
theorem tk(i:Nat)(v:Value)(h:wpAnyH P md ops Q S fuel l' a' w)(j:ops[i]?=some (ay ops i):=by kernel_rfl)(b:kB md ops listed i=true:=by kernel_rfl)(l:YieldsIf P ops S (ay ops i) v a:=by
   generalize e:ay _ _=o;conv at e=>lhs;whnf
   subst e;refine Or.inl ⟨by first | rfl | kernel_rfl, ?_⟩
   intro w hSw
   (repeat(have hx:=hSw.1;replace hSw:=hSw.2))
   go_simp)(f:S w:=by first | assumption | trivial)(k:listed.setIfInBounds i true=l':=by
   simp only[List.setIfInBounds_toArray,List.set_cons_zero,List.set_cons_succ];rfl)(g:a.put (ay ops i).dst v=a':=by
   generalize e:ay _ _=o;conv at e=>lhs;whnf
   subst e
   (try simp only[Act.put,List.setIfInBounds_toArray,List.set_cons_zero,List.set_cons_succ])
   rfl)(d:∀c a w,Q (.panic c) (a.put (ay ops i).dst v) w→Q (.panic c) a w:=by exact fun _ _ _ h=>h):wpAnyH P md ops Q S (fuel+1) listed a w:=by
 subst k g;simp only[kB,Bool.and_eq_true]at b;exact wpAnyH_take j b.1.1 b.1.2 b.2 d l f h
noncomputable def tI(md:Region.Mode)(ops:Array Oper)(late:Nat→Bool)(listed:Array Bool)(i:Nat):Bool:=kB md ops listed i&&!late i&&qS md ops late i&&ph md ops listed
theorem ae(i:Nat)(v:Value)(h:dO P md ops Q S late fuel l' a' w)(j:ops[i]?=some (ay ops i):=by kernel_rfl)(b:tI md ops late listed i=true:=by kernel_rfl)(l:YieldsIf P ops S (ay ops i) v a:=by
   generalize e:ay _ _=o;conv at e=>lhs;whnf
   subst e;refine Or.inl ⟨by first | rfl | kernel_rfl, ?_⟩
   intro w hSw
   (repeat(have hx:=hSw.1;replace hSw:=hSw.2))
   go_simp)(f:S w:=by first | assumption | trivial)(k:listed.setIfInBounds i true=l':=by
   simp only[List.setIfInBounds_toArray,List.set_cons_zero,List.set_cons_succ];rfl)(g:a.put (ay ops i).dst v=a':=by
   generalize e:ay _ _=o;conv at e=>lhs;whnf
   subst e
   (try simp only[Act.put,List.setIfInBounds_toArray,List.set_cons_zero,List.set_cons_succ])
   rfl)(d:∀c a w,Q (.panic c) (a.put (ay ops i).dst v) w→Q (.panic c) a w:=by exact fun _ _ _ h=>h):dO P md ops Q S late (fuel+1) listed a w:=by
 subst k g;simp only[tI,kB,Bool.and_eq_true,Bool.not_eq_true']at b;exact Ca j b.1.1.1.1.1 b.1.1.1.1.2 b.1.1.1.2 d b.1.1.2 b.1.2 b.2 l f h
theorem rd1(i:Nat){o:Oper}(h:∀K':Act→World→Prop,Shut (∀a w,S w→(S w→wpAnyH P md ops Q S fuel l' a w)→K' a w)→if Region.wanted o (yielded ops a.tmps)=true then Oper.wp P o a w K' Q else K' (a.put o.dst undef) w)(d:ay ops i=o:=by
   (conv=>lhs;whnf)<;>rfl)(b:ops[i]?=some (ay ops i):=by kernel_rfl)(f:Region.ready md ops listed=[i]:=by kernel_rfl)(c:listed.setIfInBounds i true=l':=by
   simp only[List.setIfInBounds_toArray,List.set_cons_zero,List.set_cons_succ];rfl):wpAnyH P md ops Q S (fuel+1) listed a w:=by
 subst c d;exact wpAnyH_ready f (by simp) (AllReadyH.cons b h AllReadyH.nil)
theorem gZ(i j:Nat){o p:Oper}(h:∀K':Act→World→Prop,Shut (∀a w,S w→(S w→wpAnyH P md ops Q S fuel l' a w)→K' a w)→if Region.wanted o (yielded ops a.tmps)=true then Oper.wp P o a w K' Q else K' (a.put o.dst undef) w)(c:∀K':Act→World→Prop,Shut (∀a w,S w→(S w→wpAnyH P md ops Q S fuel l2 a w)→K' a w)→if Region.wanted p (yielded ops a.tmps)=true then Oper.wp P p a w K' Q else K' (a.put p.dst undef) w)(k:ay ops i=o:=by
   (conv=>lhs;whnf)<;>rfl)(l:ay ops j=p:=by
   (conv=>lhs;whnf)<;>rfl)(d:ops[i]?=some (ay ops i):=by kernel_rfl)(f:ops[j]?=some (ay ops j):=by kernel_rfl)(m:Region.ready md ops listed=[i,j]:=by kernel_rfl)(g:listed.setIfInBounds i true=l':=by
   simp only[List.setIfInBounds_toArray,List.set_cons_zero,List.set_cons_succ];rfl)(b:listed.setIfInBounds j true=l2:=by
   simp only[List.setIfInBounds_toArray,List.set_cons_zero,List.set_cons_succ];rfl):wpAnyH P md ops Q S (fuel+1) listed a w:=by
 subst g b k l;exact wpAnyH_ready m (by simp) (AllReadyH.cons d h (AllReadyH.cons f c AllReadyH.nil))
theorem aQ(i:Nat){o:Oper}(h:∀K':Act→World→Prop,Shut (∀a w,S w→(S w→dO P md ops Q S late fuel l' a w)→K' a w)→if Region.wanted o (yielded ops a.tmps)=true then Oper.wp P o a w K' Q else K' (a.put o.dst undef) w)(f:ay ops i=o:=by
   (conv=>lhs;whnf)<;>rfl)(c:ops[i]?=some (ay ops i):=by kernel_rfl)(g:Region.ready md ops listed=[i]:=by kernel_rfl)(b:late i=false:=by rfl)(d:listed.setIfInBounds i true=l':=by
   simp only[List.setIfInBounds_toArray,List.set_cons_zero,List.set_cons_succ];rfl):dO P md ops Q S late (fuel+1) listed a w:=by
 subst d f;exact qT g (by simp) (fZ.cons c b h fZ.nil)
theorem tJ(i j:Nat){o p:Oper}(h:∀K':Act→World→Prop,Shut (∀a w,S w→(S w→dO P md ops Q S late fuel l' a w)→K' a w)→if Region.wanted o (yielded ops a.tmps)=true then Oper.wp P o a w K' Q else K' (a.put o.dst undef) w)(f:∀K':Act→World→Prop,Shut (∀a w,S w→(S w→dO P md ops Q S late fuel l2 a w)→K' a w)→if Region.wanted p (yielded ops a.tmps)=true then Oper.wp P p a w K' Q else K' (a.put p.dst undef) w)(m:ay ops i=o:=by
   (conv=>lhs;whnf)<;>rfl)(n:ay ops j=p:=by
   (conv=>lhs;whnf)<;>rfl)(g:ops[i]?=some (ay ops i):=by kernel_rfl)(k:ops[j]?=some (ay ops j):=by kernel_rfl)(q:Region.ready md ops listed=[i,j]:=by kernel_rfl)(c:late i=false:=by rfl)(d:late j=false:=by rfl)(l:listed.setIfInBounds i true=l':=by
   simp only[List.setIfInBounds_toArray,List.set_cons_zero,List.set_cons_succ];rfl)(b:listed.setIfInBounds j true=l2:=by
   simp only[List.setIfInBounds_toArray,List.set_cons_zero,List.set_cons_succ];rfl):dO P md ops Q S late (fuel+1) listed a w:=by
 subst l b m n;exact qT q (by simp) (fZ.cons g c h (fZ.cons k d f fZ.nil))
theorem bO(i:Nat){o:Oper}(h:∀K':Act→World→Prop,Shut (∀a w,wpAny P md ops Q fuel l' a w→K' a w)→if Region.wanted o (yielded ops a.tmps)=true then Oper.wp P o a w K' Q else K' (a.put o.dst undef) w)(f:ay ops i=o:=by
   (conv=>lhs;whnf)<;>rfl)(c:ops[i]?=some (ay ops i):=by kernel_rfl)(g:Region.ready md ops listed=[i]:=by kernel_rfl)(b:late i=true:=by rfl)(d:listed.setIfInBounds i true=l':=by
   simp only[List.setIfInBounds_toArray,List.set_cons_zero,List.set_cons_succ];rfl):dO P md ops Q S late (fuel+1) listed a w:=by
 subst d f;exact qT g (by simp) (fZ.last c b h fZ.nil)
theorem gd{c:Code}{n r:Nat}{V:World}(d:∀W,BW V W→S W)(h:∀V0,Hid (BW V V0)→S V0→wpAnyH P .any ops (NoPanic Q) S n listed a V0)(g:P.follows .mixedOrders=true:=by kernel_rfl)(hc:c=Code.region r ops true:=by kernel_rfl)(i:ops.size=n:=by kernel_rfl)(f:Array.replicate n false=listed:=by
   simp only[Array.replicate_succ,Array.replicate_zero,List.push_toArray,List.nil_append,List.cons_append];rfl):c.wp P Q a V:=by
 subst hc f i;have b:=fc (bR V);exact wp_region_noPanic (wp_region_held_drew g (d _ b) fun hh=>h _ (Lq b) hh)
end
theorem dn{P:Program}{ops:Array Oper}{Q:Exit→Act→World→Prop}{md:Region.Mode}{S:World→Prop}{fuel:Nat}{listed:Array Bool}{a:Act}{w:World}(h:Q .normal a w)(b:Region.ready md ops listed=[]:=by kernel_rfl):wpAnyH P md ops (NoPanic Q) S fuel listed a w:=wpAnyH_done b (NoPanic.normal h) _
theorem dL{P:Program}{ops:Array Oper}{Q:Exit→Act→World→Prop}{md:Region.Mode}{fuel:Nat}{listed:Array Bool}{a:Act}{w:World}(h:Q .normal a w)(b:Region.ready md ops listed=[]:=by kernel_rfl):wpAny P md ops (NoPanic Q) fuel listed a w:=wpAny_of_held (S:=fun _=>True) _ _ _ _ (dn h b)
end Go.Proofs.YtbillnhcmkpohaaGreatDoor
namespace Go.Proofs.YtbillnhcmkpohaaGreatDoor
open Go.RowKit
section
variable{n:Nat}
theorem Tryz.info50:(Tryz.prog.info? 50).map (fun i=>(i.zero,i.size,i.bytes))=some (some (.agg #[.string ⟨#[]⟩,iv 0,iv 0,iv 0,.slice none 0 0,iv 0,iv 0]),7,80):=by kernel_rfl
theorem nU:∀m,∀u∈aJ m,u.oneCell'=true:=by intro m u a;simp[aJ]at a;rcases a with rfl | rfl | rfl | rfl | rfl | rfl | rfl<;>rfl
structure az(w:World)(B:Nat)(A:Option Addr)(cap:Nat)(ms:List aj):Prop where
 rd:cF w B A ms
 le:ms.length≤cap
 max:cap≤maxLen
 nil0:A=none→cap=0
 off:∀a,A=some a→a.spot=none∧a.block<B
section
variable {w w':World} {B B':Nat} {A:Option Addr} {cap:Nat} {ms:List aj}
theorem az.below(h:az w B A cap ms)(b:Below B' w w')(a:B≤B'):az w' B A cap ms:=⟨h.rd.below b a,h.le,h.max,h.nil0,h.off⟩
theorem az.more(h:az w B A cap ms)(b:B≤B'):az w B' A cap ms:=⟨h.rd.more b,h.le,h.max,h.nil0,fun a e=>⟨(h.off a e).1,lz (h.off a e).2 b⟩⟩
theorem az.take(h:az w B A cap ms)(n:Nat):az w B A cap (ms.take n):=⟨h.rd.take n,lT (List.length_take_le' ..) h.le,h.max,h.nil0,h.off⟩
theorem az.row(h:az w B A cap ms)(b:B≤w.heap.size):gJ 0 7 aJ w A cap ms :=
 ⟨h.le,h.max,h.rd.rd.more b,fun e=>⟨List.length_eq_zero_iff.1 (by have:=h.le;have:=h.nil0 e;omega),h.nil0 e⟩,fun a e=>⟨(h.off a e).1,Nat.zero_le _,lz (h.off a e).2 b⟩⟩
theorem az.of_own{base:Nat}{v:Value}(h:w.ownsRow base 50 7 v n (ms.flatMap aJ))(d:n=ms.length)(b:∀m∈ms,aR w w.heap.size m):∃A cap,v=.slice A ms.length cap∧az w w.heap.size A cap ms:=by
 subst d;have c:=h;obtain⟨A,cap,e1,h2,h3,h4,h5⟩:=jp cH h;refine⟨A,cap,e1,⟨h2,b⟩,h4,h5, ?_, ?_⟩
 ·intro e;subst e;obtain⟨_,h2⟩:=c;rcases h2 with⟨hv,_⟩ | ⟨g,c2,cur,hv,_⟩
  ·rw[e1]at hv;injection hv
  ·rw[e1]at hv;injection hv with hv _
   cases hv
 ·intro a e;subst e;obtain⟨_,h2⟩:=c;rcases h2 with⟨hv,_⟩ | ⟨g,c2,cur,hv,_,hg,_⟩
  ·rw[e1]at hv;injection hv with hv _
   cases hv
  ·rw[e1]at hv;injection hv with hv _
   injection hv with hv
   subst hv;refine⟨rfl, ?_⟩;rcases Nat.lt_or_ge g w.heap.size with hlt | hge
   ·exact hlt
   ·rw[Array.getElem?_eq_none hge]at hg;cases hg
end
noncomputable def Cb:Array Oper:=aU (aF Tryz.f38 1)
theorem Cc{Q:Exit→Act→World→Prop}{V:World}{A:Option Addr}{cap i:Nat}{p q:List Value}{u v G H I J K M N O R T U:Value}(hi:i<n)(hn:n≤12)(C:n≤cap)(d:cap≤maxLen)(l:fX V 7 (.slice A i cap) i p)(m:fX V 7 (.slice (if cap=i+1 then A else A.map fun x=>x.add ((i+1)*7)) (n-(i+1)) (cap-(i+1))) (n-(i+1)) q)(t:∀u5 u6 u7 u8 u9 u10 u11 u12 u13 u14 v' W',fq V W' [some ⟨v',50,7,0+i+(n-(i+1)),[]++p++q⟩,none,none,none]→Q .normal ⟨#[.slice A n cap,iv i,u,v,v',u5,u6,u7,u8,u9,u10,u11,u12,u13,u14],[]⟩ W') :
  (aF Tryz.f38 1).wp Tryz.prog Q ⟨#[.slice A n cap,iv i,u,v,G,H,I,J,K,M,N,O,R,T,U],[]⟩ V:=by
 obtain⟨o,f,a,b,c⟩:=info_parts Tryz.info50;have H1:=Lq l;have H2:=Lq m;have HQ:=Lq t;have _u:=d;have h0:=nn i;have hi2:(i:Int)≤(cap:Int):=by omega
 have y:(i:Int)+1≤(n:Int):=by omega
 have z:(i:Int)+1≤(cap:Int):=by omega
 have hw:IntKind.i64.wrap ((i:Int)+1)=(i:Int)+1:=by rw[IntKind.wrap_i64];simp only[maxLen]at d;omega
 have D:¬((i:Int)+1<0):=by omega
 have E:((i:Int)+1).toNat=i+1:=by omega
 have hL:Hid (fq V V.drew [none,none,none,none]):=Lq BV;clear l m t;refine gd (ops:=Cb) (r:=1) (n:=11) (S:=fun W=>BW V W) (fun W hb=>hb) fun V0 HB0 hHeld=>?_
 refine tk 1 (.slice A n cap) ?_;refine tk 2 (iv i) ?_;refine tk 3 (.slice A i cap) ?_;refine tk 5 (.slice A n cap) ?_;refine tk 6 (iv i) ?_;refine tk 7 (iv (i+1)) ?_;refine tk 8 (.slice (if cap=i+1 then A else A.map fun x=>x.add ((i+1)*7)) (n-(i+1)) (cap-(i+1))) ?_
 refine rd1 0 fun s hK=>?_
 go_simp;have k:Hid (fq V (V0.alloc (.cells #[] 50)) [some ⟨.slice (some ⟨V0.heap.size,0,none⟩) 0 0,50,7,0,[]⟩,none,none,none]):=Lq (mK (L:=[none,none,none,none]) ⟨HB0.out,qQ HB0.out.size⟩ 0 #[] 50 7 0 (by simp[maxLen]) rfl)
 obtain⟨X,j⟩:=ex (V0.alloc (.cells #[] 50));obtain⟨g1,hg1⟩:=ex V0.heap.size;rw[j,hg1]at k;rw[j,hg1];refine hK.out _ _ k.out.1 (fun hHeld=>?_)
 clear hK j hg1;refine rd1 4 fun s hK=>?_
 refine mL (by rfl) _ _ 22 (by rfl) k.out 0 _ rfl o _ 80 Tryz.underlying22 f a b c rfl (Nat.succ_pos _) (by rfl) (.slice A i cap) i _ (by rfl) (nS k.out H1.out) (by simp only[];unfold maxLen;omega) (by simp only[];omega) ?_
 intro v2 Y g;have L2:=Lq g;refine hK.out _ _ g.1 (fun hHeld=>?_)
 clear hK g k;refine rd1 9 fun s hK=>?_
 refine mL (by rfl) _ _ 22 (by rfl) L2.out 0 _ rfl o _ 80 Tryz.underlying22 f a b c rfl (Nat.succ_pos _) (by rfl) (.slice (if cap=i+1 then A else A.map fun x=>x.add ((i+1)*7)) (n-(i+1)) (cap-(i+1))) (n-(i+1)) _ (by rfl) (nS L2.out H2.out) (by simp only[];unfold maxLen;omega) (by simp only[];omega) ?_
 intro F Z h;have L3:=Lq h;refine hK.out _ _ h.1 (fun hHeld=>?_)
 clear hK h L2;refine tk 10 F ?_;exact dn (HQ.out _ _ _ _ _ _ _ _ _ _ _ _ L3.out)
def jJ(l:List aj)(w:World)(e:Ending)(w':World):Prop:=∃v,e=.returned v∧w'.ownsRow w.heap.size 50 7 v l.length (l.flatMap aJ)∧BW w w'
theorem tK(A:Option Addr)(ms:List aj)(B cap i:Nat)(w:World)(f:B≤w.heap.size)(H:az w B A cap ms)(g:ms.length≤12)(a:i<ms.length) :
  Cs 38 #[.slice A ms.length cap,iv i] w (jJ (ms.eraseIdx i) w):=by
 have b:=H.row f;have H1:=Lq (b.low cH nU (p:=i) (Nat.le_of_lt a));have H2:=Lq (b.high (by omega) cH nU (n:=ms.length) (p:=i+1) rfl a)
 have c:=H.le;have hmx:=H.max;clear H b;go_enter Tryz.func38,Tryz.ntmps38
 go_wp2_with fail;go_upto_region 1 with fail
 refine Cc a g c hmx H1.out H2.out ?_;intro r s t u v j k l m o v' q d;have L:=Lq d;clear d H1 H2;go_wp2_with fail;go_ret
 refine⟨v',rfl, ?_,L.out.1⟩;have h:=pd L.out.2 (i:=0) rfl;have hl:(ms.eraseIdx i).length=0+i+(ms.length-(i+1)):=by rw[List.length_eraseIdx_of_lt a];omega
 rw[hl,List.eraseIdx_eq_take_drop_succ]
 simpa[List.flatMap_append]using h
end
end Go.Proofs.YtbillnhcmkpohaaGreatDoor
