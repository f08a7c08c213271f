/- hull: Above (printed by mkHB7.py). hull: Above as a whole (printed by mkHB8.py). The .. -/
import Derived.ProofKit
import Derived.OpenShut
import Derived.JoinedOf
import Derived.Deep.Strs
import Derived.Deep.Slices
import Derived.Lib.SmallJoins
import Derived.Test.YtbillnhcmkpohaaGreatDoorRows
import Derived.ChangeSlices
import Derived.Test.YtbillnhcmkpohaaGreatDoorM3
import Derived.Test.YtbillnhcmkpohaaGreatDoorM9
set_option maxRecDepth 1000000
set_option maxHeartbeats 0
namespace Go.Proofs.YtbillnhcmkpohaaGreatDoor
open Go.RowKit
theorem Dk(P:ByteArray→Bool)(A:Option Addr)(ms:List ByteArray)(B cap:Nat)(g h:Value)(w:World)(o:ms.length≤maxLen)(n:B≤w.heap.size)(H:am .string w B A ms)(c:∀W m,BW w W→m∈ms→Cs 92 #[.string m,g,h] W (Rt W (.bool (P m)))) :
  Cs 157 #[.slice A ms.length cap,.func (.func 92) #[] #[g,h]] w (Rt w (iv (dx P (ms)))):=by
 unfold maxLen at o;have j:=Lq H;have HCL:=Lq c;clear H c;go_enter Tryz.func157,Tryz.ntmps157
 go_wp2
 go_loopw [8] (fun i wr=>∃k:Nat,k≤ms.length∧i=iv k∧Hid (dS P ms k=false)∧Hid (BW w wr)) (fun i _=>ms.length-(intOf i).toNat)
 case atStart=>exact⟨0,Nat.zero_le _,rfl,Lq rfl,Lq (bR _)⟩
 case round =>
  obtain⟨k,p,rfl,d,a⟩:=hrel;by_cases hlt:k<ms.length
  ·obtain⟨m,hx⟩:=gX (l:=ms) (i:=k) hlt;obtain⟨b,off,rfl,_,c0⟩:=(j.out.below a.out n) k m hx;have HC:=Lq (HCL.out wr m a.out (mG ⟨k,hx⟩));have HX:Hid (ms[k]?=some m):=Lq hx;clear hx HCL;obtain⟨bp,hbp⟩:=ex (P m);have HBP:=Lq hbp;simp only[hbp]at HC;clear hbp;go_wp2_with fail;refine HC.out.mono ?_;rintro e w1 ⟨rfl,hb⟩;have HB1:=Lq (bT a.out hb);clear hb c0;cases bp
   ·go_wp2_with fail;go_roundw
    case rel=>exact⟨k+1,by omega,by go_num,Lq (kE HX.out d.out HBP.out),HB1⟩
    case measure=>simp[intOf];omega
   ·go_wp2_with fail;go_ret
    exact⟨dm (kD HX.out HBP.out d.out).1.symm,HB1.out⟩
  ·go_wp2_with fail;go_ret
   refine⟨dm (fL ?_).symm,a.out⟩;have f:=d.out;unfold dS at f;rw[List.take_of_length_le (by omega)]at f
   exact f
theorem Dl(P:ByteArray→Bool)(A:Option Addr)(ms:List ByteArray)(B cap:Nat)(b c:Value)(w:World)(j:ms.length≤maxLen)(g:B≤w.heap.size)(H:am .string w B A ms)(a:∀W m,BW w W→m∈ms→Cs 92 #[.string m,b,c] W (Rt W (.bool (P m)))) :
  Cs 91 #[.slice A ms.length cap,.func (.func 92) #[] #[b,c]] w (Rt w (.bool (bu P (ms)))):=by
 have d:=Lq (Dk P A ms B cap b c w j g H a);clear H a;obtain⟨r,hr⟩:=ex (dx P ms);rw[hr]at d;have hd:decide (0≤r)=bu P ms:=by
  unfold bu;cases h:ms.any P
  ·rw[←hr,fL h];rfl
  ·have:=lm h;rw[hr]at this
   simpa using this
 have f:=Lq hd;clear hr hd;go_enter Tryz.func91,Tryz.ntmps91
 go_wp2_with fail;refine d.out.mono ?_;rintro e k ⟨rfl,i⟩;go_wp2_with fail;go_ret
 exact⟨aY f.out,i⟩
structure mT(w:World)(gn go gs:Nat)(s:ByteArray)(A:Option Addr)(cap:Nat)(ms:List aj):Prop where
 nm:w.cell? ⟨gn,0,none⟩=some (.string s)
 fn:w.cell? ⟨go,0,none⟩=some (.func (.func 89) #[] #[pT gn 0,pT go 0,pT gs 0])
 sh:w.cell? ⟨gs,0,none⟩=some (.slice A ms.length cap)
 sl:az w w.heap.size A cap ms
theorem mT.below{w W:World}{b go c cap:Nat}{s:ByteArray}{A:Option Addr}{ms:List aj}(h:mT w b go c s A cap ms)(a:BW w W):mT W b go c s A cap ms :=
 ⟨kC a h.nm,kC a h.fn,kC a h.sh,(h.sl.below a (lr _)).more a.size⟩
theorem Dm(d go a cap:Nat)(s o:ByteArray)(A:Option Addr)(ms:List aj)(j:Nat)(y:aj)(k:Bool)(w:World)(h:mT w d go a s A cap ms)(m:aL (ab ms) o=j)(l:hasP (ab ms) o=true)(n:ms[j]?=some y)(hc:∀W,BW w W→Cs 89 #[mV y,pT d 0,pT go 0,pT a 0] W (Rt W (.bool k))) :
  Cs 92 #[.string o,pT go 0,pT a 0] w (Rt w (.bool k)):=by
 obtain⟨i,f,_⟩:=fU l;rw[m]at i f;have hl2:j<ms.length:=by simpa using f
 have g:=h.sl.max;have hle:=h.sl.le;obtain⟨b,off,rfl,hbB,hMy,c0,c1,c2,c3,c4,c5,c6⟩:=h.sl.rd.at n;have HC:=Lq hc;have HF:Hid (∀W,BW w W→Cs 88 #[pT a 0,.string o] W (Rt W (iv (j:Int)))):=Lq fun W hb=>by have h2:=h.below hb;have:=jK (some ⟨b,off,none⟩) ms W.heap.size cap a o W (lr _) (lT h2.sl.le h2.sl.max) h2.sl.rd h2.sh;rw[i]at this;exact this
 obtain⟨⟨v,t,r,u,c,x,z⟩,p,q⟩:=y;have hfn:=h.fn;have hsh:=h.sh;have HS:Hid (∀W,BW w W→cA W go 0 (.func (.func 89) #[] #[pT d 0,pT go 0,pT a 0])∧cA W a 0 (.slice (some ⟨b,off,none⟩) ms.length cap)∧cA W b (off+j*7) (.string v)∧cA W b (off+j*7+1) (iv t)∧cA W b (off+j*7+2) (iv r)∧cA W b (off+j*7+3) (iv u)∧cA W b (off+j*7+4) (.slice p c.length q)∧cA W b (off+j*7+5) (iv x)∧cA W b (off+j*7+6) (iv z)):=Lq fun W hb=>⟨kC hb hfn,kC hb hsh,kC hb c0,kC hb c1,kC hb c2,kC hb c3,kC hb c4,kC hb c5,kC hb c6⟩
 have B:=nn j;have hj1:(j:Int)<(ms.length:Int):=by omega
 simp only[maxLen]at g;have C:ms.length≤9223372036854775807:=by omega
 simp only at c0 c1 c2 c3 c4 c5 c6;clear h hc i f m l n hMy hbB;go_enter Tryz.func92,Tryz.ntmps92
 go_wp2_with fail;go_region_held3 (fun W=>cA W go 0 (.func (.func 89) #[] #[pT d 0,pT go 0,pT a 0])∧cA W a 0 (.slice (some ⟨b,off,none⟩) ms.length cap)∧cA W b (off+j*7) (.string v)∧cA W b (off+j*7+1) (iv t)∧cA W b (off+j*7+2) (iv r)∧cA W b (off+j*7+3) (iv u)∧cA W b (off+j*7+4) (.slice p c.length q)∧cA W b (off+j*7+5) (iv x)∧cA W b (off+j*7+6) (iv z)) (first | exact HS.out _ (bT (u0 hb7) hb8) | exact HS.out _ (u0 hb7) | exact HS.out _ (aZ (bR _))) ((first | (go_at_call 88;((with_reducible refine(HF.out _ (aZ (bR _))).mono ?_);rintro e w7 ⟨rfl,hb7⟩)) | (go_at_call 89;((with_reducible refine(HC.out _ (u0 hb7)).mono ?_);rintro e w8 ⟨rfl,hb8⟩))))
 go_wp2_with fail;go_ret
 exact⟨rfl,bT (u0 hb7) hb8⟩
theorem Dn(l go q cap:Nat)(s:ByteArray)(A:Option Addr)(ms:List aj)(w:World)(h:mT w l go q s A cap ms)(j:aE (ab ms)):∀(n i:Nat) (m:aj),i<n→ms[i]?=some m→∀W,BW w W→Cs 89 #[mV m,pT l 0,pT go 0,pT q 0] W (Rt W (.bool (jn (ab ms) s i))):=by
 intro n;induction n with
 | zero=>intro i m D;omega
 | succ n ih =>
  intro i m D k W d;have hw:=h.below d;have hM:=hw.sl.rd.ok m (mG ⟨i,k⟩);have hov:=BE (s:=s) (bN k) (fun o ho=>(j.below (bN k) ho).1)
  obtain⟨z,G,a,C,r⟩:=lY W m;obtain⟨g4,hg4⟩:=ex W.heap.size;rw[hg4]at r;obtain⟨bs,hbs⟩:=ex (standsB m.p s);obtain⟨ba,hba⟩:=ex (bu (fun o=>jn (ab ms) s (aL (ab ms) o)) m.p.on)
  have f:jn (ab ms) s i=(bs||ba):=by rw[hov,hbs,←hba];rfl
  rw[f];have x:Hid (∀X,BW z X→Cs 90 #[mV m,.string s] X (Rt X (.bool bs))):=Lq fun X hb=>hbs▸t6 m s X.heap.size X (lr _) ((hM.below (bT a hb) (lr _)).more (bT a hb).size)
  have u:Hid (∀X,BW z X→Cs 91 #[.slice m.A m.p.on.length m.cap,.func (.func 92) #[] #[pT go 0,pT q 0]] X (Rt X (.bool ba))):=Lq fun X hb=>by
   have hx:=h.below (bT d (bT a hb));rw[←hba];refine Dl (fun o=>jn (ab ms) s (aL (ab ms) o)) m.A m.p.on X.heap.size m.cap _ _ X (lT hM.le hM.cm) (lr _) ((hM.below (bT a hb) (lr _)).more (bT a hb).size).on (fun X2 o b ho=>?_)
   obtain⟨H,y,t,B,_⟩:=j.below (bN k) ho;have hh:hasP (ab ms) o=true:=im.2 ⟨y,mG ⟨_,t⟩,B⟩;obtain⟨y2,hy2⟩:∃y2,ms[aL (ab ms) o]?=some y2:=by
    rw[List.getElem?_map]at t;cases hc:ms[aL (ab ms) o]? with
    | none=>rw[hc]at t;cases t
    | some y2=>exact⟨y2,rfl⟩
   exact Dm l go q cap s o A ms _ y2 _ X2 (hx.below b) rfl hh hy2 (fun F g=>ih _ y2 (by omega) hy2 F (bT (bT d (bT a hb)) (bT b g)))
  have v:Hid (∀X,BW z X→cA X l 0 (.string s)):=Lq fun X hb=>(h.below (bT d (bT a hb))).nm
  have E:=Lq r;have HB1:=Lq a;have x0:=v.out _ (bR _);obtain⟨⟨yn,yk,yf,yl,yon,yw,yz⟩,yA,yc⟩:=m;obtain⟨d0,d1,d2,d3,d4,d5,d6⟩:=r.c7;clear ih hw hM hov f hbs hba a C r k D;clear h j d;go_enter Tryz.func89,Tryz.ntmps89
  go_wp2_with fail;refine(x.out _ (bR _)).mono ?_;rintro e I ⟨rfl,b⟩;have HB2:=Lq b;have d4:=(E.out.keep b).c 4;clear b;cases bs with
  | true =>
   go_wp2_with fail;go_ret
   exact⟨rfl,bT HB1.out HB2.out⟩
  | false =>
   go_wp2_with fail;refine(u.out _ HB2.out).mono ?_;rintro e J ⟨rfl,g⟩;go_wp2_with fail;go_ret
   exact⟨aY (by simp),bT HB1.out (bT HB2.out g)⟩
def uJ(ms:List aj)(cs:List ao)(day:Int)(s:ByteArray)(w:World)(e:Ending)(w':World):Prop:=∃(v:Value) (r:Int) (n:Nat) (l:List ByteArray),e=.returned (.tuple #[v,iv r])∧BW w w'∧w'.ownsRow w.heap.size 9 1 v n (l.map .string)∧n=l.length∧(r=0↔(bS (ab ms) (an cs)∧inB 0 40000 day=true)∧hasP (aA day (ab ms) (an cs)) s=true)∧(r=0→l=jH (aA day (ab ms) (an cs)) s (aA day (ab ms) (an cs)).length)∧(r≠0→l=[]∧(r=4∨¬(bS (ab ms) (an cs)∧inB 0 40000 day=true)))
theorem uK{ms:List aj}{cs:List ao}{day:Int}{s:ByteArray}{w w':World}{r:Int}(a:r≠0)(c:¬((bS (ab ms) (an cs)∧inB 0 40000 day=true)∧hasP (aA day (ab ms) (an cs)) s=true))(b:r=4∨¬(bS (ab ms) (an cs)∧inB 0 40000 day=true))(d:BW w w'):uJ ms cs day s w (.returned (.tuple #[.slice none 0 0,iv r])) w' :=
 ⟨.slice none 0 0,r,0,[],rfl,d,World.ownsRow_nil _ _ _ _,rfl,⟨fun h=>absurd h a,fun h=>absurd h c⟩,fun h=>absurd h a,fun _=>⟨rfl,b⟩⟩
theorem uL(A C:Option Addr)(ms:List aj)(cs:List ao)(B cap a:Nat)(day:Int)(s:ByteArray)(w:World)(G:B≤w.heap.size)(H:az w B A cap ms)(J:de w B C a cs)(K:∀c∈cs,Lit.wf (.int .i64 c.what)=true) :
  Cs 42 #[.agg #[.slice A ms.length cap,.slice C cs.length a],iv day,.string s] w (uJ ms cs day s w):=by
 obtain⟨z,p,M⟩:=nA w (.cells #[.slice A ms.length cap,.slice C cs.length a] 27);obtain⟨W2,hW2,b2⟩:=nA z (.cells #[.string s] 9);obtain⟨gp,hgp⟩:=ex w.heap.size;obtain⟨g5,hg5⟩:=ex z.heap.size;have zB:z.heap.size=w.heap.size+1:=by rw[←p];simp
 have O:aa z gp 27 #[.slice A ms.length cap,.slice C cs.length a]:=by rw[←p,←hgp];exact aa.new w 27 _
 have R:aa W2 g5 9 #[.string s]:=by rw[←hW2,←hg5];exact aa.new z 9 _
 have q:=O.keep b2;have b3:=bT M b2;have HOP:Hid (Cs 12 #[.agg #[.slice A ms.length cap,.slice C cs.length a],iv day] W2 (mj ms cs day W2)):=Lq (pB A C ms cs B cap a day W2 (lT G b3.size) (H.below b3 G) (J.below b3 G) K);have HB3:=Lq b3;have HQ5:=Lq R;have x0:=q.c 0;have x1:=q.c 1;clear H J K M b2 b3 O R q zB;go_enter Tryz.func42,Tryz.ntmps42
 go_wp2_with fail;refine HOP.out.mono ?_;rintro e S ⟨r,Ax,n,c,rfl,j,m,o⟩;obtain⟨Wa,W4,hWa,hW4,hb4,hqa,hba,hq4⟩:=gg S 62 (.slice none 0 0) (.slice Ax n c);obtain⟨g8,hg8⟩:=ex S.heap.size;rw[hg8]at hW4 hqa hq4;have HB34:=Lq hb4;have HIFF:=Lq m;have HYES:=Lq o;have HQ8:=Lq hq4;have HQ54:=Lq ((HQ5.out.keep j).keep hb4);have HB4:=Lq (bT HB3.out (bT j hb4));have af:=hqa.frozen 0;have ac:=hqa.c 0;have al:=hqa.lt;clear j m o hb4 hqa hba hq4 x0 x1;by_cases hr:r=0
 ·subst hr;have X:=HQ8.out.c 0;have m5:=HQ54.out.c 0;obtain⟨out,rfl,hps,hsl⟩:=HYES.out rfl;have HPL:=Lq (HIFF.out.1 rfl);have hso:aE (ab out):=hps▸kT HPL.out.1 day;have h12:out.length≤12:=by
   have h:=hso.len
   simpa using h
  have F:=Lq hso;have HPS:=Lq hps;have HSL:=Lq ((hsl.below HB34.out (lr _)).more HB34.out.size);obtain⟨ri,hri⟩:=ex (ct (ab out) s);have HF:Hid (∀W,BW W4 W→Cs 88 #[pT g8 0,.string s] W (Rt W (iv ri))):=Lq fun W j=>by have h2:=(HSL.out.below j (lr _)).more j.size;exact hri▸jK Ax out W.heap.size c g8 s W (lr _) (lT h2.le h2.max) h2.rd ((HQ8.out.keep j).c 0)
  have L:=Lq hri;clear hps hsl hso hri HYES HIFF;go_wp2_with fail;refine(HF.out _ (bR _)).mono ?_;rintro e w5 ⟨rfl,(HB5:Hid _)⟩;clear af ac al X m5 hWa hW4 hg8 p hW2 hgp hg5;have HB05:=Lq (bT HB4.out HB5.out);by_cases hr0:ri<0
  ·go_wp2_with fail
   go_ret2
   refine uK (by decide) (fun h=>?_) (.inl rfl) HB05.out
   have U:=iO.1 (by rw[L.out];exact hr0:ct (ab out) s<0)
   rw[←HPS.out,U]at h;cases h.2
  ·have N:hasP (ab out) s=true:=by
    cases h:hasP (ab out) s with
    | true=>rfl
    | false=>have:=iO.2 h;rw[L.out]at this;exact absurd this hr0
   have T:=Lq N;obtain⟨Wb,W6,hWb,hW6,hb6,hqb,hbb,hq6⟩:=gg w5 168 .nilFunc (.func (.func 89) #[] #[pT g5 0,pT w5.heap.size 0,pT g8 0]);obtain⟨g9,f⟩:=ex w5.heap.size;rw[f]at hW6 hqb hq6;have HB6:=Lq hb6;have hb56:=bT HB5.out hb6;have HQ8':=Lq (HQ8.out.keep hb56);have HQ9:=Lq hq6;have HOV:Hid (mT W6 g5 g9 g8 s Ax c out):=Lq ⟨(HQ54.out.keep hb56).c 0,hq6.c 0,(HQ8.out.keep hb56).c 0,(HSL.out.below hb56 (lr _)).more hb56.size⟩;have af:=hqb.frozen 0;have ac:=hqb.c 0;have al:=hqb.lt;have m8:=HQ8'.out.c 0;have HB06:=Lq (bT HB4.out hb56);clear N hb6 hqb hbb hq6 hb56;obtain⟨i9,hi9,hz90,hz91,hz92⟩:=info_parts Tryz.info9;go_wp2_with fail;clear af ac al m8 hWb hW6 f;go_loopw [6,31] (fun v i wr=>∃k:Nat,k≤out.length∧i=iv k∧Hid (wr.ownsRow W6.heap.size 9 1 v (jH (ab out) s k).length ((jH (ab out) s k).map .string))∧Hid (BW W6 wr)) (fun _ i _=>out.length-(intOf i).toNat)
   case atStart=>exact⟨0,Nat.zero_le _,rfl,Lq (World.ownsRow_nil _ _ _ _),Lq (bR _)⟩
   case round =>
    obtain⟨k,Z,rfl,u,d⟩:=hrel;have hk0:=nn k;by_cases hlt:k<out.length
    ·obtain⟨y,E⟩:=gX (l:=out) (i:=k) hlt;have hov:=HOV.out.below d.out;obtain⟨b,off,hA,hbB,hMy,c0,c1,c2,c3,c4,c5,c6⟩:=hov.sl.rd.at E;have hsu:=BF (s:=s) (bN E);obtain⟨bo,hbo⟩:=ex (jn (ab out) s k);have HCO:Hid (∀W,BW wr W→Cs 89 #[mV y,pT g5 0,pT g9 0,pT g8 0] W (Rt W (.bool bo))):=Lq fun W j=>hbo▸Dn g5 g9 g8 c s Ax out W6 HOV.out F.out (k+1) k y (by omega) E W (bT d.out j)
     rw[hbo]at hsu;have x:=Lq hsu;have HLN:Hid ((jH (ab out) s k).length≤k):=Lq (by unfold jH;exact lT (List.length_filterMap_le _ _) (by simp))
     have D:=(HQ9.out.keep d.out).c 0;obtain⟨⟨yn,yk,yf,yl,yon,yw,yz⟩,yA,yc⟩:=y;subst hA;simp only at c0 c1 c2 c3 c4 c5 c6 HCO;obtain⟨Wc,W7,hWc,hW7,hb7,hqc,hbc,hq7⟩:=mi wr yn yk yf yl yw yz yA yc yon.length;obtain⟨g2,hg2⟩:=ex wr.heap.size;rw[hg2]at hW7 hqc hq7;have HB7:=Lq hb7;have HQ7:=Lq hq7;obtain⟨f0,f1,f2,f3,f4,f5,f6⟩:=hqc.f7;obtain⟨e0,e1,e2,e3,e4,e5,e6⟩:=hqc.c7;have el:=hqc.lt;obtain⟨d0,d1,d2,d3,d4,d5,d6⟩:=hq7.c7;have hfn7:=kC hb7 D;clear hMy E hb7 hqc hbc hq7 hov hbo hsu hbB;go_wp2_with fail;refine(HCO.out _ HB7.out).mono ?_;rintro e w8 ⟨rfl,hb8⟩;have HB8:=Lq (bT HB7.out hb8);have d0:=(HQ7.out.keep hb8).c 0;have HRW8:=Lq (aN u.out HB8.out);have HB68:=Lq (bT d.out HB8.out);clear hb8 c0 c1 c2 c3 c4 c5 c6 d1 d2 d3 d4 d5 d6 e0 e1 e2 e3 e4 e5 e6 f0 f1 f2 f3 f4 f5 f6 el hWc hW7 hg2 D hfn7;cases bo with
     | true =>
      have t:=Lq (HRW8.out.alloc (.cells #[.string yn] 9));have hln:=HLN.out;go_wp2_with (at_builtin;refine wpList_append_own _ rfl _ _ 40 rfl W6.heap.size 9 i9 (.string ⟨#[]⟩) 1 16 Tryz.underlying40 hi9 hz90 hz91 hz92 rfl (by decide) _ _ _ rfl t.out ⟨w8.heap.size,0,none⟩ 1 1 [.string yn] rfl rfl ?d1 ?d2 ?d3 ?d4 ?d5 ?_)
      case d1=>exact fK _ _ _
      case d2=>simp[Value.oneCell']
      case d3=>unfold maxLen;omega
      case d4=>omega
      case d5=>have:=HB68.out.size;simp only[World.size_alloc];omega
      intro v9 Y g f _;have hb9:BW W6 Y:=cC t.out f (lr _) (bA HB68.out _);have HB9:=Lq hb9;have HO9:=Lq g;clear g f hb9 d0;go_wp2_with fail;go_roundw
      case measure=>simp[intOf];omega
      case rel =>
       refine⟨k+1,by omega,by go_num,Lq ?_,HB9⟩
       rw[x.out,if_pos (by trivial),List.length_append,List.map_append]
       exact HO9.out
     | false =>
      go_wp2_with fail;go_roundw
      case measure=>simp[intOf];omega
      case rel =>
       refine⟨k+1,by omega,by go_num,Lq ?_,HB68⟩
       rw[x.out,if_neg (by simp),List.append_nil]
       exact HRW8.out
    ·obtain rfl:k=out.length:=by omega
     go_wp2_with fail
     go_ret2
     have I:(ab out).length=out.length:=by simp
     refine⟨_,0,_,jH (ab out) s out.length,rfl,bT HB06.out d.out,dv u.out HB06.out.size,rfl,⟨fun _=>⟨HPL.out,by rw[←HPS.out];exact T.out⟩,fun _=>rfl⟩,fun _=>by rw[←HPS.out,I],fun h=>absurd rfl h⟩
 ·have V:(r != 0)=true:=by simpa using hr
  go_wp2_with fail
  go_ret2
  exact uK hr (fun h=>hr (HIFF.out.2 h.1)) (.inr fun h=>hr (HIFF.out.2 h)) HB4.out
end Go.Proofs.YtbillnhcmkpohaaGreatDoor
namespace Go.Proofs.YtbillnhcmkpohaaGreatDoor
open Go.RowKit Go.ChangeShapes Go.WideShapes Go.Deep
section
variable{b0 fuel len:Nat}{c c1 v:Value}
theorem Do(w:World)(B:Nat):de w B none 0 []:=⟨fun i x h=>by simp at h,fun c h=>by simp at h,lr _,by decide⟩
theorem pE(b o k:Nat):Addr.add ⟨b,o,none⟩ k=⟨b,o+k,none⟩:=by
 unfold Addr.add;split
 ·rename_i h;simp_all
 ·simp
theorem rJ{w:World}{a:Addr}(h:w.cell? a=some v):a=⟨a.block,a.off,none⟩:=by
 obtain⟨b,o,s⟩:=a;cases s with
 | none=>rfl
 | some n =>
  exfalso;simp only[World.cell?]at h;split at h
  ·simp at h
  ·cases h
theorem uM{α:Type}{k:Nat}{encs:α→List Value}{W:World}(n:∀x,(encs x).length=k)(z:2≤k)(d:α→Prop){a:Addr}(l:∀i,i<len→∃c:α,d c∧∀(j:Nat) (u:Value),(encs c)[j]?=some u→W.cell? (a.add (i*k+j))=some u) :
  ∃xs:List α,xs.length=len∧(∀c∈xs,d c)∧aG k encs W W.heap.size (some a) xs:=by
 have p:=Classical.axiomOfChoice (r:=fun(i:Fin len) (c:α)=>d c∧∀(j:Nat) (u:Value),(encs c)[j]?=some u→W.cell? (a.add (i*k+j))=some u) fun i=>l i i.2
 obtain⟨f,g⟩:=p;refine⟨List.ofFn f,by simp,fun c hc=>?_,fun i c hc=>?_⟩
 ·obtain⟨i,rfl⟩:=List.mem_ofFn.1 hc;exact(g i).1
 ·have h:i<len:=by have:=(lG hc);simpa using this
  have q:f ⟨i,h⟩=c:=by rw[List.getElem?_ofFn,dif_pos h]at hc;exact Option.some.inj hc
  have b:=(g ⟨i,h⟩).2;rw[q]at b;have hcl:=n c;have hlast:=b (k-1) _ (gE (show k-1<(encs c).length by omega))
  have o:a=⟨a.block,a.off,none⟩:=by
   have t:=(g ⟨0,by omega⟩).2 0 _ (gE (show 0<(encs (f ⟨0,by omega⟩)).length by rw[n];omega))
   have s:=rJ t;have e:a.add (0*k+0)=a:=by unfold Addr.add;rw[if_pos (by simp)]
   simp only at s;rw[e]at s;exact s
  refine⟨a.block,a.off,by rw[←o], ?_,fun j u y=>?_⟩
  ·have m:=hlast;rw[o,pE]at m;exact br m
  ·have:=b j u y;rw[o,pE]at this;simp only[←Nat.add_assoc]at this;exact this
def gO{H:Type}(t:TypeId)(d:DataW H):Prop:=∀n∈d.weights Tryz.prog t,n≤reachBytes
theorem uN{H:Type}{P:Program}{e:TypeId}{d:DataW H}{n:Nat}(a:n∈d.weights P e):∀{l:List (DataW H)},d∈l→n∈DataW.weightsAll P e l
 | x::l,hd=>by
  simp only[DataW.weightsAll,List.mem_append];rcases List.mem_cons.1 hd with rfl | hd
  ·exact Or.inl a
  ·exact Or.inr (uN a hd)
theorem gO.elem{H:Type}{t e:TypeId}{a spare:List (DataW H)}{d:DataW H}(g:Tryz.prog.underlying t=some (.slice e))(h:gO t (.slice a spare))(b:d∈a):gO e d:=fun n f=>h n (by simp only[DataW.weights,g,List.mem_cons,List.mem_append];exact Or.inr (Or.inl (uN f b)))
theorem gO.size{H:Type}{t e:TypeId}{a spare:List (DataW H)}(b:Tryz.prog.underlying t=some (.slice e))(h:gO t (.slice a spare)):(a.length+spare.length)*Tryz.prog.bytesOf e≤reachBytes:=h _ (by simp only[DataW.weights,b];exact List.mem_cons_self)
theorem gO.part{H:Type}{t u:TypeId}{b:Array Field}{a:List (DataW H)}{d:DataW H}{j:Nat}(i:Tryz.prog.underlying t=some (.struct b))(h:gO t (.agg a))(k:(b.toList.map (·.type))[j]?=some u)(f:a[j]?=some d):gO u d:=fun n g=>h n (by simp only[DataW.weights,i];exact DataW.weights_mem_each k f n g)
theorem Tryz.cells3:Tryz.prog.cellsOf 3=1:=by kernel_rfl
theorem Tryz.cells9:Tryz.prog.cellsOf 9=1:=by kernel_rfl
theorem Tryz.cells28:Tryz.prog.cellsOf 28=1:=by kernel_rfl
theorem Tryz.cells22:Tryz.prog.cellsOf 22=1:=by kernel_rfl
theorem Tryz.cells24:Tryz.prog.cellsOf 24=1:=by kernel_rfl
theorem Tryz.cells25:Tryz.prog.cellsOf 25=1:=by kernel_rfl
theorem Tryz.cells27:Tryz.prog.cellsOf 27=2:=by kernel_rfl
theorem Tryz.cells33:Tryz.prog.cellsOf 33=2:=by kernel_rfl
theorem Tryz.cells40:Tryz.prog.cellsOf 40=1:=by kernel_rfl
theorem Tryz.cells50:Tryz.prog.cellsOf 50=7:=by kernel_rfl
theorem Tryz.cells68:Tryz.prog.cellsOf 68=10:=by kernel_rfl
theorem Tryz.bytes9:Tryz.prog.bytesOf 9=16:=by kernel_rfl
section
variable {H:Type} {enc:TypeId×Value→H} {W:World} {base:Nat} {spare:Nat→Bool} {held:Bool}
theorem uO{P:Program}{t:TypeId}{a b:Field}{cs:List Value}{x:DataW H×List MemPlace}(i:P.underlying t=some (.struct #[a,b]))(h:DataW.trod enc P W base spare held fuel t cs=some x) :
  ∃y0 y1 n,x.1=.agg [y0.1,y1.1]∧cs.length=P.cellsOf t∧DataW.trod enc P W base spare held n a.type ((cs.drop a.offset).take (P.cellsOf a.type))=some y0∧DataW.trod enc P W base spare held n b.type ((cs.drop b.offset).take (P.cellsOf b.type))=some y1:=by
 obtain⟨xs,n,_,rfl,g,d,f⟩:=DataW.trod_struct i h
 match xs,d with
 | [y0,y1],_=>exact⟨y0,y1,n,by simp,g,by simpa using f 0 a rfl,by simpa using f 1 b rfl⟩
theorem Dp{P:Program}{t:TypeId}{a b d f:Field}{cs:List Value}{x:DataW H×List MemPlace}(k:P.underlying t=some (.struct #[a,b,d,f]))(h:DataW.trod enc P W base spare held fuel t cs=some x) :
  ∃y0 y1 y2 y3 n,x.1=.agg [y0.1,y1.1,y2.1,y3.1]∧cs.length=P.cellsOf t∧DataW.trod enc P W base spare held n a.type ((cs.drop a.offset).take (P.cellsOf a.type))=some y0∧DataW.trod enc P W base spare held n b.type ((cs.drop b.offset).take (P.cellsOf b.type))=some y1∧DataW.trod enc P W base spare held n d.type ((cs.drop d.offset).take (P.cellsOf d.type))=some y2∧DataW.trod enc P W base spare held n f.type ((cs.drop f.offset).take (P.cellsOf f.type))=some y3:=by
 obtain⟨xs,n,_,rfl,j,g,i⟩:=DataW.trod_struct k h
 match xs,g with
 | [y0,y1,y2,y3],_=>exact⟨y0,y1,y2,y3,n,by simp,j,by simpa using i 0 a rfl,by simpa using i 1 b rfl,by simpa using i 2 d rfl,by simpa using i 3 f rfl⟩
theorem Dq{P:Program}{t:TypeId}{b d f g i j:Field}{cs:List Value}{x:DataW H×List MemPlace}(m:P.underlying t=some (.struct #[b,d,f,g,i,j]))(h:DataW.trod enc P W base spare held fuel t cs=some x) :
  ∃y0 y1 y2 y3 y4 y5 n,x.1=.agg [y0.1,y1.1,y2.1,y3.1,y4.1,y5.1]∧cs.length=P.cellsOf t∧DataW.trod enc P W base spare held n b.type ((cs.drop b.offset).take (P.cellsOf b.type))=some y0∧DataW.trod enc P W base spare held n d.type ((cs.drop d.offset).take (P.cellsOf d.type))=some y1∧DataW.trod enc P W base spare held n f.type ((cs.drop f.offset).take (P.cellsOf f.type))=some y2∧DataW.trod enc P W base spare held n g.type ((cs.drop g.offset).take (P.cellsOf g.type))=some y3∧DataW.trod enc P W base spare held n i.type ((cs.drop i.offset).take (P.cellsOf i.type))=some y4∧DataW.trod enc P W base spare held n j.type ((cs.drop j.offset).take (P.cellsOf j.type))=some y5:=by
 obtain⟨xs,n,_,rfl,l,k,a⟩:=DataW.trod_struct m h
 match xs,k with
 | [y0,y1,y2,y3,y4,y5],_=>exact⟨y0,y1,y2,y3,y4,y5,n,by simp,l,by simpa using a 0 b rfl,by simpa using a 1 d rfl,by simpa using a 2 f rfl,by simpa using a 3 g rfl,by simpa using a 4 i rfl,by simpa using a 5 j rfl⟩
theorem Dr{P:Program}{t:TypeId}{a b d:Field}{cs:List Value}{x:DataW H×List MemPlace}(j:P.underlying t=some (.struct #[a,b,d]))(h:DataW.trod enc P W base spare held fuel t cs=some x) :
  ∃y0 y1 y2 n,x.1=.agg [y0.1,y1.1,y2.1]∧cs.length=P.cellsOf t∧DataW.trod enc P W base spare held n a.type ((cs.drop a.offset).take (P.cellsOf a.type))=some y0∧DataW.trod enc P W base spare held n b.type ((cs.drop b.offset).take (P.cellsOf b.type))=some y1∧DataW.trod enc P W base spare held n d.type ((cs.drop d.offset).take (P.cellsOf d.type))=some y2:=by
 obtain⟨xs,n,_,rfl,i,f,g⟩:=DataW.trod_struct j h
 match xs,f with
 | [y0,y1,y2],_=>exact⟨y0,y1,y2,n,by simp,i,by simpa using g 0 a rfl,by simpa using g 1 b rfl,by simpa using g 2 d rfl⟩
theorem Ds{P:Program}{t:TypeId}{a:Field}{cs:List Value}{x:DataW H×List MemPlace}(g:P.underlying t=some (.struct #[a]))(h:DataW.trod enc P W base spare held fuel t cs=some x) :
  ∃y0 n,x.1=.agg [y0.1]∧cs.length=P.cellsOf t∧DataW.trod enc P W base spare held n a.type ((cs.drop a.offset).take (P.cellsOf a.type))=some y0:=by
 obtain⟨xs,n,_,rfl,f,b,d⟩:=DataW.trod_struct g h
 match xs,b with
 | [y0],_=>exact⟨y0,n,by simp,f,by simpa using d 0 a rfl⟩
theorem Dt{c0:Value}{x:DataW H×List MemPlace}(h:DataW.trod enc Tryz.prog W base spare held fuel 33 [c0,c1]=some x):∃lo hi:Int,c0=iv lo∧c1=iv hi:=by obtain⟨d,f,n,_,_,a,b⟩:=uO Tryz.underlying33 h;simp only[Tryz.cells3]at a b;obtain⟨lo,e0,_,_⟩:=DataW.trod_int Tryz.underlying3 a;obtain⟨hi,e1,_,_⟩:=DataW.trod_int Tryz.underlying3 b;exact⟨lo,hi,by simpa using e0,by simpa using e1⟩
theorem uP{x:DataW H×List MemPlace}(h:DataW.trod enc Tryz.prog W base spare held fuel 28 [c]=some x):∃n:Int,c=.int .u16 n∧0≤n∧n≤65535:=by obtain⟨n,e,_,a⟩:=DataW.trod_int Tryz.underlying28 h;have:=bounds_u16 a;exact⟨n,by simpa using e,this.1,this.2⟩
theorem Du{x:DataW H×List MemPlace}(h:DataW.trod enc Tryz.prog W base spare held fuel 40 [c]=some x)(l:gO 40 x.1) :
  ∃(A:Option Addr) (os:List ByteArray) (cap:Nat),c=.slice A os.length cap∧os.length≤cap∧cap≤maxLen∧am .string W W.heap.size A os∧(∀o∈os,o.size≤maxLen)∧os.length*16≤140737488351232:=by
 rcases open_strs Tryz.underlying40 Tryz.underlying9 Tryz.cells9 h with⟨e,_⟩ | ⟨a,len,cap,m,Sx,e,_,hlc,hcm,hm,hx,hcell⟩
 ·have f:c=.slice none 0 0:=List.head_eq_of_cons_eq e;rw[f];exact⟨none,[],0,rfl,lr _,Nat.zero_le _,am.nil,(fun _ h=>by cases h),by decide⟩
 ·have f:c=.slice (some a) len cap:=List.head_eq_of_cons_eq e;have hlm:len≤m:=by rw[hm];split<;>omega
  rw[hx]at l;have b:=l.size Tryz.underlying40;simp only[List.length_map,List.length_range,Tryz.bytes9]at b;have hsz2:len*16≤140737488351232:=by
   have p:reachBytes=140737488351232:=by decide
   rw[p]at b;omega
  rw[f];refine⟨some a,(List.range len).map Sx,cap,by simp,by simpa using hlc,hcm,fun i x d=>?_,fun o ho=>?_,by simpa using hsz2⟩
  ·have g:i<len:=by have:=(lG d);simpa using this
   have j:Sx i=x:=by simpa[g]using d
   have hc:=(hcell i (by omega)).1
   have k:a=⟨a.block,a.off,none⟩:=by
    have n:=(hcell 0 (by omega)).1
    simpa[Addr.add]using rJ n
   rw[k,pE]at hc;rw[j]at hc;exact⟨a.block,a.off,by rw[←k],br hc,hc⟩
  ·obtain⟨i,q,rfl⟩:=List.mem_map.1 ho;exact(hcell i (by have:=List.mem_range.1 q;omega)).2
theorem uQ{cs:List Value}{x:DataW H×List MemPlace}(q:cs.length=7)(h:DataW.trod enc Tryz.prog W base spare held fuel 50 cs=some x)(p:gO 50 x.1):∃m:aj,cs=aJ m∧aR W W.heap.size m:=by
 match cs,q with
 | [c0,c1,c2,c3,c4,c5,c6],_ =>
  obtain⟨r,t,u,y,z,B,n,ex,_,f,g,i,k,l,o⟩:=Dq Tryz.underlying50 h;simp only[Tryz.cells9,Tryz.cells3,Tryz.cells40,Tryz.cells33]at f g i k l o;rw[ex]at p;obtain⟨s,e0,_,hs⟩:=DataW.trod_string Tryz.underlying9 f;obtain⟨kind,e1,_,_⟩:=DataW.trod_int Tryz.underlying3 (cs:=[c1]) g;obtain⟨fst,e2,_,_⟩:=DataW.trod_int Tryz.underlying3 (cs:=[c2]) i;obtain⟨lst,e3,_,_⟩:=DataW.trod_int Tryz.underlying3 (cs:=[c3]) k;obtain⟨A,os,cap,e4,ho1,ho2,ho3,ho4,ho5⟩:=Du (c:=c4) l (p.part Tryz.underlying50 (j:=4) rfl rfl);obtain⟨wlo,whi,e5,e6⟩:=Dt (c0:=c5) (c1:=c6) o;have e0':c0=.string s:=by simpa using e0
  have a:c1=iv kind:=by simpa using e1
  have b:c2=iv fst:=by simpa using e2
  have d:c3=iv lst:=by simpa using e3
  subst e0' a b d e4 e5 e6;exact⟨⟨⟨s,kind,fst,lst,os,wlo,whi⟩,A,cap⟩,rfl,⟨ho3,ho1,ho2,hs,ho4,ho5⟩⟩
theorem Dv{x:DataW H×List MemPlace}(h:DataW.trod enc Tryz.prog W base spare held fuel 22 [c]=some x)(l:gO 22 x.1) :
  ∃(A:Option Addr) (ms:List aj) (cap:Nat),c=.slice A ms.length cap∧ms.length≤cap∧cap≤maxLen∧(A=none→cap=0)∧cF W W.heap.size A ms:=by
 rcases open_slice Tryz.underlying22 (cs:=[c]) h with⟨e,_⟩ | ⟨a,len,cap,m,n2,D,Pl,e,_,hlc,hcm,hm,hx,hi2⟩
 ·have o:c=.slice none 0 0:=List.head_eq_of_cons_eq e;rw[o];exact⟨none,[],0,rfl,lr _,Nat.zero_le _,(fun _=>rfl),⟨aG.nil,fun _ h=>by cases h⟩⟩
 ·have s:len≤m:=by rw[hm];split<;>omega
  rw[hx]at l;obtain⟨xs,g,p,q⟩:=uM (W:=W) (a:=a) (len:=len) (k:=7) (encs:=aJ) (fun _=>rfl) (by decide) (fun m=>aR W W.heap.size m) (fun i hil=>by
   obtain⟨n,hc,f⟩:=hi2 i (by omega)
   rw[Tryz.cells50]at hc;obtain⟨_,d,b⟩:=World.cells?_some hc;obtain⟨c,rfl,hs⟩:=uQ d f (l.elem Tryz.underlying22 (List.mem_map.2 ⟨i,List.mem_range.2 hil,rfl⟩));refine⟨c,hs,fun j u hu=>?_⟩
   have r:j<7:=(lG hu);rw[←Go.Deep.add_add,b j r,hu])
  exact⟨some a,xs,cap,by rw[g];exact List.head_eq_of_cons_eq e,by omega,hcm,(fun h=>by cases h),⟨q,p⟩⟩
theorem Dw{cs:List Value}{x:DataW H×List MemPlace}(l:cs.length=10)(h:DataW.trod enc Tryz.prog W base spare held fuel 68 cs=some x)(k:gO 68 x.1):∃c:ao,cs=ld c∧(aR W W.heap.size c.part∧c.name.size≤maxLen)∧Lit.wf (.int .i64 c.what)=true:=by
 match cs,l with
 | [c0,c1,c2,c3,c4,c5,c6,c7,c8,c9],_ =>
  obtain⟨o,p,q,r,n,ex,_,d,f,g,i⟩:=Dp Tryz.underlying68 h;simp only[Tryz.cells9,Tryz.cells3,Tryz.cells50]at d f g i;rw[ex]at k;obtain⟨what,e0,_,hw⟩:=DataW.trod_int Tryz.underlying3 (cs:=[c0]) d;obtain⟨day,e1,_,_⟩:=DataW.trod_int Tryz.underlying3 (cs:=[c1]) f;obtain⟨s,e2,_,hs⟩:=DataW.trod_string Tryz.underlying9 (cs:=[c2]) g;obtain⟨m,e3,hm⟩:=uQ (cs:=[c3,c4,c5,c6,c7,c8,c9]) rfl i (k.part Tryz.underlying68 (j:=3) rfl rfl);have e0':c0=iv what:=by simpa using e0
  have a:c1=iv day:=by simpa using e1
  have b:c2=.string s:=by simpa using e2
  injection e3 with e3 e3b
  injection e3b with e4 e3b
  injection e3b with e5 e3b
  injection e3b with e6 e3b
  injection e3b with e7 e3b
  injection e3b with e8 e3b
  injection e3b with e9 e3b
  subst e0' a b e3 e4 e5 e6 e7 e8 e9;exact⟨⟨what,day,s,m⟩,rfl,⟨hm,hs⟩,hw⟩
theorem Dx{x:DataW H×List MemPlace}(h:DataW.trod enc Tryz.prog W base spare held fuel 25 [c]=some x)(n:gO 25 x.1) :
  ∃(A:Option Addr) (cs:List ao) (cap:Nat),c=.slice A cs.length cap∧de W W.heap.size A cap cs∧∀c∈cs,Lit.wf (.int .i64 c.what)=true:=by
 rcases open_slice Tryz.underlying25 (cs:=[c]) h with⟨e,_⟩ | ⟨a,len,cap,m,n2,D,Pl,e,_,hlc,hcm,hm,hx,hi2⟩
 ·have p:c=.slice none 0 0:=List.head_eq_of_cons_eq e;rw[p];exact⟨none,[],0,rfl,Do _ _,fun _ h=>by cases h⟩
 ·have s:len≤m:=by rw[hm];split<;>omega
  rw[hx]at n;obtain⟨xs,g,l,q⟩:=uM (W:=W) (a:=a) (len:=len) (k:=10) (encs:=ld) (fun _=>rfl) (by decide) (fun c=>(aR W W.heap.size c.part∧c.name.size≤maxLen)∧Lit.wf (.int .i64 c.what)=true) (fun i hil=>by
   obtain⟨o,hc,f⟩:=hi2 i (by omega)
   rw[Tryz.cells68]at hc;obtain⟨_,d,b⟩:=World.cells?_some hc;obtain⟨c,rfl,hs,hw⟩:=Dw d f (n.elem Tryz.underlying25 (List.mem_map.2 ⟨i,List.mem_range.2 hil,rfl⟩));refine⟨c,⟨hs,hw⟩,fun j u hu=>?_⟩
   have r:j<10:=(lG hu);rw[←Go.Deep.add_add,b j r,hu])
  exact⟨some a,xs,cap,by rw[g];exact List.head_eq_of_cons_eq e,⟨q,fun c hc=>(l c hc).1,by omega,hcm⟩,fun c hc=>(l c hc).2⟩
theorem Tryz.leaves27:Tryz.prog.cellTypes Tryz.prog.depth 27=some [22,25]:=by kernel_rfl
theorem Dy{a:Addr}{cap:Nat}(i:Value.okWide Tryz.prog W .any b0 27 (.agg #[.slice (some a) len cap,c1])):a.spot=none∧a.block<W.heap.size:=by
 unfold Value.okWide at i;rw[Tryz.underlying27]at i;obtain⟨cs,e,_,m,b,_,hc⟩:=i;injection e with e
 subst e;rw[Tryz.leaves27]at b;injection b with b
 subst b;obtain⟨u,k,f⟩:=hc 0 _ rfl;have hu2:u=22:=by simpa using k.symm
 subst hu2;unfold Cell.okWide at f;rw[Tryz.underlying22]at f;unfold Cell.ok at f;rw[Tryz.underlying22]at f;obtain⟨_,_,_,j,l,g,d,_⟩:=f;refine⟨j, ?_⟩;unfold World.shape? at d;have hlt:∃o,W.heap[a.block]?=some o:=by
  cases h:W.heap[a.block]? with
  | none=>rw[h]at d;simp at d
  | some o=>exact⟨o,rfl⟩
 obtain⟨o,h⟩:=hlt;exact(Array.getElem?_eq_some_iff.1 h).1
theorem Dz{d:DataW H}{p:List MemPlace}(i:Value.okWide Tryz.prog W .any b0 27 v)(h:DataW.Trod enc Tryz.prog W base spare held 27 v d p)(b:gO 27 d) :
  ∃(A C:Option Addr) (ms:List aj) (cs:List ao) (cap capc:Nat),v=.agg #[.slice A ms.length cap,.slice C cs.length capc]∧az W W.heap.size A cap ms∧de W W.heap.size C capc cs∧∀c∈cs,Lit.wf (.int .i64 c.what)=true:=by
 have g:=i;obtain⟨arr,rfl,hsz⟩:=okWide_struct Tryz.underlying27 i;obtain⟨l⟩:=arr;replace hsz:=hsz.trans Tryz.cells27
 match l,hsz with
 | [c0,c1],_ =>
  obtain⟨fuel,f⟩:=h;obtain⟨y0,y1,n,ex,_,h0,h1⟩:=uO Tryz.underlying27 f;simp only at ex;rw[ex]at b;simp only[Tryz.cells24,Tryz.cells25]at h0 h1;have hf0:=b.part Tryz.underlying27 (j:=0) rfl rfl;obtain⟨z0,n2,ex2,_,h2⟩:=Ds Tryz.underlying24 (cs:=[c0]) h0;rw[ex2]at hf0;simp only[Tryz.cells22]at h2;obtain⟨A,ms,cap,e0,p1,p2,p3,p4⟩:=Dv (c:=c0) h2 (hf0.part Tryz.underlying24 (j:=0) rfl rfl);obtain⟨C,cs,capc,e1,q1,q2⟩:=Dx (c:=c1) h1 (b.part Tryz.underlying27 (j:=1) rfl rfl);subst e0 e1;exact⟨A,C,ms,cs,cap,capc,rfl,⟨p4,p1,p2,p3,fun a ha=>by subst ha;exact Dy g⟩,q1,q2⟩
end
theorem Tryz.laidOut:laidOutB Tryz.prog=true:=by kernel_rfl
end
theorem Tryz.cells51:Tryz.prog.cellsOf 51=1:=by kernel_rfl
theorem Tryz.cells29:Tryz.prog.cellsOf 29=1:=by kernel_rfl
theorem Tryz.cells31:Tryz.prog.cellsOf 31=3:=by kernel_rfl
section
variable {H:Type} {enc:TypeId×Value→H} {W:World} {base:Nat} {spare:Nat→Bool} {held:Bool}
theorem DA{b:Nat}{c:Value}{x:DataW H×List MemPlace}(h:DataW.trod enc Tryz.prog W base spare held b 29 [c]=some x) :
  ∃(U:Option Addr) (us:List Int) (cap:Nat),c=.slice U us.length cap∧us.length≤maxLen∧(∀t∈us,0≤t∧t≤4294967295)∧am (Value.int .u32) W W.heap.size U us:=by
 rcases open_ints Tryz.underlying29 Tryz.underlying51 Tryz.cells51 h with⟨e,_⟩ | ⟨a,len,cap,zs,e,_,hlc,hcm,hzl,_,hcell,hwf⟩
 ·have d:c=.slice none 0 0:=List.head_eq_of_cons_eq e;rw[d];exact⟨none,[],0,rfl,Nat.zero_le _,by intro x hx;simp at hx,am.nil⟩
 ·have d:c=.slice (some a) len cap:=List.head_eq_of_cons_eq e;rw[d];have hlz:len≤zs.length:=by rw[hzl];split<;>omega
  have j:(zs.take len).length=len:=by rw[List.length_take];omega
  refine⟨some a,zs.take len,cap,by rw[j],by rw[j];omega,fun x hx=>?_,fun i x hx=>?_⟩
  ·have:=hwf x (List.mem_of_mem_take hx);simp[Lit.wf]at this;have e1:IntKind.u32.min=0:=by decide
   have m:IntKind.u32.max=4294967295:=by decide
   omega
  ·have f:i<len:=by have:=(lG hx);omega
   rw[List.getElem?_take,if_pos f]at hx;have hc:=hcell i (by omega)
   have l:zs.getD i 0=x:=by rw[List.getD_eq_getElem?_getD,hx];rfl
   rw[l]at hc;have g:a=⟨a.block,a.off,none⟩:=by
    have k:=hcell 0 (by omega)
    simpa[Addr.add]using rJ k
   rw[g,pE]at hc;exact⟨a.block,a.off,by rw[←g],br hc,hc⟩
theorem DB{i:Nat}{v:Value}{d:DataW H}{p:List MemPlace}(j:Value.okWide Tryz.prog W .any i 31 v)(h:DataW.Trod enc Tryz.prog W base spare held 31 v d p) :
  ∃(xd xb:Int) (U:Option Addr) (us:List Int) (cap:Nat),v=.agg #[.int .u16 xd,.int .u16 xb,.slice U us.length cap]∧(0≤xd∧xd≤65535)∧us.length≤maxLen∧(∀t∈us,0≤t∧t≤4294967295)∧am (Value.int .u32) W W.heap.size U us:=by
 obtain⟨b,rfl,a⟩:=okWide_struct Tryz.underlying31 j;obtain⟨l⟩:=b;replace a:=a.trans Tryz.cells31
 match l,a with
 | [c0,c1,c2],_ =>
  obtain⟨g,f⟩:=h;obtain⟨y0,y1,y2,n,_,_,h0,h1,h2⟩:=Dr Tryz.underlying31 f;simp only[Tryz.cells28,Tryz.cells29]at h0 h1 h2;obtain⟨xd,rfl,hd⟩:=uP (c:=c0) h0;obtain⟨xb,rfl,_⟩:=uP (c:=c1) h1;obtain⟨U,us,cap,rfl,p1,p2,p3⟩:=DA (c:=c2) h2;exact⟨xd,xb,U,us,cap,rfl,hd,p1,p2,p3⟩
end
end Go.Proofs.YtbillnhcmkpohaaGreatDoor
namespace Go.Proofs.YtbillnhcmkpohaaGreatDoor
open Go.RowKit
section
variable{day:Int}{cs:List ao}{m ms:List aj}
def lx(day:Int)(ms:List aj)(cs:List ao)(k:Nat)(m:List aj):Prop:=∃lf last,dd day (ab ms) ((an cs).take k)=some (lf,last,ab m)∧(last≤day→lf=ab m)∧aE lf∧aE (ab m)
theorem lx.next{k:Nat}{c:ao}(o:bS (ab ms) (an cs))(h:lx day ms cs k m)(hc:cs[k]?=some c) :
  (c.day≤day→∃l',bL (ab m) c.c=some l'∧∀out:List aj,ab out=l'→lx day ms cs (k+1) out)∧(¬c.day≤day→lx day ms cs (k+1) m):=by
 obtain⟨p,last,g,i,j,n⟩:=h;have hcc:(an cs)[k]?=some c.c:=by unfold an;rw[List.getElem?_map,hc];rfl
 have d:=nP (day:=day) (l:=ab ms) hcc;rw[g]at d;have hne:dd day (ab ms) ((an cs).take (k+1))≠none:=fun e=>by have h5:=qH e;have h6:=o.run;rw[oX 0 day,h5]at h6;cases h6
 rw[d]at hne;obtain⟨x,hx⟩:=Option.ne_none_iff_exists'.1 hne;rw[hx]at d;obtain⟨o1,o2⟩:=tq j n hx;unfold fa at hx;simp only at hx;split at hx
 ·rename_i f;have hle:last≤c.day:=by
   unfold inB at f;simp at f;exact f.1
  cases hg:bL p c.c with
  | none=>rw[hg]at hx;cases hx
  | some l' =>
   rw[hg]at hx;injection hx with hx
   subst hx;refine⟨fun a=>?_,fun a=>?_⟩
   ·have e:=i (Int.le_trans hle a);rw[e]at hg;have b:c.c.day≤day:=a;simp only[if_pos b]at d o2;exact⟨l',hg,fun out ho=>⟨l',c.day,by rw[d,ho];rfl,fun _=>ho.symm,o1,by rw[ho];exact o2⟩⟩
   ·have b:¬c.c.day≤day:=a;simp only[if_neg b]at d o2;exact⟨l',c.day,d,fun h=>absurd h a,o1,o2⟩
 ·cases hx
theorem lx.done(h:lx day ms cs cs.length m):ab m=aA day (ab ms) (an cs):=by obtain⟨b,last,a, -⟩:=h;rw[List.take_of_length_le (Nat.le_of_eq (List.length_map _))]at a;unfold aA;rw[a]
def DC(day:Int)(ms:List aj)(cs:List ao)(w:World)(e:Ending)(w':World):Prop:=∃(out:List aj) (A':Option Addr) (c':Nat),e=.returned (.slice A' out.length c')∧ab out=aA day (ab ms) (an cs)∧az w' w'.heap.size A' c' out∧BW w w'
theorem DD(A C:Option Addr)(ms:List aj)(cs:List ao)(B cap a:Nat)(day:Int)(w:World)(x:B≤w.heap.size)(H:az w B A cap ms)(E:de w B C a cs)(F:bS (ab ms) (an cs)) :
  Cs 7 #[.agg #[.slice A ms.length cap,.slice C cs.length a],iv day] w (DC day ms cs w):=by
 obtain⟨n,y,j⟩:=nA w (.cells #[.slice A ms.length cap,.slice C cs.length a] 27);have hq:aa n w.heap.size 27 #[.slice A ms.length cap,.slice C cs.length a]:=by rw[←y];exact aa.new w 27 _
 have S:Hid (az n n.heap.size A cap ms):=Lq ((H.below j x).more (lT x j.size));have HCC:Hid (de n n.heap.size C a cs):=Lq ((E.below j x).more (lT x j.size));have HB1:=Lq j;have HPL:=Lq F;have hc9:cs.length≤9223372036854775807:=by have:=E.le;have:=E.max;simp only[maxLen]at this;omega
 obtain⟨g,N⟩:=ex w.heap.size;rw[N]at hq;have HX:Hid (∀W,BW n W→cA W g 0 (.slice A ms.length cap)∧cA W g 1 (.slice C cs.length a)∧g<W.heap.size):=Lq fun W hb=>have k:=hq.keep hb;⟨k.c 0,k.c 1,k.lt⟩
 obtain⟨K,L,q⟩:=HX.out _ (bR n);have HR0:Hid (lx day ms cs 0 ms):=Lq ⟨ab ms,0,rfl,fun _=>rfl,F.ship,F.ship⟩
 clear H E F j hq x;go_enter Tryz.func7,Tryz.ntmps7
 go_wp2_with fail;clear y N;go_loopw [5,6] (fun v i wr=>∃(k:Nat) (d:List aj) (t:Option Addr) (u:Nat),k≤cs.length∧i=iv k∧v=.slice t d.length u∧Hid (az wr wr.heap.size t u d)∧Hid (lx day ms cs k d)∧Hid (BW n wr)) (fun _ i _=>cs.length-(intOf i).toNat)
 case atStart=>exact⟨0,ms,A,cap,Nat.zero_le _,rfl,rfl,S,HR0,Lq (bR _)⟩
 case round =>
  clear K L q HR0;obtain⟨k,d,t,u,U,rfl,rfl,p,o,f⟩:=hrel;obtain⟨K,L,q⟩:=HX.out _ f.out;have hk0:=nn k;by_cases hlt:k<cs.length
  ·obtain⟨c,hc⟩:=gX (l:=cs) (i:=k) hlt;obtain⟨b,off,hA,hbB,hMc,hcn,c0,c1,c2,c3,c4,c5,c6,c7,c8,c9⟩:=(HCC.out.below f.out (lr _)).at hc;have HN:=Lq (o.out.next HPL.out hc);have HMC:=Lq (hMc.more f.out.size);have hso:aE (ab d):=by
    obtain⟨_,_,_,_,_,h⟩:=o.out;exact h
   have G:=Lq hso;clear hc hMc hso;obtain⟨wh,dy,nm,⟨⟨yn,yk,yf,yl,yon,yw,yz⟩,yA,yc⟩⟩:=c;subst hA;simp only at c0 c1 c2 c3 c4 c5 c6 c7 c8 c9 hcn;by_cases hd:dy≤day
   ·obtain⟨V,s,z⟩:=HN.out.1 hd;have hch:=tP t d ⟨wh,dy,nm,⟨⟨yn,yk,yf,yl,yon,yw,yz⟩,yA,yc⟩⟩ wr.heap.size u wr (lr _) p.out HMC.out hcn G.out (ro s);have HCH:=Lq hch;have HLX:=Lq (And.intro s z);clear hch s z;go_wp2_with fail;refine HCH.out.mono ?_;rintro e w4 ⟨r,v4,rfl,hb4,hno,hyes⟩;obtain rfl:r=0:=by
     rcases Classical.em (r=0)with h | h
     ·exact h
     ·have M:=hno h;rw[HLX.out.1]at M;cases M
    obtain⟨D,R,J,rfl,hx,O⟩:=hyes rfl;rw[HLX.out.1]at hx;injection hx with hx
    have I:=Lq O;have HRN:=Lq (HLX.out.2 D hx.symm);have HB4:=Lq (bT f.out hb4);clear hb4 hno hyes hx O K L q c0 c1 c2 c3 c4 c5 c6 c7 c8 c9;go_wp2_with fail;go_roundw
    case rel=>exact⟨k+1,D,R,J,by omega,by go_num,rfl,I,HRN,HB4⟩
    case measure=>simp[intOf];omega
   ·have T:decide (dy≤day)=false:=decide_eq_false hd;have HRN:=Lq (HN.out.2 hd);go_wp2_with fail;go_roundw
    case rel=>exact⟨k+1,d,t,u,by omega,by go_num,rfl,p,HRN,f⟩
    case measure=>simp[intOf];omega
  ·obtain rfl:k=cs.length:=by omega
   go_wp2_with fail;go_ret
   exact⟨d,t,u,rfl,o.out.done,p.out,bT HB1.out f.out⟩
end
end Go.Proofs.YtbillnhcmkpohaaGreatDoor
namespace Go.Proofs.YtbillnhcmkpohaaGreatDoor
open Go.RowKit
open Go.Sort Go.Lib
section
variable{B B' g k:Nat}{A:Option Addr}{a w:World}
structure cu where
 ms:List aj
 A:Option Addr
 cap:Nat
def dr(s:cu):Value:=.slice s.A s.ms.length s.cap
structure fQ(w:World)(B:Nat)(A:Option Addr)(shs:List cu):Prop where
 rd:am dr w B A shs
 ok:∀s∈shs,az w B s.A s.cap s.ms
theorem fQ.below{W:World}{b:List cu}(h:fQ w B A b)(d:Below B' w W)(c:B≤B'):fQ W B A b:=⟨h.rd.below d c,fun s f=>(h.ok s f).below d c⟩
theorem fQ.more{b:List cu}(h:fQ w B A b)(c:B≤B'):fQ w B' A b:=⟨h.rd.more c,fun s d=>(h.ok s d).more c⟩
def mX(s:cu):List ByteArray:=(ab s.ms).map ah.name
def bU(shs:List cu):List ByteArray:=shs.flatMap mX
def fv(l:List ByteArray):List ByteArray:=(Lib.compact ((l.map fun s=>s.data.toList).mergeSort fun x y=>decide (x≤y))).map fun c=>⟨c.toArray⟩
theorem vn{b:List cu}{s:cu}(h:b[k]?=some s):bU (b.take (k+1))=bU (b.take k)++mX s:=by unfold bU;rw[List.take_add_one,h];simp
theorem DP{ms:List aj}{m:aj}(h:ms[k]?=some m):(ab (ms.take (k+1))).map ah.name=(ab (ms.take k)).map ah.name++[m.p.name]:=by rw[List.take_add_one,h];simp
theorem DQ{b:List cu}{s:cu}(h:b[k]?=some s)(j:Nat):(bU (b.take k)).length+((ab (s.ms.take j)).map ah.name).length≤(bU b).length:=by
 have c:(bU (b.take (k+1))).length≤(bU b).length:=by
  conv=>rhs;rw[←List.take_append_drop (k+1) b]
  unfold bU;rw[List.flatMap_append,List.length_append];omega
 rw[vn h,List.length_append]at c;have d:((ab (s.ms.take j)).map ah.name).length≤(mX s).length:=by unfold mX;simp only[List.length_map,List.length_take];omega
 omega
section
theorem vo(h:RowKit.Below a.heap.size a w)(c:a.heap.size≤g)(b:Nat)(d:Array (List UInt8)):RowKit.Below a.heap.size a (putRow encStr w g b d) :=
 h.trans ⟨rfl,rfl,rfl,by simp[putRow,mapBlock],fun k f=>by simp only[putRow,mapBlock,Array.getElem?_modify];rw[if_neg (by omega)]⟩
theorem DR(h:RowKit.Below a.heap.size a w)(os:Array Obj):RowKit.Below a.heap.size a (grow w os) :=
 h.trans ⟨rfl,rfl,rfl,by simp,fun k b=>heap_grow_old w os (lz b h.size)⟩
theorem vq(h:RowKit.Below a.heap.size a w)(n:Nat):RowKit.Below a.heap.size a (Go.Sort.ahead w n):=⟨h.os,h.tape,h.output,h.size,h.block⟩
theorem DS{base:Nat}{e:TypeId}{cap n:Nat}{xs:List ByteArray}(c:n=xs.length)(h:w.ownsRow base e 1 (.slice (some ⟨g,0,none⟩) n cap) n (xs.map .string)) :
  Holds encStr w g 0 (xs.map fun s=>s.data.toList).toArray:=by
 subst c;intro j b;have hj':j<xs.length:=by simpa using b
 refine⟨?_,by rw[Nat.zero_add];exact h.frozenAt j⟩
 rw[Nat.zero_add,h.cellAt j (by omega),List.getElem?_map,gE hj']
 simp[hj',encStr]
theorem DT{l:List (List UInt8)}{ext:List (List UInt8)}(h:Holds encStr w g 0 (l++ext).toArray)(b:g<w.heap.size):am .string w w.heap.size (some ⟨g,0,none⟩) (l.map fun c=>(⟨c.toArray⟩:ByteArray)):=by
 intro i x hx;refine⟨g,0,rfl,b, ?_⟩;rw[List.getElem?_map]at hx;cases hl:l[i]? with
 | none=>rw[hl]at hx;cases hx
 | some c =>
  rw[hl]at hx;injection hx with hx
  subst hx;obtain⟨d,rfl⟩:=List.getElem?_eq_some_iff.1 hl;have h1:=(h i (by simp;omega)).1
  rw[h1,getElem!_pos _ _ (by simp;omega)]
  simp[encStr,List.getElem_append_left d]
end
theorem vt(b:List (List UInt8)):(Lib.compact b).length≤b.length:=by unfold Lib.compact Lib.compactUpTo;rw[List.length_map];have:=List.length_filter_le (Lib.keeps b.toArray) (List.range b.length);rw[List.length_range]at this;exact this
theorem vu(A:Option Addr)(d:List cu)(B cap:Nat)(w:World)(hB:B≤w.heap.size)(hm:d.length≤maxLen)(H:fQ w B A d)(V:0<(bU d).length)(X:(bU d).length≤1000) :
  Cs 94 #[.slice A d.length cap] w fun e w'=>∃g c,e=.returned (.slice (some ⟨g,0,none⟩) (fv (bU d)).length c)∧am .string w' w'.heap.size (some ⟨g,0,none⟩) (fv (bU d))∧(fv (bU d)).length≤c∧c≤maxLen∧BW w w'∧w.heap.size≤g:=by
 unfold maxLen at hm;have HH:=Lq H;have H0:=Lq V;have H9:=Lq X;obtain⟨i9,hi9,hz90,hz91,hz92⟩:=info_parts Tryz.info9;clear H V X;go_enter Tryz.func94,Tryz.ntmps94
 go_wp2_with fail;go_loopw [2,9] (fun v i wr=>∃k:Nat,k≤d.length∧i=iv k∧Hid (wr.ownsRow w.heap.size 9 1 v (bU (d.take k)).length ((bU (d.take k)).map .string))∧Hid (BW w wr)) (fun _ i _=>d.length-(intOf i).toNat)
 case atStart=>exact⟨0,Nat.zero_le _,rfl,Lq (World.ownsRow_nil _ _ _ _),Lq (bR _)⟩
 case round =>
  obtain⟨k,hk,rfl,K,u⟩:=hrel;have hk0:=nn k;by_cases hlt:k<d.length
  ·obtain⟨s,U⟩:=gX (l:=d) (i:=k) hlt;obtain⟨b,off,rfl,_,c0⟩:=(HH.out.rd.below u.out hB) k s U;have HSL:Hid (∀W,BW w W→az W B s.A s.cap s.ms):=Lq fun W hb=>(HH.out.ok s (mG ⟨k,U⟩)).below hb hB
   have G:Hid (∀j,(bU (d.take k)).length+((ab (s.ms.take j)).map ah.name).length≤1000):=Lq fun j=>lT (DQ U j) H9.out
   have N:=Lq (vn U);obtain⟨sms,sA,scap⟩:=s;simp only[dr]at c0 HSL G N;obtain⟨Wa,W2,hWa,hW2,hb2,hqa,hba,hq2⟩:=gg wr 62 (.slice none 0 0) (.slice sA sms.length scap);obtain⟨g4,hg4⟩:=ex wr.heap.size;rw[hg4]at hW2 hqa hq2;have HB2:=Lq hb2;have af:=hqa.frozen 0;have ac:=hqa.c 0;have al:=hqa.lt;have d0:=hq2.c 0;have HRW2:=Lq (aN K.out hb2);clear U hb2 hqa hba hq2;go_wp2_with fail;clear c0 af ac al d0 hWa hW2 hg4;go_loopw [2,17] (fun v i wr2=>∃j:Nat,j≤sms.length∧i=iv j∧Hid (wr2.ownsRow w.heap.size 9 1 v (bU (d.take k)++(ab (sms.take j)).map ah.name).length ((bU (d.take k)++(ab (sms.take j)).map ah.name).map .string))∧Hid (BW w wr2)) (fun _ i _=>sms.length-(intOf i).toNat)
   case atStart=>exact⟨0,Nat.zero_le _,rfl,Lq (by simpa using HRW2.out),Lq (bT u.out HB2.out)⟩
   case round =>
    obtain⟨j,hj,rfl,J,t⟩:=hrel;have hj0:=nn j;by_cases hjl:j<sms.length
    ·obtain⟨y,hy⟩:=gX (l:=sms) (i:=j) hjl;obtain⟨b2,off2,hA,hbB,hMy,c0,c1,c2,c3,c4,c5,c6⟩:=(HSL.out wr t.out).rd.at hy;have HN1:=Lq (DP hy);have hle:(bU (d.take k)).length+j≤1000:=by
      have h:=G.out j
      simpa[Nat.min_eq_left hj]using h
     have r:=Lq hle;obtain⟨⟨yn,yk,yf,yl,yon,yw,yz⟩,yA,yc⟩:=y;subst hA;simp only at c0 c1 c2 c3 c4 c5 c6;obtain⟨Wc,W7,hWc,hW7,hb7,hqc,hbc,hq7⟩:=mi wr yn yk yf yl yw yz yA yc yon.length;obtain⟨g2,hg2⟩:=ex wr.heap.size;rw[hg2]at hW7 hqc hq7;have HB7:=Lq (bT t.out hb7);obtain⟨f0,f1,f2,f3,f4,f5,f6⟩:=hqc.f7;obtain⟨e0,e1,e2,e3,e4,e5,e6⟩:=hqc.c7;have el:=hqc.lt;have d0:=hq7.c 0;have HAL:=Lq ((aN J.out hb7).alloc (.cells #[.string yn] 9));clear hMy hy hb7 hqc hbc hq7 hbB;go_wp2_with (at_builtin;refine wpList_append_own _ rfl _ _ 40 rfl w.heap.size 9 i9 (.string ⟨#[]⟩) 1 16 Tryz.underlying40 hi9 hz90 hz91 hz92 rfl (by decide) _ _ _ rfl HAL.out ⟨W7.heap.size,0,none⟩ 1 1 [.string yn] rfl rfl (fK _ _ _) ?d2 ?d3 ?d4 ?d5 ?_)
     case d2=>simp[Value.oneCell']
     case d3=>unfold maxLen;omega
     case d4=>omega
     case d5=>have:=HB7.out.size;(try simp only[World.size_alloc]);omega
     intro v9 w9 m S _;have hb9:BW w w9:=cC HAL.out S (lr _) (bA HB7.out _);have HB9:=Lq hb9;have HO9:=Lq m;clear m S hb9 c0 c1 c2 c3 c4 c5 c6 d0 e0 e1 e2 e3 e4 e5 e6 f0 f1 f2 f3 f4 f5 f6 el hWc hW7 hg2;go_wp2_with fail;go_roundw
     case measure=>simp[intOf];omega
     case rel =>
      refine⟨j+1,by omega,by go_num,Lq ?_,HB9⟩
      rw[HN1.out,←List.append_assoc]
      simpa[Nat.min_eq_left hj,Nat.add_assoc]using HO9.out
    ·obtain rfl:j=sms.length:=by omega
     go_wp2_with fail;go_roundw
     case measure=>simp[intOf];omega
     case rel =>
      refine⟨k+1,by omega,by go_num,Lq ?_,t⟩
      have h:=J.out;rw[List.take_of_length_le (lr _)]at h;rw[N.out];exact h
  ·obtain rfl:k=d.length:=by omega
   have f:=K.out;rw[List.take_of_length_le (lr _)]at f;have V:=H0.out;have X:=H9.out;obtain⟨zs,hzs⟩:=ex (bU d);obtain⟨L,hL⟩:=ex (fv (bU d));rw[hzs]at f V X;have HTN:=Lq hL;have HT:Hid (fv zs=L):=by rw[hzs]at hL;exact Lq hL
   obtain⟨g,c,rfl,C,D,ag⟩:=gI f (by omega)
   have ae:c≤maxLen:=by
    obtain⟨A9,c9,h1,_,_,h3⟩:=qV f;injection h1 with _ _ h1
    subst h1;exact h3
   have hH:=DS rfl f;have hsc:=Go.Proofs.Tryz.slices_Sort_string g 0 c (zs.map fun s=>s.data.toList) wr hH D (by simp;omega)
   simp only[List.length_map]at hsc;obtain⟨os,o⟩:=ex ((zs.map fun s=>s.data.toList).mergeSort fun x y=>decide (x≤y))
   have T:os.length=zs.length:=by rw[←o,List.length_mergeSort,List.length_map]
   rw[o]at hsc;have I:Hid ((Lib.compact os).map (fun c=>(⟨c.toArray⟩:ByteArray))=L):=by rw[←HT.out];unfold fv;rw[o];exact Lq rfl
   have F:=Lq (fun(n:Nat) (oo:Array Obj)=>Go.Sort.holds_grow Go.Proofs.encStr (Go.Sort.putRow Go.Proofs.encStr (Go.Sort.ahead wr n) g 0 os.toArray) oo g 0 os.toArray (by simpa using D) (Go.Sort.holds_putRow Go.Proofs.encStr (Go.Sort.ahead wr n) g 0 (zs.map fun s=>s.data.toList).toArray os.toArray (Go.Sort.holds_ahead _ _ _ _ _ _ hH) (by simp;omega)))
   have E:=Lq (fun(n:Nat) (oo:Array Obj)=>DR (vo (g:=g) (vq u.out n) C 0 os.toArray) oo)
   have M:=Lq hsc;have HOL:=Lq T;have HHG:=Lq (fun(n:Nat) (oo:Array Obj)=>(show g<(Go.Sort.grow (Go.Sort.putRow Go.Proofs.encStr (Go.Sort.ahead wr n) g 0 os.toArray) oo).heap.size from lz D (by simp[Go.Sort.putRow,Go.Sort.mapBlock])))
   clear hsc T o hH f hL hzs;go_wp2_with fail;refine M.out.mono ?_;rintro e Y ⟨rfl,nn,p,rfl⟩;have hH5:=F.out nn p;have hb5:=E.out nn p;have hg5:=HHG.out nn p;obtain⟨Y,hw5⟩:=ex (Go.Sort.grow (Go.Sort.putRow Go.Proofs.encStr (Go.Sort.ahead wr nn) g 0 os.toArray) p);rw[hw5]at hH5 hb5 hg5 ⊢;rw[←HOL.out];have hcc2:=Go.Proofs.Tryz.slices_Compact_string g 0 c os Y hH5 (by rw[HOL.out];omega) (by rw[HOL.out];omega)
   have z:(Lib.compact os).length=L.length:=by rw[←I.out,List.length_map]
   have R:(Lib.compact os).length≤os.length:=vt os;have HC2:=Lq hcc2;have HH6:=Lq (fun q=>Go.Sort.holds_putRow Go.Proofs.encStr (Go.Sort.ahead Y q) g 0 os.toArray (Lib.compact os++List.replicate (os.length-(Lib.compact os).length) []).toArray (Go.Sort.holds_ahead _ _ _ _ _ _ hH5) (by simp;omega))
   have Z:=Lq (fun q=>vo (g:=g) (vq hb5 q) C 0 (Lib.compact os++List.replicate (os.length-(Lib.compact os).length) []).toArray)
   have ad:=Lq (fun q=>(show g<(Go.Sort.putRow Go.Proofs.encStr (Go.Sort.ahead Y q) g 0 (Lib.compact os++List.replicate (os.length-(Lib.compact os).length) []).toArray).heap.size from lz hg5 (by simp[Go.Sort.putRow,Go.Sort.mapBlock])))
   have aa:Hid (L.length≤c):=Lq (by rw[←z];have:=HOL.out;omega)
   have O:(Lib.compact os).length=L.length:=z;have r:=Lq O;clear hH5 hb5 hcc2 hw5 M F E z R hg5 O;go_wp2_with fail;refine HC2.out.mono ?_;rintro e w6 ⟨rfl,q,rfl⟩;go_wp2_with fail;go_ret
   rw[HTN.out];refine⟨g,c, ?_, ?_,aa.out,ae,Z.out q,C⟩
   ·show Ending.returned (.slice (some ⟨g,0,none⟩) (Lib.compact os).length c)=_
    rw[r.out]
   rw[←I.out];exact DT (HH6.out q) (ad.out q)
theorem vw(A:Option Addr)(b:List cu)(B cap:Nat)(w:World)(n:B≤w.heap.size)(o:b.length≤maxLen)(H:fQ w B A b)(d:0<(bU b).length)(m:(bU b).length≤1000) :
  Cs 94 #[.slice A b.length cap] w fun e w'=>∃g c,e=.returned (.slice (some ⟨g,0,none⟩) (fv (bU b)).length c)∧am .string w' w'.heap.size (some ⟨g,0,none⟩) (fv (bU b))∧(fv (bU b)).length≤c∧c≤maxLen∧BW w w' :=
 (vu A b B cap w n o H d m).mono fun _ _ ⟨g,c,f,h,i,j,l,_⟩=>⟨g,c,f,h,i,j,l⟩
end
end Go.Proofs.YtbillnhcmkpohaaGreatDoor
namespace Go.Proofs.YtbillnhcmkpohaaGreatDoor
open Go.RowKit
section
variable{xn yn:ByteArray}{Q:Exit→Act→World→Prop}{xf xk xl xw xz yf yk yl yw yz:Int}{ba bb ca cb g8 g9 gx gy i k na nb oa ob xc xo yc yo:Nat}{xA yA:Option Addr}{zA zB zK zL zM zP zQ zR zS zT zC zU zV zW zX zY zZ za zb zc zd zD ze zf zg zh zi zj zk zl zm zn zE zo zp zq zr zs zt zu zv zw zx zF zy zz zAA zAB zAC zAD zAE zAF zAG zAH zG zH zAU zAV zAW zAX zAY zAZ zAa zAb zAc zAd zAe zAf zAg zAh zAi zAj zAk zAl:Value}{V w:World}
noncomputable def oc:Array Oper:=aU (aF Tryz.f43 13)
abbrev od(V:World)(g8 g9 ba oa bb ob na nb ca cb i k xo yo xc yc:Nat)(xn yn:ByteArray)(xk xf xl xw xz yk yf yl yw yz:Int)(xA yA:Option Addr):Prop:=∀W,BW V W→(fun W=>cA W g9 0 (.slice (some ⟨ba,oa,none⟩) na ca)∧cA W g8 0 (.slice (some ⟨bb,ob,none⟩) nb cb)∧cA W ba (oa+i*7) (.string xn)∧cA W ba (oa+i*7+1) (iv xk)∧cA W ba (oa+i*7+2) (iv xf)∧cA W ba (oa+i*7+3) (iv xl)∧cA W ba (oa+i*7+4) (.slice xA xo xc)∧cA W ba (oa+i*7+5) (iv xw)∧cA W ba (oa+i*7+6) (iv xz)∧cA W bb (ob+k*7) (.string yn)∧cA W bb (ob+k*7+1) (iv yk)∧cA W bb (ob+k*7+2) (iv yf)∧cA W bb (ob+k*7+3) (iv yl)∧cA W bb (ob+k*7+4) (.slice yA yo yc)∧cA W bb (ob+k*7+5) (iv yw)∧cA W bb (ob+k*7+6) (iv yz)) W
abbrev oe(Q:Exit→Act→World→Prop)(V:World)(g8 g9 i k xo yo xc yc:Nat)(xn yn:ByteArray)(xk xf xl xw xz yk yf yl yw yz:Int)(xA yA:Option Addr)(zA zB zC zD zE zF zG zH zK zL zM zR zS zT zU zV zW zX zY zZ za zb zc zd ze zf zg zh zi zj zk zl zm zn zo zp zq zr zs zt zu zv zw zx zy zz zAA zAB zAC zAD zAE zAF zAG zAH zAU zAV zAW zAX zAY zAZ zAa zAb zAc zAd zAe zAf zAg zAh zAi zAj zAk zAl:Value):Prop:=∀u60 u61 u62 u63 u64 u65 u66 u67 u68 u69 u70 u71 gx gy W',BW V W'→V.heap.size≤gx→V.heap.size≤gy→gx≠gy→aa W' gx 50 #[.string xn,iv xk,iv xf,iv xl,.slice xA xo xc,iv xw,iv xz]→aa W' gy 50 #[.string yn,iv yk,iv yf,iv yl,.slice yA yo yc,iv yw,iv yz]→Q .normal ⟨#[zA,zB,zC,zD,zE,zF,zG,zH,.pointer (some ⟨g8,0,none⟩),.pointer (some ⟨g9,0,none⟩),zK,zL,zM,iv i,iv k,.pointer (some ⟨gx,0,none⟩),.pointer (some ⟨gy,0,none⟩),zR,zS,zT,zU,zV,zW,zX,zY,zZ,za,zb,zc,zd,ze,zf,zg,zh,zi,zj,zk,zl,zm,zn,zo,zp,zq,zr,zs,zt,zu,zv,zw,zx,zy,zz,zAA,zAB,zAC,zAD,zAE,zAF,zAG,zAH,u60,u61,u62,u63,u64,u65,u66,u67,u68,u69,u70,u71,zAU,zAV,zAW,zAX,zAY,zAZ,zAa,zAb,zAc,zAd,zAe,zAf,zAg,zAh,zAi,zAj,zAk,zAl],[]⟩ W'
theorem vx(r:Hid (i<na∧k<nb))(p:Hid (od V g8 g9 ba oa bb ob na nb ca cb i k xo yo xc yc xn yn xk xf xl xw xz yk yf yl yw yz xA yA))(s:Hid (oe Q V g8 g9 i k xo yo xc yc xn yn xk xf xl xw xz yk yf yl yw yz xA yA zA zB zC zD zE zF zG zH zK zL zM zR zS zT zU zV zW zX zY zZ za zb zc zd ze zf zg zh zi zj zk zl zm zn zo zp zq zr zs zt zu zv zw zx zy zz zAA zAB zAC zAD zAE zAF zAG zAH zAU zAV zAW zAX zAY zAZ zAa zAb zAc zAd zAe zAf zAg zAh zAi zAj zAk zAl))(q:Hid (BW V w))(a:Hid (V.heap.size≤gx∧aa w gx 50 #[.string ⟨#[]⟩,iv 0,iv 0,iv 0,.slice none 0 0,iv 0,iv 0]))(d:Hid (V.heap.size≤gy∧aa w gy 50 #[.string ⟨#[]⟩,iv 0,iv 0,iv 0,.slice none 0 0,iv 0,iv 0]))(f:Hid (gx≠gy)) :
  wpAnyH Tryz.prog .any oc (NoPanic Q) (fun W=>cA W g9 0 (.slice (some ⟨ba,oa,none⟩) na ca)∧cA W g8 0 (.slice (some ⟨bb,ob,none⟩) nb cb)∧cA W ba (oa+i*7) (.string xn)∧cA W ba (oa+i*7+1) (iv xk)∧cA W ba (oa+i*7+2) (iv xf)∧cA W ba (oa+i*7+3) (iv xl)∧cA W ba (oa+i*7+4) (.slice xA xo xc)∧cA W ba (oa+i*7+5) (iv xw)∧cA W ba (oa+i*7+6) (iv xz)∧cA W bb (ob+k*7) (.string yn)∧cA W bb (ob+k*7+1) (iv yk)∧cA W bb (ob+k*7+2) (iv yf)∧cA W bb (ob+k*7+3) (iv yl)∧cA W bb (ob+k*7+4) (.slice yA yo yc)∧cA W bb (ob+k*7+5) (iv yw)∧cA W bb (ob+k*7+6) (iv yz)) 2 #[true,true,true,true,true,true,true,true,true,true,true,true,true,true,false,false] ⟨#[zA,zB,zC,zD,zE,zF,zG,zH,.pointer (some ⟨g8,0,none⟩),.pointer (some ⟨g9,0,none⟩),zK,zL,zM,iv i,iv k,.pointer (some ⟨gx,0,none⟩),.pointer (some ⟨gy,0,none⟩),zR,zS,zT,zU,zV,zW,zX,zY,zZ,za,zb,zc,zd,ze,zf,zg,zh,zi,zj,zk,zl,zm,zn,zo,zp,zq,zr,zs,zt,zu,zv,zw,zx,zy,zz,zAA,zAB,zAC,zAD,zAE,zAF,zAG,zAH,.pointer (some ⟨g9,0,none⟩),.pointer (some ⟨g9,0,none⟩),.slice (some ⟨ba,oa,none⟩) na ca,iv i,.pointer (some ⟨ba,oa+i*7,none⟩),.agg #[.string xn,iv xk,iv xf,iv xl,.slice xA xo xc,iv xw,iv xz],.pointer (some ⟨g8,0,none⟩),.pointer (some ⟨g8,0,none⟩),.slice (some ⟨bb,ob,none⟩) nb cb,iv k,.pointer (some ⟨bb,ob+k*7,none⟩),.agg #[.string yn,iv yk,iv yf,iv yl,.slice yA yo yc,iv yw,iv yz],zAU,zAV,zAW,zAX,zAY,zAZ,zAa,zAb,zAc,zAd,zAe,zAf,zAg,zAh,zAi,zAj,zAk,zAl],[]⟩ w:=by
 have u:=r;have hne:gx≠gy:=f.out;refine rd1 14 fun t hK=>?_
 obtain⟨g,h,j,l,m,n,o⟩:=a.out.2.f7;obtain⟨e0,e1,e2,e3,e4,e5,e6⟩:=a.out.2.c7;have el:=a.out.2.lt;obtain⟨w1,hw1⟩:=ex (((((((w.setCell ⟨gx,0,none⟩ (.string xn)).setCell ⟨gx,1,none⟩ (iv xk)).setCell ⟨gx,2,none⟩ (iv xf)).setCell ⟨gx,3,none⟩ (iv xl)).setCell ⟨gx,4,none⟩ (.slice xA xo xc)).setCell ⟨gx,5,none⟩ (iv xw)).setCell ⟨gx,6,none⟩ (iv xz));have o1:ai w w1 gx:=by rw[←hw1];exact((((((((ai.of_below (bR w) gx).set 0 _).set 1 _).set 2 _).set 3 _).set 4 _).set 5 _).set 6 _)
 have b:aa w1 gx 50 #[.string xn,iv xk,iv xf,iv xl,.slice xA xo xc,iv xw,iv xz]:=by rw[←hw1];exact nW _ _ _ _ _ _ _ a.out.2
 have c:=d.out.2.same (o1.block gy d.out.2.lt (Ne.symm hne));have HB1:Hid (BW V w1):=Lq (o1.below q.out a.out.1);have HX1:=Lq b;have HY1:=Lq c;clear b c o1;go_simp;refine hK.out _ _ (p.out _ HB1.out) (fun _=>?_)
 clear hK hw1 g h j l m n o e0 e1 e2 e3 e4 e5 e6 el;refine rd1 15 fun t hK=>?_
 obtain⟨g,h,j,l,m,n,o⟩:=HY1.out.f7;obtain⟨e0,e1,e2,e3,e4,e5,e6⟩:=HY1.out.c7;have el:=HY1.out.lt;obtain⟨w2,hw2⟩:=ex (((((((w1.setCell ⟨gy,0,none⟩ (.string yn)).setCell ⟨gy,1,none⟩ (iv yk)).setCell ⟨gy,2,none⟩ (iv yf)).setCell ⟨gy,3,none⟩ (iv yl)).setCell ⟨gy,4,none⟩ (.slice yA yo yc)).setCell ⟨gy,5,none⟩ (iv yw)).setCell ⟨gy,6,none⟩ (iv yz));have o2:ai w1 w2 gy:=by rw[←hw2];exact((((((((ai.of_below (bR w1) gy).set 0 _).set 1 _).set 2 _).set 3 _).set 4 _).set 5 _).set 6 _)
 have b:aa w2 gy 50 #[.string yn,iv yk,iv yf,iv yl,.slice yA yo yc,iv yw,iv yz]:=by rw[←hw2];exact nW _ _ _ _ _ _ _ HY1.out
 have c:=HX1.out.same (o2.block gx HX1.out.lt hne);have HB2:Hid (BW V w2):=Lq (o2.below HB1.out d.out.1);have HX2:=Lq c;have HY2:=Lq b;clear b c o2;go_simp;refine hK.out _ _ (p.out _ HB2.out) (fun _=>?_)
 clear hK hw2 g h j l m n o e0 e1 e2 e3 e4 e5 e6 el;exact dn (s.out _ _ _ _ _ _ _ _ _ _ _ _ _ _ _ HB2.out a.out.1 d.out.1 hne HX2.out HY2.out)
theorem DU(h:Hid (i<na∧k<nb))(g:Hid (od V g8 g9 ba oa bb ob na nb ca cb i k xo yo xc yc xn yn xk xf xl xw xz yk yf yl yw yz xA yA))(j:Hid (oe Q V g8 g9 i k xo yo xc yc xn yn xk xf xl xw xz yk yf yl yw yz xA yA zA zB zC zD zE zF zG zH zK zL zM zR zS zT zU zV zW zX zY zZ za zb zc zd ze zf zg zh zi zj zk zl zm zn zo zp zq zr zs zt zu zv zw zx zy zz zAA zAB zAC zAD zAE zAF zAG zAH zAU zAV zAW zAX zAY zAZ zAa zAb zAc zAd zAe zAf zAg zAh zAi zAj zAk zAl))(f:Hid (BW V w))(b:Hid (V.heap.size≤gx∧aa w gx 50 #[.string ⟨#[]⟩,iv 0,iv 0,iv 0,.slice none 0 0,iv 0,iv 0])) :
  wpAnyH Tryz.prog .any oc (NoPanic Q) (fun W=>cA W g9 0 (.slice (some ⟨ba,oa,none⟩) na ca)∧cA W g8 0 (.slice (some ⟨bb,ob,none⟩) nb cb)∧cA W ba (oa+i*7) (.string xn)∧cA W ba (oa+i*7+1) (iv xk)∧cA W ba (oa+i*7+2) (iv xf)∧cA W ba (oa+i*7+3) (iv xl)∧cA W ba (oa+i*7+4) (.slice xA xo xc)∧cA W ba (oa+i*7+5) (iv xw)∧cA W ba (oa+i*7+6) (iv xz)∧cA W bb (ob+k*7) (.string yn)∧cA W bb (ob+k*7+1) (iv yk)∧cA W bb (ob+k*7+2) (iv yf)∧cA W bb (ob+k*7+3) (iv yl)∧cA W bb (ob+k*7+4) (.slice yA yo yc)∧cA W bb (ob+k*7+5) (iv yw)∧cA W bb (ob+k*7+6) (iv yz)) 3 #[true,true,true,true,true,true,true,true,true,true,true,true,true,false,false,false] ⟨#[zA,zB,zC,zD,zE,zF,zG,zH,.pointer (some ⟨g8,0,none⟩),.pointer (some ⟨g9,0,none⟩),zK,zL,zM,iv i,iv k,.pointer (some ⟨gx,0,none⟩),zQ,zR,zS,zT,zU,zV,zW,zX,zY,zZ,za,zb,zc,zd,ze,zf,zg,zh,zi,zj,zk,zl,zm,zn,zo,zp,zq,zr,zs,zt,zu,zv,zw,zx,zy,zz,zAA,zAB,zAC,zAD,zAE,zAF,zAG,zAH,.pointer (some ⟨g9,0,none⟩),.pointer (some ⟨g9,0,none⟩),.slice (some ⟨ba,oa,none⟩) na ca,iv i,.pointer (some ⟨ba,oa+i*7,none⟩),.agg #[.string xn,iv xk,iv xf,iv xl,.slice xA xo xc,iv xw,iv xz],.pointer (some ⟨g8,0,none⟩),.pointer (some ⟨g8,0,none⟩),.slice (some ⟨bb,ob,none⟩) nb cb,iv k,.pointer (some ⟨bb,ob+k*7,none⟩),.agg #[.string yn,iv yk,iv yf,iv yl,.slice yA yo yc,iv yw,iv yz],zAU,zAV,zAW,zAX,zAY,zAZ,zAa,zAb,zAc,zAd,zAe,zAf,zAg,zAh,zAi,zAj,zAk,zAl],[]⟩ w:=by
 refine rd1 13 (fun l hK=>?_)
 ·skip;go_simp;have d:=bA (bR w) (.cells #[.string ⟨#[]⟩,iv 0,iv 0,iv 0,.slice none 0 0,iv 0,iv 0] 50);have hq:=aa.new w 50 #[.string ⟨#[]⟩,iv 0,iv 0,iv 0,.slice none 0 0,iv 0,iv 0];obtain⟨w1,hw1⟩:=ex (w.alloc (.cells #[.string ⟨#[]⟩,iv 0,iv 0,iv 0,.slice none 0 0,iv 0,iv 0] 50));obtain⟨gy,hg1⟩:=ex w.heap.size;rw[hw1]at d hq;rw[hg1]at hq;rw[hw1,hg1];have HY:Hid (V.heap.size≤gy∧aa w1 gy 50 #[.string ⟨#[]⟩,iv 0,iv 0,iv 0,.slice none 0 0,iv 0,iv 0]):=Lq ⟨by rw[←hg1];exact f.out.size,hq⟩
  have c:Hid (gx≠gy):=Lq ((by have:=b.out.2.lt;omega))
  have a:=Lq (bT f.out d);have b:Hid (V.heap.size≤gx∧aa w1 gx 50 #[.string ⟨#[]⟩,iv 0,iv 0,iv 0,.slice none 0 0,iv 0,iv 0]):=Lq (⟨b.out.1,b.out.2.keep d⟩);refine hK.out _ _ (g.out _ a.out) (fun _=>?_)
  exact vx h g j a b HY c
theorem DV(h:Hid (i<na∧k<nb))(g:Hid (od V g8 g9 ba oa bb ob na nb ca cb i k xo yo xc yc xn yn xk xf xl xw xz yk yf yl yw yz xA yA))(j:Hid (oe Q V g8 g9 i k xo yo xc yc xn yn xk xf xl xw xz yk yf yl yw yz xA yA zA zB zC zD zE zF zG zH zK zL zM zR zS zT zU zV zW zX zY zZ za zb zc zd ze zf zg zh zi zj zk zl zm zn zo zp zq zr zs zt zu zv zw zx zy zz zAA zAB zAC zAD zAE zAF zAG zAH zAU zAV zAW zAX zAY zAZ zAa zAb zAc zAd zAe zAf zAg zAh zAi zAj zAk zAl))(f:Hid (BW V w))(b:Hid (V.heap.size≤gy∧aa w gy 50 #[.string ⟨#[]⟩,iv 0,iv 0,iv 0,.slice none 0 0,iv 0,iv 0])) :
  wpAnyH Tryz.prog .any oc (NoPanic Q) (fun W=>cA W g9 0 (.slice (some ⟨ba,oa,none⟩) na ca)∧cA W g8 0 (.slice (some ⟨bb,ob,none⟩) nb cb)∧cA W ba (oa+i*7) (.string xn)∧cA W ba (oa+i*7+1) (iv xk)∧cA W ba (oa+i*7+2) (iv xf)∧cA W ba (oa+i*7+3) (iv xl)∧cA W ba (oa+i*7+4) (.slice xA xo xc)∧cA W ba (oa+i*7+5) (iv xw)∧cA W ba (oa+i*7+6) (iv xz)∧cA W bb (ob+k*7) (.string yn)∧cA W bb (ob+k*7+1) (iv yk)∧cA W bb (ob+k*7+2) (iv yf)∧cA W bb (ob+k*7+3) (iv yl)∧cA W bb (ob+k*7+4) (.slice yA yo yc)∧cA W bb (ob+k*7+5) (iv yw)∧cA W bb (ob+k*7+6) (iv yz)) 3 #[true,true,true,true,true,true,true,true,true,true,true,true,false,true,false,false] ⟨#[zA,zB,zC,zD,zE,zF,zG,zH,.pointer (some ⟨g8,0,none⟩),.pointer (some ⟨g9,0,none⟩),zK,zL,zM,iv i,iv k,zP,.pointer (some ⟨gy,0,none⟩),zR,zS,zT,zU,zV,zW,zX,zY,zZ,za,zb,zc,zd,ze,zf,zg,zh,zi,zj,zk,zl,zm,zn,zo,zp,zq,zr,zs,zt,zu,zv,zw,zx,zy,zz,zAA,zAB,zAC,zAD,zAE,zAF,zAG,zAH,.pointer (some ⟨g9,0,none⟩),.pointer (some ⟨g9,0,none⟩),.slice (some ⟨ba,oa,none⟩) na ca,iv i,.pointer (some ⟨ba,oa+i*7,none⟩),.agg #[.string xn,iv xk,iv xf,iv xl,.slice xA xo xc,iv xw,iv xz],.pointer (some ⟨g8,0,none⟩),.pointer (some ⟨g8,0,none⟩),.slice (some ⟨bb,ob,none⟩) nb cb,iv k,.pointer (some ⟨bb,ob+k*7,none⟩),.agg #[.string yn,iv yk,iv yf,iv yl,.slice yA yo yc,iv yw,iv yz],zAU,zAV,zAW,zAX,zAY,zAZ,zAa,zAb,zAc,zAd,zAe,zAf,zAg,zAh,zAi,zAj,zAk,zAl],[]⟩ w:=by
 refine rd1 12 (fun l hK=>?_)
 ·skip;go_simp;have d:=bA (bR w) (.cells #[.string ⟨#[]⟩,iv 0,iv 0,iv 0,.slice none 0 0,iv 0,iv 0] 50);have hq:=aa.new w 50 #[.string ⟨#[]⟩,iv 0,iv 0,iv 0,.slice none 0 0,iv 0,iv 0];obtain⟨w1,hw1⟩:=ex (w.alloc (.cells #[.string ⟨#[]⟩,iv 0,iv 0,iv 0,.slice none 0 0,iv 0,iv 0] 50));obtain⟨gx,hg1⟩:=ex w.heap.size;rw[hw1]at d hq;rw[hg1]at hq;rw[hw1,hg1];have HX:Hid (V.heap.size≤gx∧aa w1 gx 50 #[.string ⟨#[]⟩,iv 0,iv 0,iv 0,.slice none 0 0,iv 0,iv 0]):=Lq ⟨by rw[←hg1];exact f.out.size,hq⟩
  have c:Hid (gx≠gy):=Lq ((by have:=b.out.2.lt;omega))
  have a:=Lq (bT f.out d);have b:Hid (V.heap.size≤gy∧aa w1 gy 50 #[.string ⟨#[]⟩,iv 0,iv 0,iv 0,.slice none 0 0,iv 0,iv 0]):=Lq (⟨b.out.1,b.out.2.keep d⟩);refine hK.out _ _ (g.out _ a.out) (fun _=>?_)
  exact vx h g j a HX b c
theorem DW(f:Hid (i<na∧k<nb))(d:Hid (od V g8 g9 ba oa bb ob na nb ca cb i k xo yo xc yc xn yn xk xf xl xw xz yk yf yl yw yz xA yA))(g:Hid (oe Q V g8 g9 i k xo yo xc yc xn yn xk xf xl xw xz yk yf yl yw yz xA yA zA zB zC zD zE zF zG zH zK zL zM zR zS zT zU zV zW zX zY zZ za zb zc zd ze zf zg zh zi zj zk zl zm zn zo zp zq zr zs zt zu zv zw zx zy zz zAA zAB zAC zAD zAE zAF zAG zAH zAU zAV zAW zAX zAY zAZ zAa zAb zAc zAd zAe zAf zAg zAh zAi zAj zAk zAl))(c:Hid (BW V w))  :
  wpAnyH Tryz.prog .any oc (NoPanic Q) (fun W=>cA W g9 0 (.slice (some ⟨ba,oa,none⟩) na ca)∧cA W g8 0 (.slice (some ⟨bb,ob,none⟩) nb cb)∧cA W ba (oa+i*7) (.string xn)∧cA W ba (oa+i*7+1) (iv xk)∧cA W ba (oa+i*7+2) (iv xf)∧cA W ba (oa+i*7+3) (iv xl)∧cA W ba (oa+i*7+4) (.slice xA xo xc)∧cA W ba (oa+i*7+5) (iv xw)∧cA W ba (oa+i*7+6) (iv xz)∧cA W bb (ob+k*7) (.string yn)∧cA W bb (ob+k*7+1) (iv yk)∧cA W bb (ob+k*7+2) (iv yf)∧cA W bb (ob+k*7+3) (iv yl)∧cA W bb (ob+k*7+4) (.slice yA yo yc)∧cA W bb (ob+k*7+5) (iv yw)∧cA W bb (ob+k*7+6) (iv yz)) 4 #[true,true,true,true,true,true,true,true,true,true,true,true,false,false,false,false] ⟨#[zA,zB,zC,zD,zE,zF,zG,zH,.pointer (some ⟨g8,0,none⟩),.pointer (some ⟨g9,0,none⟩),zK,zL,zM,iv i,iv k,zP,zQ,zR,zS,zT,zU,zV,zW,zX,zY,zZ,za,zb,zc,zd,ze,zf,zg,zh,zi,zj,zk,zl,zm,zn,zo,zp,zq,zr,zs,zt,zu,zv,zw,zx,zy,zz,zAA,zAB,zAC,zAD,zAE,zAF,zAG,zAH,.pointer (some ⟨g9,0,none⟩),.pointer (some ⟨g9,0,none⟩),.slice (some ⟨ba,oa,none⟩) na ca,iv i,.pointer (some ⟨ba,oa+i*7,none⟩),.agg #[.string xn,iv xk,iv xf,iv xl,.slice xA xo xc,iv xw,iv xz],.pointer (some ⟨g8,0,none⟩),.pointer (some ⟨g8,0,none⟩),.slice (some ⟨bb,ob,none⟩) nb cb,iv k,.pointer (some ⟨bb,ob+k*7,none⟩),.agg #[.string yn,iv yk,iv yf,iv yl,.slice yA yo yc,iv yw,iv yz],zAU,zAV,zAW,zAX,zAY,zAZ,zAa,zAb,zAc,zAd,zAe,zAf,zAg,zAh,zAi,zAj,zAk,zAl],[]⟩ w:=by
 refine gZ 12 13 (fun h hK=>?_) (fun h hK=>?_)
 ·skip;go_simp;have b:=bA (bR w) (.cells #[.string ⟨#[]⟩,iv 0,iv 0,iv 0,.slice none 0 0,iv 0,iv 0] 50);have hq:=aa.new w 50 #[.string ⟨#[]⟩,iv 0,iv 0,iv 0,.slice none 0 0,iv 0,iv 0];obtain⟨w1,hw1⟩:=ex (w.alloc (.cells #[.string ⟨#[]⟩,iv 0,iv 0,iv 0,.slice none 0 0,iv 0,iv 0] 50));obtain⟨gx,hg1⟩:=ex w.heap.size;rw[hw1]at b hq;rw[hg1]at hq;rw[hw1,hg1];have HX:Hid (V.heap.size≤gx∧aa w1 gx 50 #[.string ⟨#[]⟩,iv 0,iv 0,iv 0,.slice none 0 0,iv 0,iv 0]):=Lq ⟨by rw[←hg1];exact c.out.size,hq⟩
  have a:=Lq (bT c.out b);refine hK.out _ _ (d.out _ a.out) (fun _=>?_)
  exact DU f d g a HX
 ·skip;go_simp;have b:=bA (bR w) (.cells #[.string ⟨#[]⟩,iv 0,iv 0,iv 0,.slice none 0 0,iv 0,iv 0] 50);have hq:=aa.new w 50 #[.string ⟨#[]⟩,iv 0,iv 0,iv 0,.slice none 0 0,iv 0,iv 0];obtain⟨w1,hw1⟩:=ex (w.alloc (.cells #[.string ⟨#[]⟩,iv 0,iv 0,iv 0,.slice none 0 0,iv 0,iv 0] 50));obtain⟨gy,hg1⟩:=ex w.heap.size;rw[hw1]at b hq;rw[hg1]at hq;rw[hw1,hg1];have HY:Hid (V.heap.size≤gy∧aa w1 gy 50 #[.string ⟨#[]⟩,iv 0,iv 0,iv 0,.slice none 0 0,iv 0,iv 0]):=Lq ⟨by rw[←hg1];exact c.out.size,hq⟩
  have a:=Lq (bT c.out b);refine hK.out _ _ (d.out _ a.out) (fun _=>?_)
  exact DV f d g a HY
theorem DX{b c d f g h j l m o p q:Value}(a:Hid (i<na∧k<nb))(s:Hid (od V g8 g9 ba oa bb ob na nb ca cb i k xo yo xc yc xn yn xk xf xl xw xz yk yf yl yw yz xA yA))(t:Hid (oe Q V g8 g9 i k xo yo xc yc xn yn xk xf xl xw xz yk yf yl yw yz xA yA zA zB zC zD zE zF zG zH zK zL zM zR zS zT zU zV zW zX zY zZ za zb zc zd ze zf zg zh zi zj zk zl zm zn zo zp zq zr zs zt zu zv zw zx zy zz zAA zAB zAC zAD zAE zAF zAG zAH zAU zAV zAW zAX zAY zAZ zAa zAb zAc zAd zAe zAf zAg zAh zAi zAj zAk zAl)) :
  (aF Tryz.f43 13).wp Tryz.prog Q ⟨#[zA,zB,zC,zD,zE,zF,zG,zH,.pointer (some ⟨g8,0,none⟩),.pointer (some ⟨g9,0,none⟩),zK,zL,zM,iv i,iv k,zP,zQ,zR,zS,zT,zU,zV,zW,zX,zY,zZ,za,zb,zc,zd,ze,zf,zg,zh,zi,zj,zk,zl,zm,zn,zo,zp,zq,zr,zs,zt,zu,zv,zw,zx,zy,zz,zAA,zAB,zAC,zAD,zAE,zAF,zAG,zAH,b,c,d,f,g,h,j,l,m,o,p,q,zAU,zAV,zAW,zAX,zAY,zAZ,zAa,zAb,zAc,zAd,zAe,zAf,zAg,zAh,zAi,zAj,zAk,zAl],[]⟩ V:=by
 refine gd (ops:=oc) (r:=13) (n:=16) (S:=fun W=>cA W g9 0 (.slice (some ⟨ba,oa,none⟩) na ca)∧cA W g8 0 (.slice (some ⟨bb,ob,none⟩) nb cb)∧cA W ba (oa+i*7) (.string xn)∧cA W ba (oa+i*7+1) (iv xk)∧cA W ba (oa+i*7+2) (iv xf)∧cA W ba (oa+i*7+3) (iv xl)∧cA W ba (oa+i*7+4) (.slice xA xo xc)∧cA W ba (oa+i*7+5) (iv xw)∧cA W ba (oa+i*7+6) (iv xz)∧cA W bb (ob+k*7) (.string yn)∧cA W bb (ob+k*7+1) (iv yk)∧cA W bb (ob+k*7+2) (iv yf)∧cA W bb (ob+k*7+3) (iv yl)∧cA W bb (ob+k*7+4) (.slice yA yo yc)∧cA W bb (ob+k*7+5) (iv yw)∧cA W bb (ob+k*7+6) (iv yz)) (fun W hb=>s.out W hb) fun V0 HB0 hHeld=>?_
 have u:=nn i;have hk0:=nn k;have hi1:(i:Int)<(na:Int):=by have:=a.out;omega
 have v:(k:Int)<(nb:Int):=by have:=a.out;omega
 refine tk 0 (.pointer (some ⟨g9,0,none⟩)) ?_;refine tk 1 (.pointer (some ⟨g9,0,none⟩)) ?_;refine tk 2 (.slice (some ⟨ba,oa,none⟩) na ca) ?_;refine tk 3 (iv i) ?_;refine tk 4 (.pointer (some ⟨ba,oa+i*7,none⟩)) ?_;refine tk 5 (.agg #[.string xn,iv xk,iv xf,iv xl,.slice xA xo xc,iv xw,iv xz]) ?_;refine tk 6 (.pointer (some ⟨g8,0,none⟩)) ?_;refine tk 7 (.pointer (some ⟨g8,0,none⟩)) ?_;refine tk 8 (.slice (some ⟨bb,ob,none⟩) nb cb) ?_;refine tk 9 (iv k) ?_;refine tk 10 (.pointer (some ⟨bb,ob+k*7,none⟩)) ?_;refine tk 11 (.agg #[.string yn,iv yk,iv yf,iv yl,.slice yA yo yc,iv yw,iv yz]) ?_;exact DW a s t HB0
end
section
variable{Q:Exit→Act→World→Prop}
theorem og{P:Program}{ops:Array Oper}{g:Region.Mode}{S:World→Prop}{d:Nat}{b k:Array Bool}{a j:Act}{w:World}(i:Nat)(h:wpAnyH P g ops Q S d k j w)(p:ops[i]?=some (ay ops i):=by kernel_rfl)(f:kB g ops b i=true:=by kernel_rfl)(r:YieldsIf P ops S (ay ops i) undef a:=by
   generalize e:ay _ _=o;conv at e=>lhs;whnf
   subst e;refine Or.inr ⟨by first | rfl | kernel_rfl,rfl⟩)(m:S w:=by first | assumption | trivial)(q:b.setIfInBounds i true=k:=by
   simp only[List.setIfInBounds_toArray,List.set_cons_zero,List.set_cons_succ];rfl)(n:a.put (ay ops i).dst undef=j:=by
   generalize e:ay _ _=o;conv at e=>lhs;whnf
   subst e
   (try simp only[Act.put,List.setIfInBounds_toArray,List.set_cons_zero,List.set_cons_succ])
   rfl)(l:∀c a w,Q (.panic c) (a.put (ay ops i).dst undef) w→Q (.panic c) a w:=by exact fun _ _ _ h=>h):wpAnyH P g ops Q S (d+1) b a w:=by
 subst q n;simp only[kB,Bool.and_eq_true]at f;exact wpAnyH_take p f.1.1 f.1.2 f.2 l r m h
noncomputable def DY:Array Oper:=aU (aF Tryz.f43 14)
theorem DZ{V:World}{b c x v A z:Nat}{j q:ByteArray}{h g i k l o m p s t:Int}{u y:Option Addr}{C be:Bool}{zA zB zC zD zE zF zG zH zI zJ zK zL zM zN zO zR zS zT zU zV zW zX zY zZ za zb zc zd ze zf zg zh zi zj zk zl zm zn zo zp zq zr zs zt zu zv zw zx zy zz E F G H I J K L M N O R T U X Y Z aa ab ac al am an ao ap aq ar au av aw ax az ad ae af ag ah ai:Value}(B:Hid (∀W,BW V W→(fun W=>cA W b 0 (.string j)∧cA W b 1 (iv h)∧cA W b 2 (iv g)∧cA W b 3 (iv i)∧cA W b 4 (.slice u x v)∧cA W b 5 (iv k)∧cA W b 6 (iv l)∧cA W c 0 (.string q)∧cA W c 1 (iv o)∧cA W c 2 (iv m)∧cA W c 3 (iv p)∧cA W c 4 (.slice y A z)∧cA W c 5 (iv s)∧cA W c 6 (iv t)) W))(ak:Hid ((j.toList==q.toList&&h==o&&g==m&&i==p&&k==s&&l==t)=C))(HE:Hid (∀W,BW V W→Cs 96 #[.slice u x v,.slice y A z] W (Rt W (.bool be))))(HP:Hid (∀W,Cs 95 #[.agg #[.string j,iv h,iv g,iv i,.slice u x v,iv k,iv l]] W (Rt W (.agg #[.string j,iv h,iv g,iv i,iv k,iv l]))))(aj:Hid (∀W,Cs 95 #[.agg #[.string q,iv o,iv m,iv p,.slice y A z,iv s,iv t]] W (Rt W (.agg #[.string q,iv o,iv m,iv p,iv s,iv t]))))(HQ:Hid (∀u72 u73 u74 u75 u76 u77 u78 u79 u80 u81 u82 W',BW V W'→Q .normal ⟨#[zA,zB,zC,zD,zE,zF,zG,zH,zI,zJ,zK,zL,zM,zN,zO,.pointer (some ⟨b,0,none⟩),.pointer (some ⟨c,0,none⟩),zR,zS,zT,zU,zV,zW,zX,zY,zZ,za,zb,zc,zd,ze,zf,zg,zh,zi,zj,zk,zl,zm,zn,zo,zp,zq,zr,zs,zt,zu,zv,zw,zx,zy,zz,E,F,G,H,I,J,K,L,M,N,O,R,T,U,X,Y,Z,aa,ab,ac,u72,u73,u74,u75,u76,u77,u78,u79,u80,u81,u82,.bool (C&&be),ad,ae,af,ag,ah,ai],[]⟩ W')) :
  (aF Tryz.f43 14).wp Tryz.prog Q ⟨#[zA,zB,zC,zD,zE,zF,zG,zH,zI,zJ,zK,zL,zM,zN,zO,.pointer (some ⟨b,0,none⟩),.pointer (some ⟨c,0,none⟩),zR,zS,zT,zU,zV,zW,zX,zY,zZ,za,zb,zc,zd,ze,zf,zg,zh,zi,zj,zk,zl,zm,zn,zo,zp,zq,zr,zs,zt,zu,zv,zw,zx,zy,zz,E,F,G,H,I,J,K,L,M,N,O,R,T,U,X,Y,Z,aa,ab,ac,al,am,an,ao,ap,aq,ar,au,av,aw,ax,az,ad,ae,af,ag,ah,ai],[]⟩ V:=by
 refine gd (ops:=DY) (r:=14) (n:=12) (S:=fun W=>cA W b 0 (.string j)∧cA W b 1 (iv h)∧cA W b 2 (iv g)∧cA W b 3 (iv i)∧cA W b 4 (.slice u x v)∧cA W b 5 (iv k)∧cA W b 6 (iv l)∧cA W c 0 (.string q)∧cA W c 1 (iv o)∧cA W c 2 (iv m)∧cA W c 3 (iv p)∧cA W c 4 (.slice y A z)∧cA W c 5 (iv s)∧cA W c 6 (iv t)) (fun W d=>B.out W d) fun V0 HB0 a=>?_
 refine tk 0 (.agg #[.string j,iv h,iv g,iv i,.slice u x v,iv k,iv l]) ?_;refine tk 2 (.agg #[.string q,iv o,iv m,iv p,.slice y A z,iv s,iv t]) ?_;refine rd1 1 fun K' hK=>?_
 go_simp;refine(HP.out _).mono ?_;rintro e w1 ⟨rfl,d⟩;have HB1:=Lq (bT HB0.out d);refine hK.out _ _ (B.out _ HB1.out) (fun a=>?_)
 clear hK d;refine rd1 3 fun K' hK=>?_
 go_simp;refine(aj.out _).mono ?_;rintro e f ⟨rfl,d⟩;have HB2:=Lq (bT HB1.out d);refine hK.out _ _ (B.out _ HB2.out) (fun a=>?_)
 clear hK d;refine rd1 4 fun K' hK=>?_
 go_simp;have D:(if j.toList=q.toList then if h=o then if g=m then if i=p then if k=s then if l=t then Result.ok (Next.value (Value.bool true)) f else Result.ok (Next.value (Value.bool false)) f else Result.ok (Next.value (Value.bool false)) f else Result.ok (Next.value (Value.bool false)) f else Result.ok (Next.value (Value.bool false)) f else Result.ok (Next.value (Value.bool false)) f else Result.ok (Next.value (Value.bool false)) f)=Result.ok (Next.value (Value.bool C)) f:=by rw[←ak.out];by_cases h1:j.toList=q.toList<;>by_cases h2:h=o<;>by_cases h3:g=m<;>by_cases h4:i=p<;>by_cases h5:k=s<;>by_cases h6:l=t<;>simp[*]
 rw[D];clear D;go_simp;refine hK.out _ _ (B.out _ HB2.out) (fun a=>?_)
 clear hK;refine tk 5 (.bool C) ?_;cases C with
 | true =>
  refine tk 6 (.pointer (some ⟨b,4,none⟩)) ?_;refine tk 7 (.slice u x v) ?_;refine tk 8 (.pointer (some ⟨c,4,none⟩)) ?_;refine tk 9 (.slice y A z) ?_;refine rd1 10 fun K' hK=>?_
  go_simp;refine(HE.out _ HB2.out).mono ?_;rintro e w3 ⟨rfl,d⟩;have HB3:=Lq (bT HB2.out d);refine hK.out _ _ (B.out _ HB3.out) (fun a=>?_)
  clear hK d;refine tk 11 (.bool be) ?_;exact dn (HQ.out _ _ _ _ _ _ _ _ _ _ _ _ HB3.out)
 | false =>
  refine og 6 ?_;refine og 7 ?_;refine og 8 ?_;refine og 9 ?_;refine og 10 ?_;refine tk 11 (.bool false) ?_;exact dn (HQ.out _ _ _ _ _ _ _ _ _ _ _ _ HB2.out)
end
theorem gu(h f:Int)(w:World):Cs 52 #[iv h,iv f] w (Rt w (.agg #[iv h,iv f])):=by
 obtain⟨m,l,k,i,d,a,j,b⟩:=iq w 33 (iv 0) (iv 0) (iv h) (iv f);obtain⟨g,hg⟩:=ex w.heap.size;rw[hg]at i a b;have f0:=a.frozen 0;have f1:=a.frozen 1;have e0:=a.c 0;have e1:=a.c 1;have el:=a.lt;have d0:=b.c 0;have d1:=b.c 1;have HB:=Lq d;clear d a j b;go_enter Tryz.func52,Tryz.ntmps52
 go_wp2_with fail;exact bodyPost_ret (v:=.agg #[iv h,iv f]) (by simp[results,Tryz.results52,go_sem,d0,d1]) rfl ⟨rfl,HB.out⟩
theorem iV(l:ByteArray)(j i k a b:Int)(f:Option Addr)(n h:Nat)(w:World):Cs 51 #[.string l,iv j,iv i,iv k,.agg #[iv a,iv b],.slice f n h] w (Rt w (.agg #[.string l,iv j,iv i,iv k,.slice f n h,iv a,iv b])):=by
 obtain⟨m,o,p⟩:=nA w (.cells #[iv a,iv b] 33);have q1:aa m w.heap.size 33 #[iv a,iv b]:=by rw[←o];exact aa.new w 33 _
 obtain⟨q,d⟩:=ex w.heap.size;rw[d]at q1;obtain⟨Wa,W2,hWa,hW2,hb2,hqa,hba,hq2⟩:=mi m l j i k a b f h n;obtain⟨g,hg⟩:=ex m.heap.size;rw[hg]at hW2 hqa hq2;have c0:=(q1.keep hba).c 0;have c1:=(q1.keep hba).c 1;obtain⟨f0,f1,f2,f3,f4,f5,f6⟩:=hqa.f7;obtain⟨e0,e1,e2,e3,e4,e5,e6⟩:=hqa.c7;have el:=hqa.lt;obtain⟨d0,d1,d2,d3,d4,d5,d6⟩:=hq2.c7;have HB:=Lq (bT p hb2);clear p q1 hb2 hqa hba hq2;go_enter Tryz.func51,Tryz.ntmps51
 go_wp2_with fail;exact bodyPost_ret (v:=.agg #[.string l,iv j,iv i,iv k,.slice f n h,iv a,iv b]) (by simp[results,Tryz.results51,go_sem,d0,d1,d2,d3,d4,d5,d6]) rfl ⟨rfl,HB.out⟩
end Go.Proofs.YtbillnhcmkpohaaGreatDoor
