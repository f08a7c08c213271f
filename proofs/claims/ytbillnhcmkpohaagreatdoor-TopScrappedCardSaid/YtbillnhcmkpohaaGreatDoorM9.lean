/- hull: Weigh (printed by mkHB6.py). -/
import Derived.Lib.MinMax
import Derived.Test.YtbillnhcmkpohaaGreatDoorM8
set_option maxRecDepth 1000000
set_option maxHeartbeats 0
namespace Go.Proofs.YtbillnhcmkpohaaGreatDoor
open Go.RowKit
section
variable{f l:Int}{g n:Nat}{w:World}
def fE(x:ah):Int:=x.last-x.first+1
def kG(f l:Int)(x:ah):Int:=max 0 (min l x.last-max f x.first+1)
def lv(f l:Int)(x:ah):Int:=(x.wlo*kG f l x).tdiv (fE x)
def lw(f l:Int)(x:ah):Int:=(x.whi*kG f l x+fE x-1).tdiv (fE x)
def fN(f l:Int)(xs:List ah):Int:=(xs.map (lv f l)).sum
def fO(f l:Int)(xs:List ah):Int:=(xs.map (lw f l)).sum
theorem uE{xs:List ah}{p:ah}(h:xs[n]?=some p):fN f l (xs.take (n+1))=fN f l (xs.take n)+lv f l p:=by unfold fN;rw[List.take_add_one,h];simp
theorem uF{xs:List ah}{p:ah}(h:xs[n]?=some p):fO f l (xs.take (n+1))=fO f l (xs.take n)+lw f l p:=by unfold fO;rw[List.take_add_one,h];simp
theorem pD{wl sm d:Int}(r:1≤wl)(m:wl≤1000000)(j:0≤sm)(o:sm≤d)(s:1≤d)(t:d≤41):0≤wl*sm∧wl*sm≤41000000∧0≤(wl*sm).tdiv d∧(wl*sm).tdiv d≤wl∧0≤(wl*sm+d-1).tdiv d∧(wl*sm+d-1).tdiv d≤wl:=by
 have h:0≤wl*sm:=Int.mul_nonneg (by omega) j
 have p:wl*sm≤1000000*41:=Int.mul_le_mul m (by omega) j (by omega)
 have k:wl*sm≤wl*d:=Int.mul_le_mul_of_nonneg_left o (by omega)
 have q:(wl+1)*d=wl*d+d:=by rw[Int.add_mul,Int.one_mul]
 have i:0≤wl*sm+d-1:=by omega
 rw[Int.tdiv_eq_ediv_of_nonneg h,Int.tdiv_eq_ediv_of_nonneg i];refine⟨h,by omega,Int.ediv_nonneg h (by omega),Int.ediv_le_of_le_mul (by omega) k,Int.ediv_nonneg i (by omega), ?_⟩
 have:=Int.ediv_lt_of_lt_mul (a:=wl*sm+d-1) (b:=wl+1) (c:=d) (by omega) (by omega)
 omega
theorem uG{x:ah}(a:0≤x.first∧x.first≤x.last∧x.last≤40):0≤kG f l x∧kG f l x≤fE x∧1≤fE x∧fE x≤41:=by unfold kG fE;omega
theorem Df{x:ah}{b o:List ah}(h:cQ x b o):0≤lv f l x∧lv f l x≤x.wlo∧0≤lw f l x∧lw f l x≤x.whi:=by
 obtain⟨c,d,i,j⟩:=uG (f:=f) (l:=l) h.fr;have hw:=h.wt;have a:=pD (wl:=x.wlo) (by omega) (by omega) c d i j
 have b:=pD (wl:=x.whi) (by omega) (by omega) c d i j
 unfold lv lw;omega
theorem Dg{xs:List ah}(h:aE xs)(k:Nat):0≤fN f l (xs.take k)∧fN f l (xs.take k)≤1000000*k∧0≤fO f l (xs.take k)∧fO f l (xs.take k)≤1000000*k:=by
 induction k with
 | zero=>simp[fN,fO]
 | succ k ih =>
  cases hx:xs[k]? with
  | none =>
   have:xs.take (k+1)=xs.take k:=by rw[List.take_add_one,hx];simp
   rw[this];omega
  | some p =>
   rw[uE hx,uF hx];have a:=h.part k p hx;have hw:=a.wt;have:=Df (f:=f) (l:=l) a;omega
theorem az.apart{W:World}{B cap:Nat}{A:Option Addr}{ms:List aj}(h:az w B A cap ms)(k:∀o s,w.cell? ⟨g,o,none⟩≠some (.string s))(q:ai w W g):az W B A cap ms:=by
 refine⟨⟨fun i x hx=>?_,fun m hm=>?_⟩,h.le,h.max,h.nil0,h.off⟩
 ·obtain⟨b,d,e,c,hc⟩:=h.rd.rd i x hx;have hn:b≠g:=fun e2=>k _ _ (e2▸hc 0 (.string x.p.name) rfl)
  exact⟨b,d,e,c,fun j u r=>q.cell (hc j u r) hn⟩
 ·have a:=h.rd.ok m hm;refine⟨fun i x hx=>?_,a.le,a.cm,a.nm,a.ons,a.sz⟩
  obtain⟨b,d,e,c,hc⟩:=a.on i x hx;exact⟨b,d,e,c,q.cell hc fun e2=>k _ _ (e2▸hc)⟩
theorem Dh{t:TypeId}{a b:Int}(h:aa w g t #[iv a,iv b]):∀o s,w.cell? ⟨g,o,none⟩≠some (.string s):=by
 intro o s hc;rw[h.cell]at hc
 match o,hc with
 | 0,hc=>injection hc with hc;cases hc
 | 1,hc=>injection hc with hc;cases hc
 | o+2,hc=>rw[Array.getElem?_eq_none (by show 2≤o+2;omega)]at hc;cases hc
def uH(ms:List aj)(cs:List ao)(day first last:Int)(w:World)(e:Ending)(w':World):Prop:=∃lo hi r:Int,e=.returned (.tuple #[.agg #[iv lo,iv hi],iv r])∧BW w w'∧(r=0↔(bS (ab ms) (an cs)∧inB 0 40000 day=true)∧(inB 0 40 first&&inB 0 40 last)=true∧first≤last)∧(r=0→lo=fN first last (aA day (ab ms) (an cs))∧hi=fO first last (aA day (ab ms) (an cs)))
def Di(ms:List aj)(cs:List ao)(day first last:Int)(w:World)(e:Ending)(w':World):Prop:=∃lo hi r:Int,e=.returned (.tuple #[.agg #[iv lo,iv hi],iv r])∧BW w w'∧(r=0↔(bS (ab ms) (an cs)∧inB 0 40000 day=true)∧(inB 0 40 first&&inB 0 40 last)=true∧first≤last)∧(r=0→lo=fN first last (aA day (ab ms) (an cs))∧hi=fO first last (aA day (ab ms) (an cs)))∧(r≠0→inB 0 40000 day=true→(inB 0 40 first&&inB 0 40 last)=true→first≤last→Cd ms cs r)
theorem Dj(A C:Option Addr)(ms:List aj)(cs:List ao)(B cap d:Nat)(day first last:Int)(w:World)(hB:B≤w.heap.size)(H:az w B A cap ms)(HC:de w B C d cs)(HW:∀c∈cs,Lit.wf (.int .i64 c.what)=true) :
  Cs 4 #[.agg #[.slice A ms.length cap,.slice C cs.length d],iv day,iv first,iv last] w (Di ms cs day first last w):=by
 obtain⟨W1,S,b1⟩:=nA w (.cells #[.slice A ms.length cap,.slice C cs.length d] 27);obtain⟨W2,hW2,b2⟩:=nA W1 (.cells #[iv 0,iv 0] 33);obtain⟨gp,hgp⟩:=ex w.heap.size;obtain⟨g8,hg8⟩:=ex W1.heap.size;have z1:W1.heap.size=w.heap.size+1:=by rw[←S];simp
 have z:aa W1 gp 27 #[.slice A ms.length cap,.slice C cs.length d]:=by rw[←S,←hgp];exact aa.new w 27 _
 have G:aa W2 g8 33 #[iv 0,iv 0]:=by rw[←hW2,←hg8];exact aa.new W1 33 _
 have X:=z.keep b2;have b3:=bT b1 b2;have HG8:Hid (w.heap.size≤g8):=Lq (by omega)
 have ar:Hid (Cs 12 #[.agg #[.slice A ms.length cap,.slice C cs.length d],iv day] W2 (rG ms cs day W2)):=Lq (uB A C ms cs B cap d day W2 (lT hB b3.size) (H.below b3 hB) (HC.below b3 hB) HW);obtain⟨bI,hbI⟩:=ex (inB 0 40 first&&inB 0 40 last);have KI:=Lq hbI;have HI:Hid (∀g W,W.cell? ⟨g,0,none⟩=some (iv first)→W.cell? ⟨g,1,none⟩=some (iv last)→Cs 13 #[iv 0,iv 40,.slice (some ⟨g,0,none⟩) 2 2] W (Rt W (.bool (!bI)))):=Lq fun g W hc hd=>hbI▸qD 0 40 first last g W hc hd (br hc)
 have am:=Lq b3;have HQ8:=Lq G;have x0:=X.c 0;have x1:=X.c 1;clear H HC HW b1 b2 b3 z G X z1 hbI;go_enter Tryz.func4,Tryz.ntmps4
 go_wp2_with fail;refine ar.out.mono ?_;rintro e w3 ⟨r,Ax,n,c,rfl,x,M,N,ak⟩;obtain⟨Wa,W4,hWa,hW4,hb4,hqa,hba,hq4⟩:=gg w3 62 (.slice none 0 0) (.slice Ax n c);obtain⟨g10,hg10⟩:=ex w3.heap.size;rw[hg10]at hW4 hqa hq4;have HB34:=Lq hb4;have HIFF:=Lq M;have HYES:=Lq N;have HCD:=Lq ak;have HQ10:=Lq hq4;have HQ84:=Lq ((HQ8.out.keep x).keep hb4);have HB4:=Lq (bT am.out (bT x hb4));have HNE:Hid (g8<g10):=Lq (hg10▸(HQ8.out.keep x).lt);have af:=hqa.frozen 0;have ac:=hqa.c 0;have al:=hqa.lt;clear x M N ak hb4 hqa hba hq4 x0 x1;by_cases hr:r=0
 ·subst hr;have m0:=HQ10.out.c 0;go_wp2_with fail;refine(HI.out _ _ (by go_simp) (by go_simp)).mono ?_
  rintro e Y ⟨rfl,x⟩;have HB5:=Lq (bT (bA (bR W4) _) x);clear x af ac al m0 hWa hW4 hg10 S hW2 hgp hg8;have HB05:=Lq (bT HB4.out HB5.out);cases bI with
  | false =>
   obtain⟨t,a⟩:=ex ((Y.setCell ⟨g8,0,none⟩ (iv 0)).setCell ⟨g8,1,none⟩ (iv 0));have hq9:=HQ84.out.keep HB5.out;have n0:=hq9.c 0;have n1:=hq9.c 1;have nf:=hq9.frozen 0;have nf1:=hq9.frozen 1;have nl:=hq9.lt;have d0:t.cell? ⟨g8,0,none⟩=some (iv 0):=by rw[←a];exact((hq9.set_ 0 _).set_ 1 _).cell 0
   have R:t.cell? ⟨g8,1,none⟩=some (iv 0):=by rw[←a];exact((hq9.set_ 0 _).set_ 1 _).cell 1
   have s:Hid (BW w t):=by rw[←a];exact Lq ((((ai.of_below (bR Y) g8).set 0 _).set 1 _).below (HB05.out) HG8.out)
   clear hq9;go_wp2_with fail;exact bodyPost_ret (v:=.tuple #[.agg #[iv 0,iv 0],iv 7]) (by simp[results,Tryz.results4,go_sem,d0,R]) rfl ⟨0,0,7,rfl,s.out,⟨fun h=>(by cases h),fun h=>(by rw[KI.out]at h;cases h.2.1)⟩,fun h=>(by cases h),fun _ _ h=>by rw[KI.out]at h;cases h⟩
  | true =>
   by_cases hfl:first>last
   ·skip;obtain⟨t,a⟩:=ex ((Y.setCell ⟨g8,0,none⟩ (iv 0)).setCell ⟨g8,1,none⟩ (iv 0));have hq9:=HQ84.out.keep HB5.out;have n0:=hq9.c 0;have n1:=hq9.c 1;have nf:=hq9.frozen 0;have nf1:=hq9.frozen 1;have nl:=hq9.lt;have d0:t.cell? ⟨g8,0,none⟩=some (iv 0):=by rw[←a];exact((hq9.set_ 0 _).set_ 1 _).cell 0
    have R:t.cell? ⟨g8,1,none⟩=some (iv 0):=by rw[←a];exact((hq9.set_ 0 _).set_ 1 _).cell 1
    have s:Hid (BW w t):=by rw[←a];exact Lq ((((ai.of_below (bR Y) g8).set 0 _).set 1 _).below (HB05.out) HG8.out)
    clear hq9;go_wp2_with fail;exact bodyPost_ret (v:=.tuple #[.agg #[iv 0,iv 0],iv 7]) (by simp[results,Tryz.results4,go_sem,d0,R]) rfl ⟨0,0,7,rfl,s.out,⟨fun h=>(by cases h),fun h=>absurd h.2.2 (by omega)⟩,fun h=>(by cases h),fun _ _ _ h=>absurd h (by omega)⟩
   ·have KF:Hid (first≤last):=Lq (by omega)
    obtain⟨hf,hl⟩:inB 0 40 first=true∧inB 0 40 last=true:=by have:=KI.out;rwa [Bool.and_eq_true]at this
    have aF:=iM hf;have hl2:=iM hl;obtain⟨out,rfl,hps,hsl⟩:=HYES.out (by trivial)
    have ae:=Lq (HIFF.out.1 (by trivial))
    have V:aE (ab out):=hps▸kT ae.out.1 day;have h12:out.length≤12:=by
     have h:=V.len
     simpa using h
    have ag:=Lq V;have HPS:=Lq hps;have HSL:=Lq (((hsl.below HB34.out (lr _)).more HB34.out.size).below HB5.out (lr _));have m5:=(HQ10.out.keep HB5.out).c 0;clear hps hsl V hf hl;go_wp2_with fail;clear m5;go_loopw [41] (fun i wr=>∃k:Nat,k≤out.length∧i=iv k∧Hid (aa wr g8 33 #[iv (fN first last ((ab out).take k)),iv (fO first last ((ab out).take k))])∧Hid (ai Y wr g8)) (fun i _=>out.length-(intOf i).toNat)
    case atStart=>exact⟨0,Nat.zero_le _,rfl,Lq (HQ84.out.keep HB5.out),Lq (ai.of_below (bR _) _)⟩
    case round =>
     obtain⟨k,hk,rfl,Z,O⟩:=hrel;have hk0:=nn k;by_cases hlt:k<out.length
     ·obtain⟨y,hy⟩:=gX (l:=out) (i:=k) hlt;have hsr:=HSL.out.apart (Dh (HQ84.out.keep HB5.out)) O.out;obtain⟨b,off,hA,hbB,hMy,c0,c1,c2,c3,c4,c5,c6⟩:=hsr.rd.at hy;have hpk:=ag.out.part k _ (bN hy);have hfr:=hpk.fr;have hwt:=hpk.wt;obtain⟨s1,s2,s3,s4⟩:=uG (f:=first) (l:=last) hfr;have hsum:=Dg (f:=first) (l:=last) ag.out k;have hn1:=uE (f:=first) (l:=last) (bN hy);have hn2:=uF (f:=first) (l:=last) (bN hy);have hb1:=pD (wl:=y.p.wlo) (by omega) (by omega) s1 s2 s3 s4
      have K:=pD (wl:=y.p.whi) (by omega) (by omega) s1 s2 s3 s4
      unfold lv at hn1;unfold lw at hn2;obtain⟨⟨yn,yk,I,J,L,yw,yz⟩,yA,yc⟩:=y;subst hA;obtain⟨al,hal⟩:=ex (fE ⟨yn,yk,I,J,L,yw,yz⟩);obtain⟨sm,hsm⟩:=ex (kG first last ⟨yn,yk,I,J,L,yw,yz⟩);simp only[hal,hsm]at hn1 hn2 hb1 K s1 s2 s3 s4 c0 c1 c2 c3 c4 c5 c6 hfr hwt;simp only[fE]at hal;simp only[kG]at hsm;obtain⟨u,o⟩:=ex (fN first last ((ab out).take k));obtain⟨hi,j⟩:=ex (fO first last ((ab out).take k));rw[o,j]at Z;rw[o]at hn1 hsum;rw[j]at hn2 hsum;obtain⟨m1,hm1⟩:=ex (yw*sm);obtain⟨m2,hm2⟩:=ex (yz*sm);rw[hm1]at hn1 hb1;rw[hm2]at hn2 K;obtain⟨z,hq1⟩:=ex (m1.tdiv al);obtain⟨G,hq2⟩:=ex ((m2+al-1).tdiv al);rw[hq1]at hn1 hb1;rw[hq2]at hn2 K;have HM1:Hid (IntKind.i64.wrap (yw*sm)=m1):=Lq (by rw[hm1,IntKind.wrap_i64];omega)
      have ap:Hid (IntKind.i64.wrap (yz*sm)=m2):=Lq (by rw[hm2,IntKind.wrap_i64];omega)
      have aw:Hid (IntKind.i64.wrap (m1.tdiv al)=z):=Lq (by rw[hq1,IntKind.wrap_i64];omega)
      have ax:Hid (IntKind.i64.wrap ((m2+al-1).tdiv al)=G):=Lq (by rw[hq2,IntKind.wrap_i64];omega)
      have ay:Hid (IntKind.i64.wrap (u+z)=u+z):=Lq (by rw[IntKind.wrap_i64];omega)
      have aB:Hid (IntKind.i64.wrap (hi+G)=hi+G):=Lq (by rw[IntKind.wrap_i64];omega)
      have au:Hid (IntKind.i64.wrap (m2+al)=m2+al):=Lq (by rw[IntKind.wrap_i64];omega)
      have av:Hid (IntKind.i64.wrap (m2+al-1)=m2+al-1):=Lq (by rw[IntKind.wrap_i64];omega)
      have aq:=Lq hn1;have HN2:=Lq hn2;have HAL:Hid (¬al=0):=Lq (by omega)
      have w1:IntKind.i64.wrap (J-I)=J-I:=by rw[IntKind.wrap_i64];omega
      have w2:IntKind.i64.wrap (J-I+1)=al:=by rw[IntKind.wrap_i64];omega
      have w3:IntKind.i64.wrap (min last J-max first I)=min last J-max first I:=by rw[IntKind.wrap_i64];omega
      have w4:IntKind.i64.wrap (min last J-max first I+1)=min last J-max first I+1:=by rw[IntKind.wrap_i64];omega
      obtain⟨Wb,W6,aC,ah,T,F,aD,E⟩:=mi wr yn yk I J yw yz yA yc L.length;obtain⟨g2,hg2⟩:=ex wr.heap.size;rw[hg2]at ah F E;have HB6:=Lq T;have HQ6:=Lq E;have HN6:Hid (g8<g2):=Lq (hg2▸Z.out.lt);have HQ86:=Lq (Z.out.keep T);obtain⟨f0,f1,f2,f3,f4,f5,f6⟩:=F.f7;obtain⟨e0,e1,e2,e3,e4,e5,e6⟩:=F.c7;have el:=F.lt;have d2:=E.c 2;have d3:=E.c 3;clear hMy hy T F aD E hpk hwt hsum hn1 hn2 hb1 K s1 s2 s3 s4 hm1 hm2 hq1 hq2 o j hsr;go_wp2_with fail;clear c0 c1 c2 c3 c4 c5 c6 e0 e1 e2 e3 e4 e5 e6 f0 f1 f2 f3 f4 f5 f6 el aC ah hg2;go_quiet (fail)
      rename_i nq;have hn6:BW W6 (W6.drewN nq):=cY (bR _) _;have HB7:Hid (BW wr (W6.drewN nq)):=Lq (bT HB6.out hn6);have q:Hid (aa (W6.drewN nq) g2 50 #[.string yn,iv yk,iv I,iv J,.slice yA L.length yc,iv yw,iv yz]):=Lq (HQ6.out.keep hn6);have HQ87:Hid (aa (W6.drewN nq) g8 33 #[iv u,iv hi]):=Lq (HQ86.out.keep hn6);clear hn6 d2 d3 w1 w2 w3 w4 hal hsm;clear HB6 HQ6 HQ86;generalize W6.drewN nq=w6 at HB7 q HQ87 ⊢;have HB6:=HB7;have HQ6:=q;have HQ86:=HQ87;clear HB7 q HQ87;go_upto_region 10 with fail
      refine Dd (sm:=sm) HAL.out HM1.out aw.out ay.out HQ86.out (fun W x=>⟨(HQ86.out.keep x).c 0,(HQ6.out.keep x).c 5⟩) ?_
      intro aH aI aJ aK aL aM aN aO aP aQ aR w7 D;have hq7:=(HQ86.out.keep D).set_ 0 (iv (u+z));have o7:ai w7 (w7.setCell ⟨g8,0,none⟩ (iv (u+z))) g8:=ai.of_set (bR w7) g8 0 _;have hq67:=(HQ6.out.keep D).same (o7.block g2 (HQ6.out.keep D).lt (by have:=HN6.out;omega))
      have ad:Hid (ai Y (w7.setCell ⟨g8,0,none⟩ (iv (u+z))) g8):=Lq (oT (oT O.out (ai.of_below (bT HB6.out D) g8)) o7);obtain⟨w8,hw8⟩:=ex (w7.setCell ⟨g8,0,none⟩ (iv (u+z)));rw[hw8]at hq7 hq67 ad;have HQ7:Hid (aa w8 g8 33 #[iv (u+z),iv hi]):=Lq (by simpa using hq7)
      have q:=Lq hq67;clear hq7 hq67 D o7;rw[hw8];clear hw8;go_upto_region 11 with fail
      refine De (sm:=sm) (m:=m2) HAL.out ap.out au.out av.out ax.out aB.out HQ7.out (fun W x=>⟨(HQ7.out.keep x).c 1,(q.out.keep x).c 6⟩) ?_
      intro aS aT aU aV aW aX aY aZ a0 a1 a2 a3 a4 a5 w9 U;have hq9:=(HQ7.out.keep U).set_ 1 (iv (hi+G));have o9:ai w9 (w9.setCell ⟨g8,1,none⟩ (iv (hi+G))) g8:=ai.of_set (bR w9) g8 1 _;have HO9:Hid (ai Y (w9.setCell ⟨g8,1,none⟩ (iv (hi+G))) g8):=Lq (oT (oT ad.out (ai.of_below U g8)) o9);obtain⟨w10,hw10⟩:=ex (w9.setCell ⟨g8,1,none⟩ (iv (hi+G)));rw[hw10]at hq9 HO9;have HQ9:Hid (aa w10 g8 33 #[iv (u+z),iv (hi+G)]):=Lq (by simpa using hq9)
      clear hq9 U o9;rw[hw10];clear hw10;go_wp2_with fail;go_roundw
      case measure=>simp[intOf];omega
      case rel=>exact⟨k+1,by omega,by go_num,Lq (by rw[aq.out,HN2.out];exact HQ9.out),HO9⟩
     ·obtain rfl:k=out.length:=by omega
      have o:fN first last ((ab out).take out.length)=fN first last (ab out):=by rw[List.take_of_length_le (by simp)]
      have j:fO first last ((ab out).take out.length)=fO first last (ab out):=by rw[List.take_of_length_le (by simp)]
      rw[o,j]at Z;obtain⟨u,o⟩:=ex (fN first last (ab out));obtain⟨hi,j⟩:=ex (fO first last (ab out));rw[o,j]at Z;have HEND:Hid (BW w wr):=Lq (O.out.below HB05.out HG8.out);have HRES:Hid (u=fN first last (aA day (ab ms) (an cs))∧hi=fO first last (aA day (ab ms) (an cs))):=Lq ⟨by rw[←o,HPS.out],by rw[←j,HPS.out]⟩
      clear o j;obtain⟨t,a⟩:=ex ((wr.setCell ⟨g8,0,none⟩ (iv u)).setCell ⟨g8,1,none⟩ (iv hi));have hq9:=Z.out;have n0:=hq9.c 0;have n1:=hq9.c 1;have nf:=hq9.frozen 0;have nf1:=hq9.frozen 1;have nl:=hq9.lt;have d0:t.cell? ⟨g8,0,none⟩=some (iv u):=by rw[←a];exact((hq9.set_ 0 _).set_ 1 _).cell 0
      have R:t.cell? ⟨g8,1,none⟩=some (iv hi):=by rw[←a];exact((hq9.set_ 0 _).set_ 1 _).cell 1
      have s:Hid (BW w t):=by rw[←a];exact Lq ((((ai.of_below (bR wr) g8).set 0 _).set 1 _).below (HEND.out) HG8.out)
      clear hq9;go_wp2_with fail;exact bodyPost_ret (v:=.tuple #[.agg #[iv u,iv hi],iv 0]) (by simp[results,Tryz.results4,go_sem,d0,R]) rfl ⟨u,hi,0,rfl,s.out,⟨fun _=>⟨ae.out,KI.out,KF.out⟩,fun _=>rfl⟩,fun _=>HRES.out,fun h=>absurd rfl h⟩
 ·have aG:(r != 0)=true:=by simpa using hr
  obtain⟨t,a⟩:=ex ((W4.setCell ⟨g8,0,none⟩ (iv 0)).setCell ⟨g8,1,none⟩ (iv 0));have hq9:=HQ84.out;have n0:=hq9.c 0;have n1:=hq9.c 1;have nf:=hq9.frozen 0;have nf1:=hq9.frozen 1;have nl:=hq9.lt;have d0:t.cell? ⟨g8,0,none⟩=some (iv 0):=by rw[←a];exact((hq9.set_ 0 _).set_ 1 _).cell 0
  have R:t.cell? ⟨g8,1,none⟩=some (iv 0):=by rw[←a];exact((hq9.set_ 0 _).set_ 1 _).cell 1
  have s:Hid (BW w t):=by rw[←a];exact Lq ((((ai.of_below (bR W4) g8).set 0 _).set 1 _).below (HB4.out) HG8.out)
  clear hq9;go_wp2_with fail;exact bodyPost_ret (v:=.tuple #[.agg #[iv 0,iv 0],iv r]) (by simp[results,Tryz.results4,go_sem,d0,R]) rfl ⟨0,0,r,rfl,s.out,⟨fun h=>absurd h hr,fun h=>absurd (HIFF.out.2 h.1) hr⟩,fun h=>absurd h hr,fun h hd _ _=>HCD.out h hd⟩
theorem uI(A C:Option Addr)(ms:List aj)(cs:List ao)(B cap a:Nat)(day first last:Int)(w:World)(m:B≤w.heap.size)(H:az w B A cap ms)(b:de w B C a cs)(d:∀c∈cs,Lit.wf (.int .i64 c.what)=true) :
  Cs 4 #[.agg #[.slice A ms.length cap,.slice C cs.length a],iv day,iv first,iv last] w (uH ms cs day first last w) :=
 (Dj A C ms cs B cap a day first last w m H b d).mono fun _ _ ⟨p,o,r,h,i,j,k,_⟩=>⟨p,o,r,h,i,j,k⟩
end
end Go.Proofs.YtbillnhcmkpohaaGreatDoor
