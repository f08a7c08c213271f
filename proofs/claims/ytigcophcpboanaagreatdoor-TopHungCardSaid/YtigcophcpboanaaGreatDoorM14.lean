/- hull: Weigh (printed by mkHB6.py). -/
import Derived.Lib.MinMax
import Derived.Test.YtigcophcpboanaaGreatDoorM13
set_option maxRecDepth 1000000
set_option maxHeartbeats 0
namespace Go.Proofs.YtigcophcpboanaaGreatDoor
open Go.RowKit
section
variable{f l:Int}{g n:Nat}{w:World}
def allW(x:HuP):Int:=x.last-x.first+1
def someW(f l:Int)(x:HuP):Int:=max 0 (min l x.last-max f x.first+1)
def loW(f l:Int)(x:HuP):Int:=(x.wlo*someW f l x).tdiv (allW x)
def hiW(f l:Int)(x:HuP):Int:=(x.whi*someW f l x+allW x-1).tdiv (allW x)
def loWs(f l:Int)(xs:List HuP):Int:=(xs.map (loW f l)).sum
def hiWs(f l:Int)(xs:List HuP):Int:=(xs.map (hiW f l)).sum
theorem loWs_snoc{xs:List HuP}{p:HuP}(h:xs[n]?=some p):loWs f l (xs.take (n+1))=loWs f l (xs.take n)+loW f l p:=by unfold loWs;rw[List.take_add_one,h];simp
theorem hiWs_snoc{xs:List HuP}{p:HuP}(h:xs[n]?=some p):hiWs f l (xs.take (n+1))=hiWs f l (xs.take n)+hiW f l p:=by unfold hiWs;rw[List.take_add_one,h];simp
theorem weigh_bd{wl sm al:Int}(h1:1≤wl)(h2:wl≤1000000)(h3:0≤sm)(h4:sm≤al)(h5:1≤al)(h6:al≤41):0≤wl*sm∧wl*sm≤41000000∧0≤(wl*sm).tdiv al∧(wl*sm).tdiv al≤wl∧0≤(wl*sm+al-1).tdiv al∧(wl*sm+al-1).tdiv al≤wl:=by
 have a1:0≤wl*sm:=Int.mul_nonneg (by omega) h3
 have a2:wl*sm≤1000000*41:=Int.mul_le_mul h2 (by omega) h3 (by omega)
 have a3:wl*sm≤wl*al:=Int.mul_le_mul_of_nonneg_left h4 (by omega)
 have a4:(wl+1)*al=wl*al+al:=by rw[Int.add_mul,Int.one_mul]
 have a5:0≤wl*sm+al-1:=by omega
 rw[Int.tdiv_eq_ediv_of_nonneg a1,Int.tdiv_eq_ediv_of_nonneg a5];refine⟨a1,by omega,Int.ediv_nonneg a1 (by omega),Int.ediv_le_of_le_mul (by omega) a3,Int.ediv_nonneg a5 (by omega), ?_⟩
 have:=Int.ediv_lt_of_lt_mul (a:=wl*sm+al-1) (b:=wl+1) (c:=al) (by omega) (by omega)
 omega
theorem some_bd{x:HuP}(hf:0≤x.first∧x.first≤x.last∧x.last≤40):0≤someW f l x∧someW f l x≤allW x∧1≤allW x∧allW x≤41:=by unfold someW allW;omega
theorem loW_bd{x:HuP}{b o:List HuP}(h:PartOk x b o):0≤loW f l x∧loW f l x≤x.wlo∧0≤hiW f l x∧hiW f l x≤x.whi:=by
 obtain⟨s1,s2,s3,s4⟩:=some_bd (f:=f) (l:=l) h.fr;have hw:=h.wt;have a:=weigh_bd (wl:=x.wlo) (by omega) (by omega) s1 s2 s3 s4
 have b:=weigh_bd (wl:=x.whi) (by omega) (by omega) s1 s2 s3 s4
 unfold loW hiW;omega
theorem sumW_bd{xs:List HuP}(h:ShipOk xs)(k:Nat):0≤loWs f l (xs.take k)∧loWs f l (xs.take k)≤1000000*k∧0≤hiWs f l (xs.take k)∧hiWs f l (xs.take k)≤1000000*k:=by
 induction k with
 | zero=>simp[loWs,hiWs]
 | succ k ih =>
  cases hx:xs[k]? with
  | none =>
   have:xs.take (k+1)=xs.take k:=by rw[List.take_add_one,hx];simp
   rw[this];omega
  | some p =>
   rw[loWs_snoc hx,hiWs_snoc hx];have hp:=h.part k p hx;have hw:=hp.wt;have:=loW_bd (f:=f) (l:=l) hp;omega
theorem SlM.apart{W:World}{B cap:Nat}{A:Option Addr}{ms:List HuM}(h:SlM w B A cap ms)(hg:∀o s,w.cell? ⟨g,o,none⟩≠some (.string s))(ho:OnlyAt w W g):SlM W B A cap ms:=by
 refine⟨⟨fun i x hx=>?_,fun m hm=>?_⟩,h.le,h.max,h.nil0,h.off⟩
 ·obtain⟨b,off,e,hlt,hc⟩:=h.rd.rd i x hx;have hn:b≠g:=fun e2=>hg _ _ (e2▸hc 0 (.string x.p.name) rfl)
  exact⟨b,off,e,hlt,fun j u hu=>ho.cell (hc j u hu) hn⟩
 ·have hm2:=h.rd.ok m hm;refine⟨fun i x hx=>?_,hm2.le,hm2.cm,hm2.nm,hm2.ons,hm2.sz⟩
  obtain⟨b,off,e,hlt,hc⟩:=hm2.on i x hx;exact⟨b,off,e,hlt,ho.cell hc fun e2=>hg _ _ (e2▸hc)⟩
theorem int2_ne{t:TypeId}{a b:Int}(h:Blk w g t #[iv a,iv b]):∀o s,w.cell? ⟨g,o,none⟩≠some (.string s):=by
 intro o s hc;rw[h.cell]at hc
 match o,hc with
 | 0,hc=>injection hc with hc;cases hc
 | 1,hc=>injection hc with hc;cases hc
 | o+2,hc=>rw[Array.getElem?_eq_none (by show 2≤o+2;omega)]at hc;cases hc
def WeighPost(ms:List HuM)(cs:List HcM)(day first last:Int)(w:World)(e:Ending)(w':World):Prop:=∃lo hi r:Int,e=.returned (.tuple #[.agg #[iv lo,iv hi],iv r])∧BW w w'∧(r=0↔(PlanOk (psOf ms) (csOf cs)∧inB 0 40000 day=true)∧(inB 0 40 first&&inB 0 40 last)=true∧first≤last)∧(r=0→lo=loWs first last (shipOn day (psOf ms) (csOf cs))∧hi=hiWs first last (shipOn day (psOf ms) (csOf cs)))
def WeighPost2(ms:List HuM)(cs:List HcM)(day first last:Int)(w:World)(e:Ending)(w':World):Prop:=∃lo hi r:Int,e=.returned (.tuple #[.agg #[iv lo,iv hi],iv r])∧BW w w'∧(r=0↔(PlanOk (psOf ms) (csOf cs)∧inB 0 40000 day=true)∧(inB 0 40 first&&inB 0 40 last)=true∧first≤last)∧(r=0→lo=loWs first last (shipOn day (psOf ms) (csOf cs))∧hi=hiWs first last (shipOn day (psOf ms) (csOf cs)))∧(r≠0→inB 0 40000 day=true→(inB 0 40 first&&inB 0 40 last)=true→first≤last→Cd ms cs r)
theorem weigh10_all(A C:Option Addr)(ms:List HuM)(cs:List HcM)(B cap capc:Nat)(day first last:Int)(w:World)(hB:B≤w.heap.size)(H:SlM w B A cap ms)(HC:SlC w B C capc cs)(HW:∀c∈cs,Lit.wf (.int .i64 c.what)=true) :
  Cs 13 #[.agg #[.slice A ms.length cap,.slice C cs.length capc],iv day,iv first,iv last] w (WeighPost2 ms cs day first last w):=by
 obtain⟨W1,hW1⟩:=ex (w.alloc (.cells #[.slice A ms.length cap,.slice C cs.length capc] 27));obtain⟨W2,hW2⟩:=ex (W1.alloc (.cells #[iv 0,iv 0] 36));obtain⟨gp,hgp⟩:=ex w.heap.size;obtain⟨g8,hg8⟩:=ex W1.heap.size;have z1:W1.heap.size=w.heap.size+1:=by rw[←hW1];simp
 have b1:BW w W1:=by rw[←hW1];exact bA (bR w) _
 have b2:BW W1 W2:=by rw[←hW2];exact bA (bR _) _
 have q1:Blk W1 gp 27 #[.slice A ms.length cap,.slice C cs.length capc]:=by rw[←hW1,←hgp];exact Blk.new w 27 _
 have q2:Blk W2 g8 36 #[iv 0,iv 0]:=by rw[←hW2,←hg8];exact Blk.new W1 36 _
 have q2p:=q1.keep b2;have b3:=bT b1 b2;have HG8:Hid (w.heap.size≤g8):=Lq (by omega)
 have HOP:Hid (Cs 44 #[.agg #[.slice A ms.length cap,.slice C cs.length capc],iv day] W2 (OpenPost2 ms cs day W2)):=Lq (open47_all A C ms cs B cap capc day W2 (lT hB b3.size) (H.below b3 hB) (HC.below b3 hB) HW);obtain⟨bI,hbI⟩:=ex (inB 0 40 first&&inB 0 40 last);have KI:=Lq hbI;have HI:Hid (∀g W,W.cell? ⟨g,0,none⟩=some (iv first)→W.cell? ⟨g,1,none⟩=some (iv last)→Cs 59 #[iv 0,iv 40,.slice (some ⟨g,0,none⟩) 2 2] W (Rt W (.bool (!bI)))):=Lq fun g W hc hd=>hbI▸out_twoH 0 40 first last g W hc hd (lt_of_cell hc)
 have HB3:=Lq b3;have HQ8:=Lq q2;have x0:=q2p.c 0;have x1:=q2p.c 1;clear H HC HW b1 b2 b3 q1 q2 q2p z1 hbI;go_enter Tryz.func13,Tryz.ntmps13
 go_wp2_with fail;refine HOP.out.mono ?_;rintro e w3 ⟨r,Ax,n,c,rfl,hb,hiff,hyes,hcd⟩;obtain⟨Wa,W4,hWa,hW4,hb4,hqa,hba,hq4⟩:=oneMade w3 102 (.slice none 0 0) (.slice Ax n c);obtain⟨g10,hg10⟩:=ex w3.heap.size;rw[hg10]at hW4 hqa hq4;have HB34:=Lq hb4;have HIFF:=Lq hiff;have HYES:=Lq hyes;have HCD:=Lq hcd;have HQ10:=Lq hq4;have HQ84:=Lq ((HQ8.out.keep hb).keep hb4);have HB4:=Lq (bT HB3.out (bT hb hb4));have HNE:Hid (g8<g10):=Lq (hg10▸(HQ8.out.keep hb).lt);have af:=hqa.frozen 0;have ac:=hqa.c 0;have al:=hqa.lt;clear hb hiff hyes hcd hb4 hqa hba hq4 x0 x1;by_cases hr:r=0
 ·subst hr;have m0:=HQ10.out.c 0;go_wp2_with fail;refine(HI.out _ _ (by go_simp) (by go_simp)).mono ?_
  rintro e w5 ⟨rfl,hb⟩;have HB5:=Lq (bT (bA (bR W4) _) hb);clear hb af ac al m0 hWa hW4 hg10 hW1 hW2 hgp hg8;have HB05:=Lq (bT HB4.out HB5.out);cases bI with
  | false =>
   obtain⟨W9,hW9⟩:=ex ((w5.setCell ⟨g8,0,none⟩ (iv 0)).setCell ⟨g8,1,none⟩ (iv 0));have hq9:=HQ84.out.keep HB5.out;have n0:=hq9.c 0;have n1:=hq9.c 1;have nf:=hq9.frozen 0;have nf1:=hq9.frozen 1;have nl:=hq9.lt;have d0:W9.cell? ⟨g8,0,none⟩=some (iv 0):=by rw[←hW9];exact((hq9.set_ 0 _).set_ 1 _).cell 0
   have d1:W9.cell? ⟨g8,1,none⟩=some (iv 0):=by rw[←hW9];exact((hq9.set_ 0 _).set_ 1 _).cell 1
   have HB9:Hid (BW w W9):=by rw[←hW9];exact Lq ((((OnlyAt.of_below (bR w5) g8).set 0 _).set 1 _).below (HB05.out) HG8.out)
   clear hq9;go_wp2_with fail;exact bodyPost_ret (v:=.tuple #[.agg #[iv 0,iv 0],iv 7]) (by simp[results,Tryz.results13,go_sem,d0,d1]) rfl ⟨0,0,7,rfl,HB9.out,⟨fun h=>(by cases h),fun h=>(by rw[KI.out]at h;cases h.2.1)⟩,fun h=>(by cases h),fun _ _ h=>by rw[KI.out]at h;cases h⟩
  | true =>
   by_cases hfl:first>last
   ·skip;obtain⟨W9,hW9⟩:=ex ((w5.setCell ⟨g8,0,none⟩ (iv 0)).setCell ⟨g8,1,none⟩ (iv 0));have hq9:=HQ84.out.keep HB5.out;have n0:=hq9.c 0;have n1:=hq9.c 1;have nf:=hq9.frozen 0;have nf1:=hq9.frozen 1;have nl:=hq9.lt;have d0:W9.cell? ⟨g8,0,none⟩=some (iv 0):=by rw[←hW9];exact((hq9.set_ 0 _).set_ 1 _).cell 0
    have d1:W9.cell? ⟨g8,1,none⟩=some (iv 0):=by rw[←hW9];exact((hq9.set_ 0 _).set_ 1 _).cell 1
    have HB9:Hid (BW w W9):=by rw[←hW9];exact Lq ((((OnlyAt.of_below (bR w5) g8).set 0 _).set 1 _).below (HB05.out) HG8.out)
    clear hq9;go_wp2_with fail;exact bodyPost_ret (v:=.tuple #[.agg #[iv 0,iv 0],iv 7]) (by simp[results,Tryz.results13,go_sem,d0,d1]) rfl ⟨0,0,7,rfl,HB9.out,⟨fun h=>(by cases h),fun h=>absurd h.2.2 (by omega)⟩,fun h=>(by cases h),fun _ _ _ h=>absurd h (by omega)⟩
   ·have KF:Hid (first≤last):=Lq (by omega)
    obtain⟨hf,hl⟩:inB 0 40 first=true∧inB 0 40 last=true:=by have:=KI.out;rwa [Bool.and_eq_true]at this
    have hf2:=inB_t hf;have hl2:=inB_t hl;obtain⟨out,rfl,hps,hsl⟩:=HYES.out (by trivial)
    have HPL:=Lq (HIFF.out.1 (by trivial))
    have hso:ShipOk (psOf out):=hps▸shipOn_ok HPL.out.1 day;have h12:out.length≤12:=by
     have h:=hso.len
     simpa using h
    have HSO:=Lq hso;have HPS:=Lq hps;have HSL:=Lq (((hsl.below HB34.out (lr _)).more HB34.out.size).below HB5.out (lr _));have m5:=(HQ10.out.keep HB5.out).c 0;clear hps hsl hso hf hl;go_wp2_with fail;clear m5;go_loopw [41] (fun i wr=>∃k:Nat,k≤out.length∧i=iv k∧Hid (Blk wr g8 36 #[iv (loWs first last ((psOf out).take k)),iv (hiWs first last ((psOf out).take k))])∧Hid (OnlyAt w5 wr g8)) (fun i _=>out.length-(intOf i).toNat)
    case atStart=>exact⟨0,Nat.zero_le _,rfl,Lq (HQ84.out.keep HB5.out),Lq (OnlyAt.of_below (bR _) _)⟩
    case round =>
     obtain⟨k,hk,rfl,HQ,HOW⟩:=hrel;have hk0:(0:Int)≤(k:Int):=by omega
     by_cases hlt:k<out.length
     ·obtain⟨y,hy⟩:=gX (l:=out) (i:=k) hlt;have hsr:=HSL.out.apart (int2_ne (HQ84.out.keep HB5.out)) HOW.out;obtain⟨b,off,hA,hbB,hMy,c0,c1,c2,c3,c4,c5,c6⟩:=hsr.rd.at hy;have hpk:=HSO.out.part k _ (ps_at hy);have hfr:=hpk.fr;have hwt:=hpk.wt;obtain⟨s1,s2,s3,s4⟩:=some_bd (f:=first) (l:=last) hfr;have hsum:=sumW_bd (f:=first) (l:=last) HSO.out k;have hn1:=loWs_snoc (f:=first) (l:=last) (ps_at hy);have hn2:=hiWs_snoc (f:=first) (l:=last) (ps_at hy);have hb1:=weigh_bd (wl:=y.p.wlo) (by omega) (by omega) s1 s2 s3 s4
      have hb2:=weigh_bd (wl:=y.p.whi) (by omega) (by omega) s1 s2 s3 s4
      unfold loW at hn1;unfold hiW at hn2;obtain⟨⟨yn,yk,yf,yl,yon,yw,yz⟩,yA,yc⟩:=y;subst hA;obtain⟨al,hal⟩:=ex (allW ⟨yn,yk,yf,yl,yon,yw,yz⟩);obtain⟨sm,hsm⟩:=ex (someW first last ⟨yn,yk,yf,yl,yon,yw,yz⟩);simp only[hal,hsm]at hn1 hn2 hb1 hb2 s1 s2 s3 s4 c0 c1 c2 c3 c4 c5 c6 hfr hwt;simp only[allW]at hal;simp only[someW]at hsm;obtain⟨lo,hlo⟩:=ex (loWs first last ((psOf out).take k));obtain⟨hi,hhi⟩:=ex (hiWs first last ((psOf out).take k));rw[hlo,hhi]at HQ;rw[hlo]at hn1 hsum;rw[hhi]at hn2 hsum;obtain⟨m1,hm1⟩:=ex (yw*sm);obtain⟨m2,hm2⟩:=ex (yz*sm);rw[hm1]at hn1 hb1;rw[hm2]at hn2 hb2;obtain⟨q1,hq1⟩:=ex (m1.tdiv al);obtain⟨q2,hq2⟩:=ex ((m2+al-1).tdiv al);rw[hq1]at hn1 hb1;rw[hq2]at hn2 hb2;have HM1:Hid (IntKind.i64.wrap (yw*sm)=m1):=Lq (by rw[hm1,IntKind.wrap_i64];omega)
      have HM2:Hid (IntKind.i64.wrap (yz*sm)=m2):=Lq (by rw[hm2,IntKind.wrap_i64];omega)
      have HQ1:Hid (IntKind.i64.wrap (m1.tdiv al)=q1):=Lq (by rw[hq1,IntKind.wrap_i64];omega)
      have HQ2:Hid (IntKind.i64.wrap ((m2+al-1).tdiv al)=q2):=Lq (by rw[hq2,IntKind.wrap_i64];omega)
      have HS1:Hid (IntKind.i64.wrap (lo+q1)=lo+q1):=Lq (by rw[IntKind.wrap_i64];omega)
      have HS2:Hid (IntKind.i64.wrap (hi+q2)=hi+q2):=Lq (by rw[IntKind.wrap_i64];omega)
      have HP1:Hid (IntKind.i64.wrap (m2+al)=m2+al):=Lq (by rw[IntKind.wrap_i64];omega)
      have HP2:Hid (IntKind.i64.wrap (m2+al-1)=m2+al-1):=Lq (by rw[IntKind.wrap_i64];omega)
      have HN1:=Lq hn1;have HN2:=Lq hn2;have HAL:Hid (¬al=0):=Lq (by omega)
      have w1:IntKind.i64.wrap (yl-yf)=yl-yf:=by rw[IntKind.wrap_i64];omega
      have w2:IntKind.i64.wrap (yl-yf+1)=al:=by rw[IntKind.wrap_i64];omega
      have w3:IntKind.i64.wrap (min last yl-max first yf)=min last yl-max first yf:=by rw[IntKind.wrap_i64];omega
      have w4:IntKind.i64.wrap (min last yl-max first yf+1)=min last yl-max first yf+1:=by rw[IntKind.wrap_i64];omega
      obtain⟨Wb,W6,hWb,hW6,hb6,hqb,hbb,hq6⟩:=partMade wr yn yk yf yl yw yz yA yc yon.length;obtain⟨g2,hg2⟩:=ex wr.heap.size;rw[hg2]at hW6 hqb hq6;have HB6:=Lq hb6;have HQ6:=Lq hq6;have HN6:Hid (g8<g2):=Lq (hg2▸HQ.out.lt);have HQ86:=Lq (HQ.out.keep hb6);obtain⟨f0,f1,f2,f3,f4,f5,f6⟩:=hqb.f7;obtain⟨e0,e1,e2,e3,e4,e5,e6⟩:=hqb.c7;have el:=hqb.lt;have d2:=hq6.c 2;have d3:=hq6.c 3;clear hMy hy hb6 hqb hbb hq6 hpk hwt hsum hn1 hn2 hb1 hb2 s1 s2 s3 s4 hm1 hm2 hq1 hq2 hlo hhi hsr;go_wp2_with fail;clear c0 c1 c2 c3 c4 c5 c6 e0 e1 e2 e3 e4 e5 e6 f0 f1 f2 f3 f4 f5 f6 el hWb hW6 hg2;go_quiet (fail)
      rename_i nq;have hn6:BW W6 (W6.drewN nq):=belowN (bR _) _;have HB7:Hid (BW wr (W6.drewN nq)):=Lq (bT HB6.out hn6);have HQ67:Hid (Blk (W6.drewN nq) g2 43 #[.string yn,iv yk,iv yf,iv yl,.slice yA yon.length yc,iv yw,iv yz]):=Lq (HQ6.out.keep hn6);have HQ87:Hid (Blk (W6.drewN nq) g8 36 #[iv lo,iv hi]):=Lq (HQ86.out.keep hn6);clear hn6 d2 d3 w1 w2 w3 w4 hal hsm;clear HB6 HQ6 HQ86;generalize W6.drewN nq=w6 at HB7 HQ67 HQ87 ⊢;have HB6:=HB7;have HQ6:=HQ67;have HQ86:=HQ87;clear HB7 HQ67 HQ87;go_upto_region 10 with fail
      refine reg10_10 (sm:=sm) HAL.out HM1.out HQ1.out HS1.out HQ86.out (fun W hb=>⟨(HQ86.out.keep hb).c 0,(HQ6.out.keep hb).c 5⟩) ?_
      intro u62 u63 u64 u65 u66 u67 u68 u69 u70 u71 u72 w7 hb7;have hq7:=(HQ86.out.keep hb7).set_ 0 (iv (lo+q1));have o7:OnlyAt w7 (w7.setCell ⟨g8,0,none⟩ (iv (lo+q1))) g8:=OnlyAt.of_set (bR w7) g8 0 _;have hq67:=(HQ6.out.keep hb7).same (o7.block g2 (HQ6.out.keep hb7).lt (by have:=HN6.out;omega))
      have HO7:Hid (OnlyAt w5 (w7.setCell ⟨g8,0,none⟩ (iv (lo+q1))) g8):=Lq (oT (oT HOW.out (OnlyAt.of_below (bT HB6.out hb7) g8)) o7);obtain⟨w8,hw8⟩:=ex (w7.setCell ⟨g8,0,none⟩ (iv (lo+q1)));rw[hw8]at hq7 hq67 HO7;have HQ7:Hid (Blk w8 g8 36 #[iv (lo+q1),iv hi]):=Lq (by simpa using hq7)
      have HQ67:=Lq hq67;clear hq7 hq67 hb7 o7;rw[hw8];clear hw8;go_upto_region 11 with fail
      refine reg10_11 (sm:=sm) (m:=m2) HAL.out HM2.out HP1.out HP2.out HQ2.out HS2.out HQ7.out (fun W hb=>⟨(HQ7.out.keep hb).c 1,(HQ67.out.keep hb).c 6⟩) ?_
      intro u73 u74 u75 u76 u77 u78 u79 u80 u81 u82 u83 u84 u85 u86 w9 hb9;have hq9:=(HQ7.out.keep hb9).set_ 1 (iv (hi+q2));have o9:OnlyAt w9 (w9.setCell ⟨g8,1,none⟩ (iv (hi+q2))) g8:=OnlyAt.of_set (bR w9) g8 1 _;have HO9:Hid (OnlyAt w5 (w9.setCell ⟨g8,1,none⟩ (iv (hi+q2))) g8):=Lq (oT (oT HO7.out (OnlyAt.of_below hb9 g8)) o9);obtain⟨w10,hw10⟩:=ex (w9.setCell ⟨g8,1,none⟩ (iv (hi+q2)));rw[hw10]at hq9 HO9;have HQ9:Hid (Blk w10 g8 36 #[iv (lo+q1),iv (hi+q2)]):=Lq (by simpa using hq9)
      clear hq9 hb9 o9;rw[hw10];clear hw10;go_wp2_with fail;go_roundw
      case measure=>simp[intOf];omega
      case rel=>exact⟨k+1,by omega,by go_num,Lq (by rw[HN1.out,HN2.out];exact HQ9.out),HO9⟩
     ·obtain rfl:k=out.length:=by omega
      have hlo:loWs first last ((psOf out).take out.length)=loWs first last (psOf out):=by rw[List.take_of_length_le (by simp)]
      have hhi:hiWs first last ((psOf out).take out.length)=hiWs first last (psOf out):=by rw[List.take_of_length_le (by simp)]
      rw[hlo,hhi]at HQ;obtain⟨lo,hlo⟩:=ex (loWs first last (psOf out));obtain⟨hi,hhi⟩:=ex (hiWs first last (psOf out));rw[hlo,hhi]at HQ;have HEND:Hid (BW w wr):=Lq (HOW.out.below HB05.out HG8.out);have HRES:Hid (lo=loWs first last (shipOn day (psOf ms) (csOf cs))∧hi=hiWs first last (shipOn day (psOf ms) (csOf cs))):=Lq ⟨by rw[←hlo,HPS.out],by rw[←hhi,HPS.out]⟩
      clear hlo hhi;obtain⟨W9,hW9⟩:=ex ((wr.setCell ⟨g8,0,none⟩ (iv lo)).setCell ⟨g8,1,none⟩ (iv hi));have hq9:=HQ.out;have n0:=hq9.c 0;have n1:=hq9.c 1;have nf:=hq9.frozen 0;have nf1:=hq9.frozen 1;have nl:=hq9.lt;have d0:W9.cell? ⟨g8,0,none⟩=some (iv lo):=by rw[←hW9];exact((hq9.set_ 0 _).set_ 1 _).cell 0
      have d1:W9.cell? ⟨g8,1,none⟩=some (iv hi):=by rw[←hW9];exact((hq9.set_ 0 _).set_ 1 _).cell 1
      have HB9:Hid (BW w W9):=by rw[←hW9];exact Lq ((((OnlyAt.of_below (bR wr) g8).set 0 _).set 1 _).below (HEND.out) HG8.out)
      clear hq9;go_wp2_with fail;exact bodyPost_ret (v:=.tuple #[.agg #[iv lo,iv hi],iv 0]) (by simp[results,Tryz.results13,go_sem,d0,d1]) rfl ⟨lo,hi,0,rfl,HB9.out,⟨fun _=>⟨HPL.out,KI.out,KF.out⟩,fun _=>rfl⟩,fun _=>HRES.out,fun h=>absurd rfl h⟩
 ·have hr1:(r != 0)=true:=by simpa using hr
  obtain⟨W9,hW9⟩:=ex ((W4.setCell ⟨g8,0,none⟩ (iv 0)).setCell ⟨g8,1,none⟩ (iv 0));have hq9:=HQ84.out;have n0:=hq9.c 0;have n1:=hq9.c 1;have nf:=hq9.frozen 0;have nf1:=hq9.frozen 1;have nl:=hq9.lt;have d0:W9.cell? ⟨g8,0,none⟩=some (iv 0):=by rw[←hW9];exact((hq9.set_ 0 _).set_ 1 _).cell 0
  have d1:W9.cell? ⟨g8,1,none⟩=some (iv 0):=by rw[←hW9];exact((hq9.set_ 0 _).set_ 1 _).cell 1
  have HB9:Hid (BW w W9):=by rw[←hW9];exact Lq ((((OnlyAt.of_below (bR W4) g8).set 0 _).set 1 _).below (HB4.out) HG8.out)
  clear hq9;go_wp2_with fail;exact bodyPost_ret (v:=.tuple #[.agg #[iv 0,iv 0],iv r]) (by simp[results,Tryz.results13,go_sem,d0,d1]) rfl ⟨0,0,r,rfl,HB9.out,⟨fun h=>absurd h hr,fun h=>absurd (HIFF.out.2 h.1) hr⟩,fun h=>absurd h hr,fun h hd _ _=>HCD.out h hd⟩
theorem weigh10_any(A C:Option Addr)(ms:List HuM)(cs:List HcM)(B cap capc:Nat)(day first last:Int)(w:World)(hB:B≤w.heap.size)(H:SlM w B A cap ms)(HC:SlC w B C capc cs)(HW:∀c∈cs,Lit.wf (.int .i64 c.what)=true) :
  Cs 13 #[.agg #[.slice A ms.length cap,.slice C cs.length capc],iv day,iv first,iv last] w (WeighPost ms cs day first last w) :=
 (weigh10_all A C ms cs B cap capc day first last w hB H HC HW).mono fun _ _ ⟨lo,hi,r,h1,h2,h3,h4,_⟩=>⟨lo,hi,r,h1,h2,h3,h4⟩
end
end Go.Proofs.YtigcophcpboanaaGreatDoor
