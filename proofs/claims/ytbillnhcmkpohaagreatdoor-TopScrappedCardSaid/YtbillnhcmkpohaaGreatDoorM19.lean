/- waste: the text of a yard (printed by mkWH3.py). waste: Read takes a line (printed by .. -/
import Derived.Test.YtbillnhcmkpohaaGreatDoorM18
set_option maxRecDepth 1000000
set_option maxHeartbeats 0
namespace Go.Proofs.YtbillnhcmkpohaaGreatDoor
open Go.RowKit Go.Shelf
attribute [local go_sem] Oper.semAt_some
abbrev iG:ByteArray:=⟨#[107,105,110,100,115]⟩
abbrev jz:ByteArray:=⟨#[112,108,97,99,101,115]⟩
abbrev nB:ByteArray:=⟨#[102,105,114,115,116]⟩
abbrev iH:ByteArray:=⟨#[112,97,112,101,114]⟩
abbrev mE:ByteArray:=⟨#[108,97,115,116]⟩
def nC(y:ar)(p:cT):List ByteArray:=[iH,y.kinds.getD p.kind.toNat ⟨#[]⟩,db y p.fr,db y p.en,aW p.kilos,if 0≤p.copy then aW p.copy else iB]
def iI(y:ar)(ps:List cT):List UInt8:=ps.flatMap fun p=>aM (nC y p)
def nD(y:ar):List UInt8:=aM (iG::y.kinds)++aM (jz::y.places)++gT nB y y.first++iI y y.papers++gT mE y y.last
structure Gd(y:ar)(p:cT):Prop where
 kind:0≤p.kind∧p.kind<y.kinds.length
 fr:p.fr = -1∨0≤p.fr∧p.fr<y.places.length
 en:p.en = -1∨0≤p.en∧p.en<y.places.length
 kg:-9223372036854775808≤p.kilos∧p.kilos≤9223372036854775807
 copy:-9223372036854775808≤p.copy∧p.copy≤9223372036854775807
structure sL(y:ar):Prop where
 kinds:0<y.kinds.length∧y.kinds.length≤1000
 places:0<y.places.length∧y.places.length≤1000
 l0:(aM (iG::y.kinds)).length≤100000
 l1:(aM (jz::y.places)).length≤100000
 first:∀c∈y.first,pV y c∧(aM (kO nB y c)).length≤100000
 papers:∀p∈y.papers,Gd y p∧(aM (nC y p)).length≤100000
 last:∀c∈y.last,pV y c∧(aM (kO mE y c)).length≤100000
 nf:y.first.length≤100
 np:y.papers.length≤100
 nl:y.last.length≤100
noncomputable def Ge:Array Oper:=aU (aF Tryz.f120 5)
noncomputable def Gf:Array Oper:=aU (aF Tryz.f120 6)
noncomputable def yB:Array Oper:=aU (aF Tryz.f120 14)
theorem Gg{a:ByteArray}{y:ar}{cs:List cM}(h:∀c∈cs,pV y c∧(aM (kO a y c)).length≤100000)(g:cs.length≤100):(gT a y cs).length≤10000000:=by
 have b:=lH (f:=fun c=>aM (kO a y c)) (k:=100000) cs fun c hc=>(h c hc).2
 have d:=lT b (Nat.mul_le_mul_right 100000 g);exact lT d (by decide)
theorem yC(y:ar)(A:aI)(B:Nat)(w:World)(H:aO w B y A)(hB:B≤w.heap.size)(hX:sL y)(hT:fe w) :
  Cs 120 #[.agg (ak y A)] w (Rt w (.string ⟨(nD y).toArray⟩)):=by
 obtain⟨i9,aN,ai,aj,al⟩:=info_parts Tryz.info9;obtain⟨x0,hx0⟩:∃x,y.kinds[0]?=some x:=⟨_,gE hX.kinds.1⟩;obtain⟨bk0,ok0,hA0, -, -⟩:=H.k 0 x0 hx0;obtain⟨x1,hx1⟩:∃x,y.places[0]?=some x:=⟨_,gE hX.places.1⟩;obtain⟨bp0,op0,hA1, -, -⟩:=H.p 0 x1 hx1;obtain⟨a0,ha0⟩:=ex (⟨bk0,ok0,none⟩:Addr);obtain⟨a1,ha1⟩:=ex (⟨bp0,op0,none⟩:Addr);rw[ha0]at hA0;rw[ha1]at hA1;have HA0:=Lq hA0;have HA1:=Lq hA1;obtain⟨W1,hW1,b1⟩:=nA w (.cells (ak y A) 74);obtain⟨g1,hg1⟩:=ex w.heap.size;obtain⟨W2,hW2,b2⟩:=nA W1 (.cells #[.pointer none,.slice none 0 0] 233);obtain⟨b,hbb⟩:=ex W1.heap.size;obtain⟨Wa,W3,hWa,hW3,g,qa,hba,q4⟩:=gg W2 239 .nilFunc (.func (.func 181) #[] #[pT b 0]);obtain⟨t4,ht4⟩:=ex W2.heap.size;rw[ht4]at hW3 qa q4;have q1:aa W1 g1 74 (ak y A):=by rw[←hW1,←hg1];exact aa.new w 74 _
 have au:Lib.IsBuilderF 233 5 b b (Lib.byteCells []) W2:=by rw[←hW2,←hbb];exact Lib.IsBuilderF.of (Lib.fresh_isBuilder 233 5 W1)
 have J:=jQ au g;have HI5:=Lq J;have HQ1:=Lq (q1.keep (bT b2 g));have HQ4:=Lq q4;have hgb:g1<b:=by rw[←hbb];exact q1.lt
 have N:Hid (g1≠b):=Lq (by omega)
 have aT:b<t4:=by rw[←ht4];exact my au
 have V:Hid (t4≠b):=Lq (by omega)
 have E:Hid (B≤b):=Lq (by have:=b1.size;omega)
 have aA:Hid (g1<b):=Lq hgb;have HKW5:Hid (BK b W3 W3):=Lq (BK.rf b W3);have HBZ5:Hid (b≤W3.heap.size):=Lq (by have:=g.size;omega)
 have aD:Hid (([]:List UInt8).length≤1000000000):=Lq (by decide)
 have ax:=bT b1 (bT b2 g);have HY:=Lq (H.below ax hB);have HT:=Lq (fun W (h:BW w W)=>hT.below h (lr _))
 have aJ:=Lq ax;have HBW1:Hid (w.heap.size≤b):=Lq (by have:=b1.size;omega)
 have v:=Lq hX;have hsf:∀(w:World) (a:Addr) (m:Mode) (fn:Fn) (x z:Array Value),(store a (.func fn x z) m).run Tryz.prog w=stored Tryz.prog w a (.func fn x z) m:=fun w a m fn x z=>run_store Tryz.prog w a _ m rfl
 have f4:=qa.frozen 0;have c4:=qa.c 0;have l4:=qa.lt;clear H hB hX hT hA0 hA1 ha0 ha1 hx0 hx1 b1 b2 q1 q4 au J g hba qa ax hgb;go_enter Tryz.func120,Tryz.ntmps120
 go_upto_region 5 with fail
 clear hW1 hW2 hWa hW3 hg1 hbb ht4 hsf f4 c4 l4 aT;have G:Hid (∀W,BK b W3 W→cA W t4 0 (.func (.func 181) #[] #[pT b 0])∧cA W g1 0 (.slice (some a0) y.kinds.length A.ck)):=Lq fun W hb=>⟨(HKW5.out.tr hb |>.blk HQ4.out V.out (by decide)).c 0,HA0.out▸(HKW5.out.tr hb |>.blk HQ1.out N.out (by decide)).c 0⟩
 go_upto_region 5 with fail
 refine gd (ops:=Ge) (r:=5) (n:=7) (S:=fun W=>cA W t4 0 (.func (.func 181) #[] #[pT b 0])∧cA W g1 0 (.slice (some a0) y.kinds.length A.ck)) (fun W hb=>G.out W (BK.bw hb HBZ5.out)) fun V0 HB0 d=>?_
 refine tk 0 (.func (.func 181) #[] #[pT b 0]) ?_;refine tk 2 (pT g1 0) ?_;refine tk 3 (pT g1 0) ?_;refine tk 4 (.slice (some a0) y.kinds.length A.ck) ?_;refine rd1 1 fun O hK=>?_
 go_simp;have o:=Lq (bA HB0.out (.cells #[.string iG] 9));have HO1:=Lq (World.ownsRow_lit (e:=9) (size:=1) (base:=W3.heap.size) V0 #[.string iG] 1 HB0.out.size (by decide) rfl)
 obtain⟨w1,u⟩:=ex (V0.alloc (.cells #[.string iG] 9));obtain⟨gs,hgs⟩:=ex V0.heap.size;rw[u]at o HO1;rw[hgs]at HO1
 (try rw[u,hgs])
 refine hK.out _ _ (G.out _ (BK.bw o.out HBZ5.out)) (fun d=>?_)
 clear hK u hgs;refine rd1 5 fun O hK=>?_
 have ab:am .string w1 B (some a0) y.kinds:=HA0.out▸(HY.out.below (HKW5.out.tr (BK.bw o.out HBZ5.out)).1 E.out).k;refine kX (by rfl) _ _ 40 (by rfl) W3.heap.size 9 i9 _ 1 16 Tryz.underlying40 aN ai aj al rfl (by decide) (.slice (some ⟨gs,0,none⟩) 1 1) 1 _ (by rfl) HO1.out (.slice (some a0) y.kinds.length A.ck) y.kinds.length _ (by rfl) (nZ ab) (by have:=v.out.kinds;unfold maxLen;omega) (by have:=v.out.kinds;omega) o.out.size ?_
 intro v9 w2 j t;have HB2:Hid (BW W3 w2):=Lq (cC HO1.out t (lr _) o.out);have j:w2.ownsRow W3.heap.size 9 1 v9 (1+y.kinds.length) ((iG::y.kinds).map .string):=j;rw[show 1+y.kinds.length=(iG::y.kinds).length by simp only[List.length_cons];omega]at j
 obtain⟨A9,c9,rfl,L,K,Z⟩:=fS j;have HLI:=Lq (oz b c9 A9 (iG::y.kinds) ([]) w2 (jQ HI5.out HB2.out) (by simp) L K (by have:=v.out.kinds;simp only[List.length_cons];omega) v.out.l0 aD.out)
 refine hK.out _ _ (G.out _ (BK.bw HB2.out HBZ5.out)) (fun d=>?_)
 clear hK j t ab L K Z;refine rd1 6 fun O hK=>?_
 go_simp;refine HLI.out.mono ?_;rintro e w5 ⟨rfl,J,g⟩;have HI6:=Lq J;have HKW6:=Lq (HKW5.out.tr ((BK.bw HB2.out HBZ5.out).tr g));have HBZ6:Hid (b≤w5.heap.size):=Lq (Nat.le_of_lt (my HI6.out));refine hK.out _ _ (G.out _ ((BK.bw HB2.out HBZ5.out).tr g)) (fun d=>?_)
 clear hK J g;refine dn ?_;clear d G HB0 o HO1 HB2 HLI HI5 HBZ5;rw[List.nil_append]at HI6;have aE:Hid ((aM (iG::y.kinds)).length≤1000000000):=Lq (by have:=v.out.l0;omega)
 have I:Hid (∀W,BK b w5 W→cA W t4 0 (.func (.func 181) #[] #[pT b 0])∧cA W g1 1 (.slice (some a1) y.places.length A.cp)):=Lq fun W hb=>⟨(HKW6.out.tr hb |>.blk HQ4.out V.out (by decide)).c 0,HA1.out▸(HKW6.out.tr hb |>.blk HQ1.out N.out (by decide)).c 1⟩
 go_upto_region 6 with fail
 refine gd (ops:=Gf) (r:=6) (n:=7) (S:=fun W=>cA W t4 0 (.func (.func 181) #[] #[pT b 0])∧cA W g1 1 (.slice (some a1) y.places.length A.cp)) (fun W hb=>I.out W (BK.bw hb HBZ6.out)) fun V0 HB0 d=>?_
 refine tk 0 (.func (.func 181) #[] #[pT b 0]) ?_;refine tk 2 (pT g1 0) ?_;refine tk 3 (pT g1 1) ?_;refine tk 4 (.slice (some a1) y.places.length A.cp) ?_;refine rd1 1 fun O hK=>?_
 go_simp;have o:=Lq (bA HB0.out (.cells #[.string jz] 9));have HO1:=Lq (World.ownsRow_lit (e:=9) (size:=1) (base:=w5.heap.size) V0 #[.string jz] 1 HB0.out.size (by decide) rfl)
 obtain⟨w1,u⟩:=ex (V0.alloc (.cells #[.string jz] 9));obtain⟨gs,hgs⟩:=ex V0.heap.size;rw[u]at o HO1;rw[hgs]at HO1
 (try rw[u,hgs])
 refine hK.out _ _ (I.out _ (BK.bw o.out HBZ6.out)) (fun d=>?_)
 clear hK u hgs;refine rd1 5 fun O hK=>?_
 have ab:am .string w1 B (some a1) y.places:=HA1.out▸(HY.out.below (HKW6.out.tr (BK.bw o.out HBZ6.out)).1 E.out).p;refine kX (by rfl) _ _ 40 (by rfl) w5.heap.size 9 i9 _ 1 16 Tryz.underlying40 aN ai aj al rfl (by decide) (.slice (some ⟨gs,0,none⟩) 1 1) 1 _ (by rfl) HO1.out (.slice (some a1) y.places.length A.cp) y.places.length _ (by rfl) (nZ ab) (by have:=v.out.places;unfold maxLen;omega) (by have:=v.out.places;omega) o.out.size ?_
 intro v9 w2 j t;have HB2:Hid (BW w5 w2):=Lq (cC HO1.out t (lr _) o.out);have j:w2.ownsRow w5.heap.size 9 1 v9 (1+y.places.length) ((jz::y.places).map .string):=j;rw[show 1+y.places.length=(jz::y.places).length by simp only[List.length_cons];omega]at j
 obtain⟨A9,c9,rfl,L,K,Z⟩:=fS j;have HLI:=Lq (oz b c9 A9 (jz::y.places) (aM (iG::y.kinds)) w2 (jQ HI6.out HB2.out) (by simp) L K (by have:=v.out.places;simp only[List.length_cons];omega) v.out.l1 aE.out)
 refine hK.out _ _ (I.out _ (BK.bw HB2.out HBZ6.out)) (fun d=>?_)
 clear hK j t ab L K Z;refine rd1 6 fun O hK=>?_
 go_simp;refine HLI.out.mono ?_;rintro e w7 ⟨rfl,J,g⟩;have HI7:=Lq J;have HKW7:=Lq (HKW6.out.tr ((BK.bw HB2.out HBZ6.out).tr g));have HBZ7:Hid (b≤w7.heap.size):=Lq (Nat.le_of_lt (my HI7.out));refine hK.out _ _ (I.out _ ((BK.bw HB2.out HBZ6.out).tr g)) (fun d=>?_)
 clear hK J g;refine dn ?_;clear d I HB0 o HO1 HB2 HLI HI6 HBZ6;have ao:Hid ((aM (iG::y.kinds)++aM (jz::y.places)).length≤200000):=Lq (by have:=v.out.l0;have:=v.out.l1;rw[List.length_append];omega)
 have ad:Hid (∀W,Below b W3 W→fe W):=Lq fun W h=>HT.out W (aJ.out.trans (h.mono HBW1.out))
 have y7:=HY.out.below HKW7.out.1 E.out;have q17:=HKW7.out.blk HQ1.out N.out (by decide)
 have ac:=HKW7.out.blk HQ4.out V.out (by decide)
 have az:=Lq (xF nB y A B b g1 t4 A.f A.cf y.first _ w7 y7 E.out aA.out q17 ac y7.f (fun W h=>ad.out W (HKW7.out.1.trans h)) HI7.out v.out.first (by have:=v.out.nf;omega) (by have:=ao.out;omega))
 have x2:=q17.c 2;clear y7 q17 ac;go_wp2_with fail;refine az.out.mono ?_;rintro e w8 ⟨rfl,hi8,hk8⟩;have hct:=Gg v.out.first v.out.nf;obtain⟨T0,hT0⟩:=ex (aM (iG::y.kinds)++aM (jz::y.places)++gT nB y y.first);have HT0:=Lq hT0;have HL8:Hid (T0.length≤20000000):=Lq (by rw[←hT0,List.length_append];have:=ao.out;omega)
 rw[hT0]at hi8;have aB:Hid (Lib.IsBuilderF 233 5 b b (Lib.byteCells (T0++iI y (y.papers.take 0))) w8):=Lq (by simpa[iI]using hi8)
 have an:=Lq (HKW7.out.tr hk8);have x3:w8.cell? ⟨g1,3,none⟩=some (.slice A.a y.papers.length A.ca):=(an.out.blk HQ1.out N.out (by decide)).c 3
 obtain⟨Aa,ap⟩:=ex A.a;rw[ap]at x3;have HAA:=Lq ap;clear x2 hi8 hk8 hct hT0 ap az HI7 HBZ7 ao HKW7 HKW6 HKW5 aD aE;go_wp2_with fail;clear x3;go_loopw [36] (fun i wr=>∃k:Nat,k≤y.papers.length∧i=iv k∧Hid (Lib.IsBuilderF 233 5 b b (Lib.byteCells (T0++iI y (y.papers.take k))) wr)∧Hid (BK b W3 wr)) (fun i _=>y.papers.length-(intOf i).toNat)
 case atStart=>exact⟨0,Nat.zero_le _,rfl,aB,an⟩
 case round =>
  clear aB an;obtain⟨k,hk,rfl,HI,F⟩:=hrel;have hk0:=nn k;by_cases hlt:k<y.papers.length
  ·obtain⟨⟨aQ,fr,C,kg,R⟩,hm⟩:∃x,y.papers[k]?=some x:=gX hlt;obtain⟨hok,hln⟩:=v.out.papers _ (mG ⟨k,hm⟩);obtain⟨hkd,hfr,hen,hkg,hcy⟩:=hok;simp only at hkd hfr hen hkg hcy;obtain⟨kd,rfl⟩:∃n:Nat,aQ=n:=⟨aQ.toNat,by omega⟩
   have aU:kd<y.kinds.length:=by omega
   obtain⟨D,av⟩:=gX (l:=y.kinds) (i:=kd) aU;have HYR:=Lq (HY.out.below F.out.1 E.out);obtain⟨bk,ok,hAk,hbk,hck⟩:=HYR.out.k kd D av;have hck:wr.cell? ⟨bk,ok+kd,none⟩=some (.string D):=hck;obtain⟨ba,oa,hA, -,c0,c1,c2,c3,c4⟩:=HYR.out.paper hm;simp only at c0 c1 c2 c3 c4;obtain rfl:Aa=some ⟨ba,oa,none⟩:=HAA.out.symm.trans hA;obtain⟨Wa,Wb,hWa,hWb,hbb,qa,hba,qb⟩:=fh wr 53 (iv 0) (iv 0) (iv 0) (iv 0) (iv 0) (iv kd) (iv fr) (iv C) (iv kg) (iv R);obtain⟨g8,hg8⟩:=ex wr.heap.size;rw[hg8]at hWb qa qb;obtain⟨f0,f1,f2,f3,f4⟩:=qa.f5;obtain⟨e0,e1,e2,e3,e4⟩:=qa.c5;have el:=qa.lt;have d4:=qb.c 4;have hbz:b<wr.heap.size:=my HI.out;have hkb:=BK.bw hbb (Nat.le_of_lt hbz);have HKB:=Lq (F.out.tr hkb);have hlw:nC y ⟨kd,fr,C,kg,R⟩=[iH,D,db y fr,db y C,aW kg,if 0≤R then aW R else iB]:=by unfold nC;simp only[Int.toNat_natCast];rw[pU av]
   have ae:Hid (T0++iI y (y.papers.take (k+1))=(T0++iI y (y.papers.take k))++aM [iH,D,db y fr,db y C,aW kg,if 0≤R then aW R else iB]):=Lq (by unfold iI;rw[List.take_add_one,hm,List.flatMap_append,←hlw];simp)
   have af:Hid ((aM [iH,D,db y fr,db y C,aW kg,if 0≤R then aW R else iB]).length≤100000):=Lq (by rw[←hlw];exact hln)
   have aH:Hid ((T0++iI y (y.papers.take k)).length≤1000000000):=Lq (by
    have h:=lH (f:=fun c=>aM (nC y c)) (k:=100000) (y.papers.take k) (fun c hc=>(v.out.papers c (List.mem_of_mem_take hc)).2)
    have h2:(y.papers.take k).length≤100:=by rw[List.length_take];have:=v.out.np;omega
    have h3:=lT h (Nat.mul_le_mul_right 100000 h2);have h4:=HL8.out;rw[List.length_append];show _+(List.flatMap _ _).length≤_
    omega)
   have aL:g8≠b:=by omega
   have aF:Hid (∀W,BK b Wb W→cA W t4 0 (.func (.func 181) #[] #[pT b 0])∧cA W g1 0 (.slice (some ⟨bk,ok,none⟩) y.kinds.length A.ck)∧cA W bk (ok+kd) (.string D)∧cA W g8 0 (iv kd)∧cA W g8 1 (iv fr)∧cA W g8 2 (iv C)∧cA W g8 3 (iv kg)):=Lq fun W hb=>by
    have q1:=(F.out.tr (hkb.tr hb)).blk HQ1.out N.out (by decide)
    have q4:=(F.out.tr (hkb.tr hb)).blk HQ4.out V.out (by decide)
    have q8:=hb.blk qb aL (by decide)
    have x0:=q1.c 0;rw[hAk]at x0;have hB:=E.out;exact⟨q4.c 0,x0,(World.cell?_of_block (w:=wr) (a:=⟨bk,_,none⟩) ((hkb.tr hb).1.block bk (by omega))).trans hck,q8.c 0,q8.c 1,q8.c 2,q8.c 3⟩
   have ag:=Lq fun W q (h:BK b Wb W) hq=>Fv y A B g1 q W ((HKB.out.tr h).blk HQ1.out N.out (by decide)) (HY.out.below (HKB.out.tr h).1 E.out) hq
   have ah:=Lq (And.intro hfr hen);have HIK:=Lq fun W (h:BK b Wb W)=>m9 kg hkg.1 hkg.2 W (ad.out W (HKB.out.tr h).1)
   have aS:=Lq fun W (h:BK b Wb W)=>m9 R hcy.1 hcy.2 W (ad.out W (HKB.out.tr h).1)
   have aC:=Lq (jQ HI.out hbb);have hBz:b≤Wb.heap.size:=by have:=hbb.size;omega
   have aV:=HYR.out.lk;have hma:=HYR.out.la;unfold maxLen at aV hma;clear hm hln av hAk hck hlw hbk hkb qb hba qa hA hfr hen hkg;by_cases hc:0≤R
   ·rw[if_pos hc]at ae af;go_wp2_with fail;refine(aS.out _ (BK.rf b Wb)).mono ?_;rintro e w5 ⟨rfl,aq⟩;have s:=Lq (BK.bw aq hBz);have HI5:=Lq (jQ aC.out aq);have HBZ:Hid (b≤w5.heap.size):=Lq (Nat.le_of_lt (my HI5.out));clear c0 c1 c2 c3 c4 f0 f1 f2 f3 f4 e0 e1 e2 e3 e4 el d4 hWa hWb hg8 aq hbb;have HSA:Hid (∀W,BK b w5 W→cA W t4 0 (.func (.func 181) #[] #[pT b 0])∧cA W g1 0 (.slice (some ⟨bk,ok,none⟩) y.kinds.length A.ck)∧cA W bk (ok+kd) (.string D)∧cA W g8 0 (iv kd)∧cA W g8 1 (iv fr)∧cA W g8 2 (iv C)∧cA W g8 3 (iv kg)):=Lq fun W hb=>aF.out W (s.out.tr hb)
    go_upto_region 14 with fail
    refine gd (ops:=yB) (r:=14) (n:=22) (S:=fun W=>cA W t4 0 (.func (.func 181) #[] #[pT b 0])∧cA W g1 0 (.slice (some ⟨bk,ok,none⟩) y.kinds.length A.ck)∧cA W bk (ok+kd) (.string D)∧cA W g8 0 (iv kd)∧cA W g8 1 (iv fr)∧cA W g8 2 (iv C)∧cA W g8 3 (iv kg)) (fun W hb=>HSA.out W (BK.bw hb HBZ.out)) fun V0 HB0 d=>?_
    refine tk 0 (.func (.func 181) #[] #[pT b 0]) ?_;refine tk 1 (pT g1 0) ?_;refine tk 2 (pT g1 0) ?_;refine tk 3 (.slice (some ⟨bk,ok,none⟩) y.kinds.length A.ck) ?_;refine tk 4 (pT g8 0) ?_;refine tk 5 (iv kd) ?_;refine tk 6 (pT bk (ok+kd)) ?_;refine tk 7 (.string D) ?_;refine tk 8 (.func (.func 183) #[] #[pT g1 0]) ?_;refine tk 9 (pT g8 1) ?_;refine tk 10 (iv fr) ?_;refine tk 12 (.func (.func 183) #[] #[pT g1 0]) ?_;refine tk 13 (pT g8 2) ?_;refine tk 14 (iv C) ?_;refine tk 16 (pT g8 3) ?_;refine tk 17 (iv kg) ?_;refine tk 19 (.string (aW R)) ?_;refine rd1 11 fun O hK=>?_
    go_simp;refine(ag.out V0 fr ((s.out.tr (BK.bw HB0.out HBZ.out))) ah.out.1).mono ?_;rintro e1 w1 ⟨rfl,u⟩;subst u;refine hK.out _ _ d (fun d=>?_)
    clear hK;refine rd1 15 fun O hK=>?_
    go_simp;refine(ag.out w1 C ((s.out.tr (BK.bw HB0.out HBZ.out))) ah.out.2).mono ?_;rintro e1 w2 ⟨rfl,aw⟩;subst aw;refine hK.out _ _ d (fun d=>?_)
    clear hK;refine rd1 18 fun O hK=>?_
    go_simp;refine(HIK.out w2 ((s.out.tr (BK.bw HB0.out HBZ.out)))).mono ?_;rintro e1 w3 ⟨rfl,g⟩;have HB3:=Lq (bT HB0.out g);refine hK.out _ _ (HSA.out _ (BK.bw HB3.out HBZ.out)) (fun d=>?_)
    clear hK g;refine rd1 20 fun O hK=>?_
    go_simp;obtain⟨w4,U,X⟩:=nA w3 (.cells #[.string iH,.string D,.string (db y fr),.string (db y C),.string (aW kg),.string (aW R)] 9);obtain⟨gs,hgs⟩:=ex w3.heap.size;have hq4:aa w4 gs 9 #[.string iH,.string D,.string (db y fr),.string (db y C),.string (aW kg),.string (aW R)]:=by rw[←U,←hgs];exact aa.new w3 9 _
    (try rw[U,hgs])
    have M:=Lq (bT HB3.out X);have HLI:=Lq (oz b 6 (some ⟨gs,0,none⟩) [iH,D,db y fr,db y C,aW kg,(aW R)] (T0++iI y (y.papers.take k)) w4 (jQ HI5.out M.out) (by simp) (aa.rd1 (xs:=[iH,D,db y fr,db y C,aW kg,(aW R)]) hq4) (lr _) (by simp) af.out aH.out)
    refine hK.out _ _ (HSA.out _ (BK.bw M.out HBZ.out)) (fun d=>?_)
    clear hK X hq4 U hgs;refine rd1 21 fun O hK=>?_
    go_simp;refine HLI.out.mono ?_;rintro e1 w6 ⟨rfl,T,Y⟩;rw[←ae.out]at T;have HI6:=Lq T;have HK6:=Lq ((BK.bw M.out HBZ.out).tr Y);refine hK.out _ _ (HSA.out _ HK6.out) (fun d=>?_)
    clear hK T Y;refine dn ?_;clear d HSA;go_wp2_with fail;go_roundw
    case measure=>simp[intOf];omega
    case rel=>exact⟨k+1,by omega,by go_num,HI6,Lq (HKB.out.tr (s.out.tr HK6.out))⟩
   ·rw[if_neg hc]at ae af;have s:=Lq (BK.rf b Wb);have HBZ:Hid (b≤Wb.heap.size):=Lq hBz;have HSA:Hid (∀W,BK b Wb W→cA W t4 0 (.func (.func 181) #[] #[pT b 0])∧cA W g1 0 (.slice (some ⟨bk,ok,none⟩) y.kinds.length A.ck)∧cA W bk (ok+kd) (.string D)∧cA W g8 0 (iv kd)∧cA W g8 1 (iv fr)∧cA W g8 2 (iv C)∧cA W g8 3 (iv kg)):=Lq fun W hb=>aF.out W (s.out.tr hb)
    go_upto_region 14 with fail
    refine gd (ops:=yB) (r:=14) (n:=22) (S:=fun W=>cA W t4 0 (.func (.func 181) #[] #[pT b 0])∧cA W g1 0 (.slice (some ⟨bk,ok,none⟩) y.kinds.length A.ck)∧cA W bk (ok+kd) (.string D)∧cA W g8 0 (iv kd)∧cA W g8 1 (iv fr)∧cA W g8 2 (iv C)∧cA W g8 3 (iv kg)) (fun W hb=>HSA.out W (BK.bw hb HBZ.out)) fun V0 HB0 d=>?_
    refine tk 0 (.func (.func 181) #[] #[pT b 0]) ?_;refine tk 1 (pT g1 0) ?_;refine tk 2 (pT g1 0) ?_;refine tk 3 (.slice (some ⟨bk,ok,none⟩) y.kinds.length A.ck) ?_;refine tk 4 (pT g8 0) ?_;refine tk 5 (iv kd) ?_;refine tk 6 (pT bk (ok+kd)) ?_;refine tk 7 (.string D) ?_;refine tk 8 (.func (.func 183) #[] #[pT g1 0]) ?_;refine tk 9 (pT g8 1) ?_;refine tk 10 (iv fr) ?_;refine tk 12 (.func (.func 183) #[] #[pT g1 0]) ?_;refine tk 13 (pT g8 2) ?_;refine tk 14 (iv C) ?_;refine tk 16 (pT g8 3) ?_;refine tk 17 (iv kg) ?_;refine tk 19 (.string iB) ?_;refine rd1 11 fun O hK=>?_
    go_simp;refine(ag.out V0 fr ((s.out.tr (BK.bw HB0.out HBZ.out))) ah.out.1).mono ?_;rintro e1 w1 ⟨rfl,u⟩;subst u;refine hK.out _ _ d (fun d=>?_)
    clear hK;refine rd1 15 fun O hK=>?_
    go_simp;refine(ag.out w1 C ((s.out.tr (BK.bw HB0.out HBZ.out))) ah.out.2).mono ?_;rintro e1 w2 ⟨rfl,aw⟩;subst aw;refine hK.out _ _ d (fun d=>?_)
    clear hK;refine rd1 18 fun O hK=>?_
    go_simp;refine(HIK.out w2 ((s.out.tr (BK.bw HB0.out HBZ.out)))).mono ?_;rintro e1 w3 ⟨rfl,g⟩;have HB3:=Lq (bT HB0.out g);refine hK.out _ _ (HSA.out _ (BK.bw HB3.out HBZ.out)) (fun d=>?_)
    clear hK g;refine rd1 20 fun O hK=>?_
    go_simp;obtain⟨w4,U,X⟩:=nA w3 (.cells #[.string iH,.string D,.string (db y fr),.string (db y C),.string (aW kg),.string iB] 9);obtain⟨gs,hgs⟩:=ex w3.heap.size;have hq4:aa w4 gs 9 #[.string iH,.string D,.string (db y fr),.string (db y C),.string (aW kg),.string iB]:=by rw[←U,←hgs];exact aa.new w3 9 _
    (try rw[U,hgs])
    have M:=Lq (bT HB3.out X);have HLI:=Lq (oz b 6 (some ⟨gs,0,none⟩) [iH,D,db y fr,db y C,aW kg,iB] (T0++iI y (y.papers.take k)) w4 (jQ aC.out M.out) (by simp) (aa.rd1 (xs:=[iH,D,db y fr,db y C,aW kg,iB]) hq4) (lr _) (by simp) af.out aH.out)
    refine hK.out _ _ (HSA.out _ (BK.bw M.out HBZ.out)) (fun d=>?_)
    clear hK X hq4 U hgs;refine rd1 21 fun O hK=>?_
    go_simp;refine HLI.out.mono ?_;rintro e1 w6 ⟨rfl,T,Y⟩;rw[←ae.out]at T;have HI6:=Lq T;have HK6:=Lq ((BK.bw M.out HBZ.out).tr Y);refine hK.out _ _ (HSA.out _ HK6.out) (fun d=>?_)
    clear hK T Y;refine dn ?_;clear d HSA;go_wp2_with fail;go_roundw
    case measure=>simp[intOf];omega
    case rel=>exact⟨k+1,by omega,by go_num,HI6,Lq (HKB.out.tr (s.out.tr HK6.out))⟩
  ·obtain rfl:k=y.papers.length:=by omega
   rw[List.take_of_length_le (lr _)]at HI;have aP:=lH (f:=fun c=>aM (nC y c)) (k:=100000) y.papers (fun c hc=>(v.out.papers c hc).2)
   have aX:=lT aP (Nat.mul_le_mul_right 100000 v.out.np);have HL9:Hid ((T0++iI y y.papers).length≤100000000):=Lq (by
    have h4:=HL8.out;rw[List.length_append];show _+(List.flatMap _ _).length≤_
    omega)
   have y7:=HY.out.below F.out.1 E.out;have q17:=F.out.blk HQ1.out N.out (by decide)
   have ac:=F.out.blk HQ4.out V.out (by decide)
   have aR:=Lq (xF mE y A B b g1 t4 A.l A.cl y.last _ wr y7 E.out aA.out q17 ac y7.l (fun W h=>ad.out W (F.out.1.trans h)) HI.out v.out.last (by have:=v.out.nl;omega) HL9.out)
   have x4:=q17.c 4;clear y7 q17 ac aP aX;go_wp2_with fail;refine aR.out.mono ?_;rintro e w8 ⟨rfl,hi8,hk8⟩;have hne:T0++iI y y.papers++gT mE y y.last≠[]:=by rw[←HT0.out];simp[aM]
   have aG:=Lq (Tryz.Builder_String_f b b _ w8 hi8 hne);have HK9:=Lq (F.out.tr hk8);have HXT:Hid (T0++iI y y.papers++gT mE y y.last=nD y):=Lq (by rw[←HT0.out];rfl)
   rw[HXT.out]at aG;clear hi8 hk8 x4 hne;go_wp2_with fail;refine aG.out.mono ?_;rintro e w9 ⟨rfl, -,aK⟩;have HB9:Hid (BW w w9):=Lq (aJ.out.trans ((HK9.out.1.trans aK).mono HBW1.out));clear aK;go_wp2_with fail;go_ret
   exact⟨rfl,HB9.out⟩
section
variable{va vf vk vl vp:Value}{W w0:World}
attribute [local go_sem] Oper.semAt_some
theorem Tryz.info42:(Tryz.prog.info? 42).map (fun i=>(i.zero,i.size,i.bytes))=some (some (.agg #[iv 0,iv 0,iv 0,iv 0]),4,32):=by kernel_rfl
theorem Tryz.info53:(Tryz.prog.info? 53).map (fun i=>(i.zero,i.size,i.bytes))=some (some (.agg #[iv 0,iv 0,iv 0,iv 0,iv 0]),5,40):=by kernel_rfl
def sM(y:ar)(s1 s2 s3 s4:ByteArray)(c:cM):Prop:=nr y.kinds s1 c.kind false∧nr y.places s2 c.place false∧oC s3 c.lo false∧oC s4 c.hi false
def Gh(y:ar)(s1 s2 s3 s4 s5:ByteArray)(p:cT):Prop:=nr y.kinds s1 p.kind false∧nr y.places s2 p.fr true∧nr y.places s3 p.en true∧oC s4 p.kilos false∧oC s5 p.copy true
theorem ii.sl{v:Value}{l:List ByteArray}(h:ii W v l)(a:0<l.length):∃b o c,v=.slice (some ⟨b,o,none⟩) l.length c:=by
 rcases h with⟨-,rfl⟩ | ⟨b,o,c,cs,rfl, -⟩
 ·simp at a
 ·exact⟨b,o,c,rfl⟩
noncomputable def Gi:Array Oper:=aU (aF Tryz.f184 2)
theorem yD(y:ar)(t R T D E a:Nat)(k l i f:Int)(O o s u x:ByteArray)(w:World)(h:RS w0 w R T t y vk vp vf va vl)(K:aa w D 257 #[.pointer (some ⟨t,0,none⟩)])(z:aa w E 40 #[.slice (some ⟨a,0,none⟩) 5 5])(m:aa w a 9 #[.string O,.string o,.string s,.string u,.string x])(hc:sM y o s u x ⟨k,l,i,f⟩) :
  Cs 184 #[.pointer (some ⟨E,0,none⟩),.pointer (some ⟨D,0,none⟩)] w (Rt w (.agg #[iv k,iv l,iv i,iv f])):=by
 obtain⟨c1,B,G,H⟩:=hc;simp only at c1 B G H;obtain⟨bk,ok,ck,rfl⟩:=h.kn.sl c1.1;obtain⟨bp,op,cp,rfl⟩:=h.pl.sl B.1;obtain⟨nk,hnk⟩:=ex y.kinds.length;obtain⟨np,hnp⟩:=ex y.places.length;rw[hnk,hnp]at h;obtain⟨W1,hW1,b1⟩:=nA w (.cells #[iv 0,iv 0,iv 0,iv 0] 42);obtain⟨g,hg⟩:=ex w.heap.size;have HG:Hid (aa W1 g 42 #[iv 0,iv 0,iv 0,iv 0]):=Lq (by rw[←hW1,←hg];exact aa.new w 42 _)
 have d:Hid (w.heap.size≤g):=Lq (by omega)
 have F:=Lq b1;have h:=h.below b1;have z:=z.keep b1;have HSA:Hid (∀W,BW W1 W→cA W D 0 (.pointer (some ⟨t,0,none⟩))∧cA W E 0 (.slice (some ⟨a,0,none⟩) 5 5)∧cA W t 0 (.slice (some ⟨bk,ok,none⟩) nk ck)∧cA W t 1 (.slice (some ⟨bp,op,none⟩) np cp)∧cA W a 1 (.string o)∧cA W a 2 (.string s)∧cA W a 3 (.string u)∧cA W a 4 (.string x)):=Lq fun W b=>by have q:=(m.keep b1).keep b;have e:=h.yd.keep b;exact⟨((K.keep b1).keep b).c 0,(z.keep b).c 0,e.c 0,e.c 1,q.c 1,q.c 2,q.c 3,q.c 4⟩
 have I:=Lq fun W (b:BW W1 W)=>oD y.kinds o false k _ W (hnk▸(h.below b).kn) c1
 have J:=Lq fun W (b:BW W1 W)=>oD y.places s false l _ W (hnp▸(h.below b).pl) B
 rw[hnk]at I;rw[hnp]at J;have L:=Lq fun W (_:BW W1 W)=>pX u i false W G
 have M:=Lq fun W (_:BW W1 W)=>pX x f false W H
 have Y:=z.c 0;clear h K z m c1 B G H b1 hnk hnp;go_enter Tryz.func184,Tryz.ntmps184
 go_wp2_with fail;refine(mD _).mono ?_;rintro e Z ⟨rfl,N⟩;subst N;clear hW1 hg Y;go_upto_region 2 with fail
 refine cJ (late:=fun j=>j==28) (ops:=Gi) (r:=2) (n:=29) (S:=fun W=>cA W D 0 (.pointer (some ⟨t,0,none⟩))∧cA W E 0 (.slice (some ⟨a,0,none⟩) 5 5)∧cA W t 0 (.slice (some ⟨bk,ok,none⟩) nk ck)∧cA W t 1 (.slice (some ⟨bp,op,none⟩) np cp)∧cA W a 1 (.string o)∧cA W a 2 (.string s)∧cA W a 3 (.string u)∧cA W a 4 (.string x)) HSA.out fun V0 HB0 hHeld=>?_
 refine ae 0 (.pointer (some ⟨t,0,none⟩)) ?_;refine ae 1 (.pointer (some ⟨t,0,none⟩)) ?_;refine ae 2 (.pointer (some ⟨t,0,none⟩)) ?_;refine ae 3 (.pointer (some ⟨t,0,none⟩)) ?_;refine ae 4 (.slice (some ⟨bk,ok,none⟩) nk ck) ?_;refine ae 5 (.slice (some ⟨a,0,none⟩) 5 5) ?_;refine ae 6 (.pointer (some ⟨a,1,none⟩)) ?_;refine ae 7 (.string o) ?_;refine ae 9 (.pointer (some ⟨t,0,none⟩)) ?_;refine ae 10 (.pointer (some ⟨t,0,none⟩)) ?_;refine ae 11 (.pointer (some ⟨t,0,none⟩)) ?_;refine ae 12 (.pointer (some ⟨t,1,none⟩)) ?_;refine ae 13 (.slice (some ⟨bp,op,none⟩) np cp) ?_;refine ae 14 (.slice (some ⟨a,0,none⟩) 5 5) ?_;refine ae 15 (.pointer (some ⟨a,2,none⟩)) ?_;refine ae 16 (.string s) ?_;refine ae 18 (.slice (some ⟨a,0,none⟩) 5 5) ?_;refine ae 19 (.pointer (some ⟨a,3,none⟩)) ?_;refine ae 20 (.string u) ?_;refine ae 22 (.slice (some ⟨a,0,none⟩) 5 5) ?_;refine ae 23 (.pointer (some ⟨a,4,none⟩)) ?_;refine ae 24 (.string x) ?_;refine aQ 8 fun A hK=>?_
 go_simp;refine(I.out V0 HB0.out).mono ?_;rintro C U ⟨rfl,m⟩;subst m;refine hK.out _ _ (HSA.out _ HB0.out) (fun hHeld=>?_)
 clear hK;refine aQ 17 fun A hK=>?_
 go_simp;refine(J.out U HB0.out).mono ?_;rintro C V ⟨rfl,m⟩;subst m;refine hK.out _ _ (HSA.out _ HB0.out) (fun hHeld=>?_)
 clear hK;refine aQ 21 fun A hK=>?_
 go_simp;refine(L.out V HB0.out).mono ?_;rintro C X ⟨rfl,b⟩;have HB4:=Lq (bT HB0.out b);refine hK.out _ _ (HSA.out _ HB4.out) (fun hHeld=>?_)
 clear hK b;refine aQ 25 fun A hK=>?_
 go_simp;refine(M.out X HB4.out).mono ?_;rintro C v5 ⟨rfl,b⟩;have HB5:=Lq (bT HB4.out b);refine hK.out _ _ (HSA.out _ HB5.out) (fun hHeld=>?_)
 clear hK b;refine ae 26 (.agg #[iv i,iv f]) ?_;refine ae 27 (.agg #[iv k,iv l,iv i,iv f]) ?_;have q:=HG.out.keep HB5.out;obtain⟨f0,f1,f2,f3⟩:=q.f4;obtain⟨e0,C,e2,e3⟩:=q.c4;have el:=q.lt;have qb:=(((q.set_ 0 (iv k)).set_ 1 (iv l)).set_ 2 (iv i)).set_ 3 (iv f);simp only[List.setIfInBounds_toArray,List.set_cons_zero,List.set_cons_succ]at qb;obtain⟨d0,d1,d2,d3⟩:=qb.c4;have HBF:=Lq (aH (aH (aH (aH (bT F.out HB5.out) d.out (p:=⟨g,0,none⟩) (iv k)) d.out (p:=⟨g,1,none⟩) (iv l)) d.out (p:=⟨g,2,none⟩) (iv i)) d.out (p:=⟨g,3,none⟩) (iv f));clear q qb;refine bO 28 fun A hK=>?_
 go_simp;refine hK.out _ _ ?_;clear hK;refine dL ?_;go_wp2_with fail;exact bodyPost_ret (v:=.agg #[iv k,iv l,iv i,iv f]) (by simp[results,Tryz.results184,go_sem,d0,d1,d2,d3]) rfl ⟨rfl,HBF.out⟩
def nE(w0:World)(t2 t3 t:Nat)(y:ar)(e:Ending)(w':World):Prop:=e=.returned (.tuple #[])∧∃vk vp vf va vl,RS w0 w' t2 t3 t y vk vp vf va vl
theorem Gj{V:World}{f g t n:Nat}{y:ar}{xs:List Value}(h:RS w0 W f g t y vk vp vf va vl)(c:W.ownsRow w0.heap.size 53 5 va n xs)(a:W.grownBy V va.ownBlock):BW w0 V∧aa V f 46 #[.slice none 0 0,.slice none 0 0,.slice none 0 0,.slice none 0 0,.slice none 0 0]∧aa V g 34 #[iv 0]∧aa V t 74 #[vk,vp,vf,va,vl]∧ii V vk y.kinds∧ii V vp y.places∧V.ownsRow w0.heap.size 42 4 vf y.first.length (y.first.flatMap dq)∧V.ownsRow w0.heap.size 42 4 vl y.last.length (y.last.flatMap dq) :=
 ⟨cC c a (lr _) h.bw,h.res.grown a (ax c h.res (by decide)),h.err.grown a (ax c h.err (by decide)),h.yd.grown a (ax c h.yd (by decide)),h.kn.same fun b _ d=>a.block b d.lt (ax c d (by decide)),h.pl.same fun b _ d=>a.block b d.lt (ax c d (by decide)),kA h.rf c (by decide) a,kA h.rl c (by decide) a⟩
noncomputable def Gk:Array Oper:=aU (aF Tryz.f123 5)
theorem Gl(y:ar)(t m o a:Nat)(k n2:ByteArray)(w:World)(h:RS w0 w m o t y vk vp vf va vl)(b:aa w a 9 #[.string iG,.string k,.string n2]) :
  Cs 123 #[.pointer (some ⟨t,0,none⟩),.slice (some ⟨a,0,none⟩) 3 3] w (nE w0 m o t { y with kinds:=[k,n2] }):=by
 obtain⟨p,d,i⟩:=nA w (.cells #[.pointer (some ⟨t,0,none⟩)] 257);obtain⟨g2,hg2⟩:=ex w.heap.size;obtain⟨W2,hW2,b2⟩:=nA p (.cells #[.slice (some ⟨a,0,none⟩) 3 3] 40);obtain⟨g3,hg3⟩:=ex p.heap.size;have HQ2:=Lq (hg2▸bB d b2);have HQ3:=Lq (hg3▸bB hW2 (bR W2));have h:=h.below (bT i b2);have b:=b.keep (bT i b2);have HR:=Lq h;have HW:=Lq b;have x0:=HQ3.out.c 0;have s0:=b.c 0;have ls:=b.lt;clear h b i b2;go_enter Tryz.func123,Tryz.ntmps123
 go_upto_region 5 with fail
 clear d hW2 hg2 hg3 x0 s0 ls;have g:Hid (∀W,BW W2 W→cA W g2 0 (.pointer (some ⟨t,0,none⟩))∧cA W g3 0 (.slice (some ⟨a,0,none⟩) 3 3)):=Lq fun W hb=>⟨(HQ2.out.keep hb).c 0,(HQ3.out.keep hb).c 0⟩
 refine cJ (late:=fun j=>j==6) (ops:=Gk) (r:=5) (n:=7) (S:=fun W=>cA W g2 0 (.pointer (some ⟨t,0,none⟩))∧cA W g3 0 (.slice (some ⟨a,0,none⟩) 3 3)) g.out fun V0 HB0 hHeld=>?_
 refine ae 0 (.pointer (some ⟨t,0,none⟩)) ?_;refine ae 1 (.slice (some ⟨a,0,none⟩) 3 3) ?_;refine ae 2 (.slice (some ⟨a,1,none⟩) 2 2) ?_;refine ae 3 (.pointer (some ⟨t,0,none⟩)) ?_;refine ae 4 (.pointer (some ⟨t,0,none⟩)) ?_;refine ae 5 (.pointer (some ⟨t,0,none⟩)) ?_;have r:=HR.out.below HB0.out;have f:=r.yd.frozen 0;have x:=r.yd.c 0;have l:=r.yd.lt;refine bO 6 fun K' hK=>?_
 go_simp;refine hK.out _ _ ?_;clear hK;refine dL ?_;have q:Hid (RS w0 (V0.setCell ⟨t,0,none⟩ (.slice (some ⟨a,1,none⟩) 2 2)) m o t { y with kinds:=[k,n2] } (.slice (some ⟨a,1,none⟩) 2 2) (vp) vf va vl):=Lq (RS.put r.bw r.lo r.res r.err r.yd rfl (.inr ⟨a,1,2,_,rfl,HW.out.keep HB0.out,fun j x hj=>by
  match j,hj with
  | 0,hj=>injection hj with hj;subst hj;rfl
  | 1,hj=>injection hj with hj;subst hj;rfl,lr _,by unfold maxLen;omega⟩) r.pl r.rf r.ra r.rl r.zf r.zl)
 clear r f x l;go_wp2_with fail;exact⟨rfl,.tuple #[],by simp[results,Tryz.results123,go_sem],rfl,_,_,_,_,_,q.out⟩
noncomputable def Gm:Array Oper:=aU (aF Tryz.f123 7)
theorem Gn(y:ar)(t m o a:Nat)(k n2:ByteArray)(w:World)(h:RS w0 w m o t y vk vp vf va vl)(b:aa w a 9 #[.string jz,.string k,.string n2]) :
  Cs 123 #[.pointer (some ⟨t,0,none⟩),.slice (some ⟨a,0,none⟩) 3 3] w (nE w0 m o t { y with places:=[k,n2] }):=by
 obtain⟨p,d,i⟩:=nA w (.cells #[.pointer (some ⟨t,0,none⟩)] 257);obtain⟨g2,hg2⟩:=ex w.heap.size;obtain⟨W2,hW2,b2⟩:=nA p (.cells #[.slice (some ⟨a,0,none⟩) 3 3] 40);obtain⟨g3,hg3⟩:=ex p.heap.size;have HQ2:=Lq (hg2▸bB d b2);have HQ3:=Lq (hg3▸bB hW2 (bR W2));have h:=h.below (bT i b2);have b:=b.keep (bT i b2);have HR:=Lq h;have HW:=Lq b;have x0:=HQ3.out.c 0;have s0:=b.c 0;have ls:=b.lt;clear h b i b2;go_enter Tryz.func123,Tryz.ntmps123
 go_upto_region 7 with fail
 clear d hW2 hg2 hg3 x0 s0 ls;have g:Hid (∀W,BW W2 W→cA W g2 0 (.pointer (some ⟨t,0,none⟩))∧cA W g3 0 (.slice (some ⟨a,0,none⟩) 3 3)):=Lq fun W hb=>⟨(HQ2.out.keep hb).c 0,(HQ3.out.keep hb).c 0⟩
 refine cJ (late:=fun j=>j==6) (ops:=Gm) (r:=7) (n:=7) (S:=fun W=>cA W g2 0 (.pointer (some ⟨t,0,none⟩))∧cA W g3 0 (.slice (some ⟨a,0,none⟩) 3 3)) g.out fun V0 HB0 hHeld=>?_
 refine ae 0 (.pointer (some ⟨t,0,none⟩)) ?_;refine ae 1 (.slice (some ⟨a,0,none⟩) 3 3) ?_;refine ae 2 (.slice (some ⟨a,1,none⟩) 2 2) ?_;refine ae 3 (.pointer (some ⟨t,0,none⟩)) ?_;refine ae 4 (.pointer (some ⟨t,0,none⟩)) ?_;refine ae 5 (.pointer (some ⟨t,1,none⟩)) ?_;have r:=HR.out.below HB0.out;have f:=r.yd.frozen 1;have x:=r.yd.c 1;have l:=r.yd.lt;refine bO 6 fun K' hK=>?_
 go_simp;refine hK.out _ _ ?_;clear hK;refine dL ?_;have q:Hid (RS w0 (V0.setCell ⟨t,1,none⟩ (.slice (some ⟨a,1,none⟩) 2 2)) m o t { y with places:=[k,n2] } (vk) (.slice (some ⟨a,1,none⟩) 2 2) vf va vl):=Lq (RS.put r.bw r.lo r.res r.err r.yd rfl r.kn (.inr ⟨a,1,2,_,rfl,HW.out.keep HB0.out,fun j x hj=>by
  match j,hj with
  | 0,hj=>injection hj with hj;subst hj;rfl
  | 1,hj=>injection hj with hj;subst hj;rfl,lr _,by unfold maxLen;omega⟩) r.rf r.ra r.rl r.zf r.zl)
 clear r f x l;go_wp2_with fail;exact⟨rfl,.tuple #[],by simp[results,Tryz.results123,go_sem],rfl,_,_,_,_,_,q.out⟩
noncomputable def Gp:Array Oper:=aU (aF Tryz.f123 9)
theorem Gq(y:ar)(t E F D:Nat)(k o m i:Int)(I J K L:ByteArray)(w:World)(h:RS w0 w E F t y vk vp vf va vl)(v:aa w D 9 #[.string nB,.string I,.string J,.string K,.string L])(hc:sM y I J K L ⟨k,o,m,i⟩)(O:y.first=[]) :
  Cs 123 #[.pointer (some ⟨t,0,none⟩),.slice (some ⟨D,0,none⟩) 5 5] w (nE w0 E F t { y with first:=[⟨k,o,m,i⟩] }):=by
 obtain⟨N,A,H⟩:=nA w (.cells #[.pointer (some ⟨t,0,none⟩)] 257);obtain⟨g2,hg2⟩:=ex w.heap.size;obtain⟨W2,hW2,b2⟩:=nA N (.cells #[.slice (some ⟨D,0,none⟩) 5 5] 40);obtain⟨g3,d⟩:=ex N.heap.size;have HQ2:=Lq (hg2▸bB A b2);have HQ3:=Lq (d▸bB hW2 (bR W2));have h:=h.below (bT H b2);have v:=v.keep (bT H b2);have HR:=Lq h;have HW:=Lq v;have x0:=HQ3.out.c 0;have s0:=v.c 0;have ls:=v.lt;obtain rfl:=h.zf O;obtain⟨i4,hi4,hz40,hz41,hz42⟩:=info_parts Tryz.info42;have HC:=Lq hc;clear hc O;clear h v H b2;go_enter Tryz.func123,Tryz.ntmps123
 go_upto_region 9 with fail
 clear A hW2 hg2 d x0 s0 ls;have g:Hid (∀W,BW W2 W→cA W g2 0 (.pointer (some ⟨t,0,none⟩))∧cA W t 2 (.slice none 0 0)):=Lq fun W B=>⟨(HQ2.out.keep B).c 0,(HR.out.yd.keep B).c 2⟩
 refine cJ (late:=fun j=>j==13) (ops:=Gp) (r:=9) (n:=14) (S:=fun W=>cA W g2 0 (.pointer (some ⟨t,0,none⟩))∧cA W t 2 (.slice none 0 0)) g.out fun V0 HB0 a=>?_
 refine ae 0 (.pointer (some ⟨t,0,none⟩)) ?_;refine ae 1 (.pointer (some ⟨t,0,none⟩)) ?_;refine ae 2 (.pointer (some ⟨t,0,none⟩)) ?_;refine ae 3 (.pointer (some ⟨t,0,none⟩)) ?_;refine ae 4 (.pointer (some ⟨t,2,none⟩)) ?_;refine ae 5 (.slice none 0 0) ?_;refine ae 6 (.func (.func 184) #[] #[.pointer (some ⟨g3,0,none⟩),.pointer (some ⟨g2,0,none⟩)]) ?_;refine aQ 7 fun G hK=>?_
 go_simp;refine(yD y t E F g2 g3 D k o m i nB I J K L V0 (HR.out.below HB0.out) (HQ2.out.keep HB0.out) (HQ3.out.keep HB0.out) (HW.out.keep HB0.out) HC.out).mono ?_;rintro V R ⟨rfl,B⟩;have HB1:=Lq (bT HB0.out B);refine hK.out _ _ (g.out _ HB1.out) (fun a=>?_)
 clear hK B;refine aQ 8 fun G hK=>?_
 go_simp;obtain⟨p,s,C⟩:=nA R (.cells #[iv k,iv o,iv m,iv i] 42);obtain⟨g1,hg1⟩:=ex R.heap.size;have hq2:aa p g1 42 #[iv k,iv o,iv m,iv i]:=hg1▸bB s (bR p)
 (try rw[s,hg1])
 have q:=Lq (bT HB1.out C);refine hK.out _ _ (g.out _ q.out) (fun a=>?_)
 clear hK s hg1 C;refine aQ 9 fun G hK=>?_
 refine kX (by rfl) _ _ 43 (by rfl) p.heap.size 42 i4 _ 4 32 Tryz.underlying43 hi4 hz40 hz41 hz42 rfl (by decide) (.slice none 0 0) 0 _ (by rfl) (World.ownsRow_nil p _ _ _) (.slice (some ⟨g1,0,none⟩) 1 1) 1 [iv k,iv o,iv m,iv i] (by rfl) (.inr ⟨⟨g1,0,none⟩,1,rfl,rfl,fun j u U=>(by rw[kW,hq2.cell];simpa using U),by simp[Value.oneCell']⟩) (by unfold maxLen;omega) (by omega) (lr _) ?_
 intro X M b d;have hb3:BW p M:=cC (World.ownsRow_nil p p.heap.size 42 4) d (lr _) (bR p);obtain⟨gv,cv,rfl,_,_,_⟩:=gI b (by omega)
 have z:=Lq (bT q.out hb3);have hrow:M.ownsRow w0.heap.size 42 4 (.slice (some ⟨gv,0,none⟩) 1 cv) 1 [iv k,iv o,iv m,iv i]:=dv (by simpa using b) (HR.out.below q.out).bw.size
 refine hK.out _ _ (g.out _ z.out) (fun a=>?_)
 clear hK b d hb3 hq2;refine ae 10 (.pointer (some ⟨t,0,none⟩)) ?_;refine ae 11 (.pointer (some ⟨t,0,none⟩)) ?_;refine ae 12 (.pointer (some ⟨t,2,none⟩)) ?_;have r:=HR.out.below z.out;have f:=r.yd.frozen 2;have x:=r.yd.c 2;have l:=r.yd.lt;refine bO 13 fun G hK=>?_
 go_simp;refine hK.out _ _ ?_;clear hK;refine dL ?_;have T:Hid (RS w0 (M.setCell ⟨t,2,none⟩ (.slice (some ⟨gv,0,none⟩) 1 cv)) E F t { y with first:=[⟨k,o,m,i⟩] } vk vp (.slice (some ⟨gv,0,none⟩) 1 cv) va vl):=Lq (RS.put r.bw r.lo r.res r.err r.yd rfl r.kn r.pl hrow r.ra r.rl (fun e=>by simp at e) r.zl)
 clear r f x l hrow;go_wp2_with fail;exact⟨rfl,.tuple #[],by simp[results,Tryz.results123,go_sem],rfl,_,_,_,_,_,T.out⟩
noncomputable def Gr:Array Oper:=aU (aF Tryz.f123 14)
theorem Gs(y:ar)(t E F D:Nat)(k o m i:Int)(I J K L:ByteArray)(w:World)(h:RS w0 w E F t y vk vp vf va vl)(v:aa w D 9 #[.string mE,.string I,.string J,.string K,.string L])(hc:sM y I J K L ⟨k,o,m,i⟩)(O:y.last=[]) :
  Cs 123 #[.pointer (some ⟨t,0,none⟩),.slice (some ⟨D,0,none⟩) 5 5] w (nE w0 E F t { y with last:=[⟨k,o,m,i⟩] }):=by
 obtain⟨N,A,H⟩:=nA w (.cells #[.pointer (some ⟨t,0,none⟩)] 257);obtain⟨g2,hg2⟩:=ex w.heap.size;obtain⟨W2,hW2,b2⟩:=nA N (.cells #[.slice (some ⟨D,0,none⟩) 5 5] 40);obtain⟨g3,d⟩:=ex N.heap.size;have HQ2:=Lq (hg2▸bB A b2);have HQ3:=Lq (d▸bB hW2 (bR W2));have h:=h.below (bT H b2);have v:=v.keep (bT H b2);have HR:=Lq h;have HW:=Lq v;have x0:=HQ3.out.c 0;have s0:=v.c 0;have ls:=v.lt;obtain rfl:=h.zl O;obtain⟨i4,hi4,hz40,hz41,hz42⟩:=info_parts Tryz.info42;have HC:=Lq hc;clear hc O;clear h v H b2;go_enter Tryz.func123,Tryz.ntmps123
 go_upto_region 14 with fail
 clear A hW2 hg2 d x0 s0 ls;have g:Hid (∀W,BW W2 W→cA W g2 0 (.pointer (some ⟨t,0,none⟩))∧cA W t 4 (.slice none 0 0)):=Lq fun W B=>⟨(HQ2.out.keep B).c 0,(HR.out.yd.keep B).c 4⟩
 refine cJ (late:=fun j=>j==13) (ops:=Gr) (r:=14) (n:=14) (S:=fun W=>cA W g2 0 (.pointer (some ⟨t,0,none⟩))∧cA W t 4 (.slice none 0 0)) g.out fun V0 HB0 a=>?_
 refine ae 0 (.pointer (some ⟨t,0,none⟩)) ?_;refine ae 1 (.pointer (some ⟨t,0,none⟩)) ?_;refine ae 2 (.pointer (some ⟨t,0,none⟩)) ?_;refine ae 3 (.pointer (some ⟨t,0,none⟩)) ?_;refine ae 4 (.pointer (some ⟨t,4,none⟩)) ?_;refine ae 5 (.slice none 0 0) ?_;refine ae 6 (.func (.func 184) #[] #[.pointer (some ⟨g3,0,none⟩),.pointer (some ⟨g2,0,none⟩)]) ?_;refine aQ 7 fun G hK=>?_
 go_simp;refine(yD y t E F g2 g3 D k o m i mE I J K L V0 (HR.out.below HB0.out) (HQ2.out.keep HB0.out) (HQ3.out.keep HB0.out) (HW.out.keep HB0.out) HC.out).mono ?_;rintro V R ⟨rfl,B⟩;have HB1:=Lq (bT HB0.out B);refine hK.out _ _ (g.out _ HB1.out) (fun a=>?_)
 clear hK B;refine aQ 8 fun G hK=>?_
 go_simp;obtain⟨p,s,C⟩:=nA R (.cells #[iv k,iv o,iv m,iv i] 42);obtain⟨g1,hg1⟩:=ex R.heap.size;have hq2:aa p g1 42 #[iv k,iv o,iv m,iv i]:=hg1▸bB s (bR p)
 (try rw[s,hg1])
 have q:=Lq (bT HB1.out C);refine hK.out _ _ (g.out _ q.out) (fun a=>?_)
 clear hK s hg1 C;refine aQ 9 fun G hK=>?_
 refine kX (by rfl) _ _ 43 (by rfl) p.heap.size 42 i4 _ 4 32 Tryz.underlying43 hi4 hz40 hz41 hz42 rfl (by decide) (.slice none 0 0) 0 _ (by rfl) (World.ownsRow_nil p _ _ _) (.slice (some ⟨g1,0,none⟩) 1 1) 1 [iv k,iv o,iv m,iv i] (by rfl) (.inr ⟨⟨g1,0,none⟩,1,rfl,rfl,fun j u U=>(by rw[kW,hq2.cell];simpa using U),by simp[Value.oneCell']⟩) (by unfold maxLen;omega) (by omega) (lr _) ?_
 intro X M b d;have hb3:BW p M:=cC (World.ownsRow_nil p p.heap.size 42 4) d (lr _) (bR p);obtain⟨gv,cv,rfl,_,_,_⟩:=gI b (by omega)
 have z:=Lq (bT q.out hb3);have hrow:M.ownsRow w0.heap.size 42 4 (.slice (some ⟨gv,0,none⟩) 1 cv) 1 [iv k,iv o,iv m,iv i]:=dv (by simpa using b) (HR.out.below q.out).bw.size
 refine hK.out _ _ (g.out _ z.out) (fun a=>?_)
 clear hK b d hb3 hq2;refine ae 10 (.pointer (some ⟨t,0,none⟩)) ?_;refine ae 11 (.pointer (some ⟨t,0,none⟩)) ?_;refine ae 12 (.pointer (some ⟨t,4,none⟩)) ?_;have r:=HR.out.below z.out;have f:=r.yd.frozen 4;have x:=r.yd.c 4;have l:=r.yd.lt;refine bO 13 fun G hK=>?_
 go_simp;refine hK.out _ _ ?_;clear hK;refine dL ?_;have T:Hid (RS w0 (M.setCell ⟨t,4,none⟩ (.slice (some ⟨gv,0,none⟩) 1 cv)) E F t { y with last:=[⟨k,o,m,i⟩] } vk vp vf va (.slice (some ⟨gv,0,none⟩) 1 cv)):=Lq (RS.put r.bw r.lo r.res r.err r.yd rfl r.kn r.pl r.rf r.ra hrow r.zf (fun e=>by simp at e))
 clear r f x l hrow;go_wp2_with fail;exact⟨rfl,.tuple #[],by simp[results,Tryz.results123,go_sem],rfl,_,_,_,_,_,T.out⟩
noncomputable def Gt:Array Oper:=aU (aF Tryz.f123 12)
theorem sN(y:ar)(t T U a:Nat)(v fr s kg p:Int)(C D E F G:ByteArray)(w:World)(h:RS w0 w T U t y vk vp vf va vl)(k:aa w a 9 #[.string iH,.string C,.string D,.string E,.string F,.string G])(hc:Gh y C D E F G ⟨v,fr,s,kg,p⟩)(hn:y.papers.length≤1000) :
  Cs 123 #[.pointer (some ⟨t,0,none⟩),.slice (some ⟨a,0,none⟩) 6 6] w (nE w0 T U t { y with papers:=y.papers++[⟨v,fr,s,kg,p⟩] }):=by
 obtain⟨Z,I,O⟩:=nA w (.cells #[.pointer (some ⟨t,0,none⟩)] 257);obtain⟨g2,hg2⟩:=ex w.heap.size;obtain⟨W2,hW2,b2⟩:=nA Z (.cells #[.slice (some ⟨a,0,none⟩) 6 6] 40);obtain⟨g3,b⟩:=ex Z.heap.size;have HQ2:=Lq (hg2▸bB I b2);have HQ3:=Lq (b▸bB hW2 (bR W2));have h:=h.below (bT O b2);have k:=k.keep (bT O b2);have HR:=Lq h;have HW:=Lq k;have x0:=HQ3.out.c 0;have s0:=k.c 0;have ls:=k.lt;obtain⟨c1,c2,c3,c4,c5⟩:=hc;simp only at c1 c2 c3 c4 c5;obtain⟨bk,ok,ck,rfl⟩:=h.kn.sl c1.1;obtain⟨bp,op,cp,rfl⟩:=h.pl.sl c2.1;obtain⟨Av,cv,rfl⟩:=gK h.ra;obtain⟨nk,hnk⟩:=ex y.kinds.length;obtain⟨np,hnp⟩:=ex y.places.length;obtain⟨n,hnn⟩:=ex y.papers.length;have HNN:=Lq hnn;have hna:n≤1000:=by omega
 have V:=Lq fun W (d:BW W2 W)=>oD y.kinds C false v _ W (h.below d).kn c1
 have X:=Lq fun W (d:BW W2 W)=>oD y.places D true fr _ W (h.below d).pl c2
 have Y:=Lq fun W (d:BW W2 W)=>oD y.places E true s _ W (h.below d).pl c3
 rw[hnk]at V;rw[hnp]at X Y;have H4:=Lq fun W (_:BW W2 W)=>pX F kg false W c4
 have H5:=Lq fun W (_:BW W2 W)=>pX G p true W c5
 rw[hnk,hnp,hnn]at HR;clear hnn c1 c2 c3 c4 c5 hnk hnp hn;obtain⟨i5,R,K,L,M⟩:=info_parts Tryz.info53;clear h k O b2;go_enter Tryz.func123,Tryz.ntmps123
 go_wp2_with fail;refine(mD _).mono ?_;rintro e v1 ⟨rfl,hv⟩;subst hv;go_upto_region 12 with fail
 clear I hW2 hg2 b x0 s0 ls;have g:Hid (∀W,BW v1 W→cA W g2 0 (.pointer (some ⟨t,0,none⟩))∧cA W g3 0 (.slice (some ⟨a,0,none⟩) 6 6)∧cA W t 0 (.slice (some ⟨bk,ok,none⟩) nk ck)∧cA W t 1 (.slice (some ⟨bp,op,none⟩) np cp)∧cA W t 3 (.slice Av n cv)∧cA W a 1 (.string C)∧cA W a 2 (.string D)∧cA W a 3 (.string E)∧cA W a 4 (.string F)∧cA W a 5 (.string G)):=Lq fun W d=>by have q:=HW.out.keep d;have e:=HR.out.yd.keep d;exact⟨(HQ2.out.keep d).c 0,(HQ3.out.keep d).c 0,e.c 0,e.c 1,e.c 3,q.c 1,q.c 2,q.c 3,q.c 4,q.c 5⟩
 refine cJ (late:=fun j=>j==47) (ops:=Gt) (r:=12) (n:=48) (S:=fun W=>cA W g2 0 (.pointer (some ⟨t,0,none⟩))∧cA W g3 0 (.slice (some ⟨a,0,none⟩) 6 6)∧cA W t 0 (.slice (some ⟨bk,ok,none⟩) nk ck)∧cA W t 1 (.slice (some ⟨bp,op,none⟩) np cp)∧cA W t 3 (.slice Av n cv)∧cA W a 1 (.string C)∧cA W a 2 (.string D)∧cA W a 3 (.string E)∧cA W a 4 (.string F)∧cA W a 5 (.string G)) g.out fun V0 HB0 hHeld=>?_
 refine ae 0 (.pointer (some ⟨t,0,none⟩)) ?_;refine ae 1 (.pointer (some ⟨t,0,none⟩)) ?_;refine ae 2 (.pointer (some ⟨t,0,none⟩)) ?_;refine ae 3 (.pointer (some ⟨t,0,none⟩)) ?_;refine ae 4 (.pointer (some ⟨t,3,none⟩)) ?_;refine ae 5 (.slice Av n cv) ?_;refine ae 6 (.pointer (some ⟨t,0,none⟩)) ?_;refine ae 7 (.pointer (some ⟨t,0,none⟩)) ?_;refine ae 8 (.pointer (some ⟨t,0,none⟩)) ?_;refine ae 9 (.pointer (some ⟨t,0,none⟩)) ?_;refine ae 10 (.slice (some ⟨bk,ok,none⟩) nk ck) ?_;refine ae 11 (.slice (some ⟨a,0,none⟩) 6 6) ?_;refine ae 12 (.pointer (some ⟨a,1,none⟩)) ?_;refine ae 13 (.string C) ?_;refine ae 15 (.pointer (some ⟨t,0,none⟩)) ?_;refine ae 16 (.pointer (some ⟨t,0,none⟩)) ?_;refine ae 17 (.pointer (some ⟨t,0,none⟩)) ?_;refine ae 18 (.pointer (some ⟨t,1,none⟩)) ?_;refine ae 19 (.slice (some ⟨bp,op,none⟩) np cp) ?_;refine ae 20 (.slice (some ⟨a,0,none⟩) 6 6) ?_;refine ae 21 (.pointer (some ⟨a,2,none⟩)) ?_;refine ae 22 (.string D) ?_;refine ae 24 (.pointer (some ⟨t,0,none⟩)) ?_;refine ae 25 (.pointer (some ⟨t,0,none⟩)) ?_;refine ae 26 (.pointer (some ⟨t,0,none⟩)) ?_;refine ae 27 (.pointer (some ⟨t,1,none⟩)) ?_;refine ae 28 (.slice (some ⟨bp,op,none⟩) np cp) ?_;refine ae 29 (.slice (some ⟨a,0,none⟩) 6 6) ?_;refine ae 30 (.pointer (some ⟨a,3,none⟩)) ?_;refine ae 31 (.string E) ?_;refine ae 33 (.slice (some ⟨a,0,none⟩) 6 6) ?_;refine ae 34 (.pointer (some ⟨a,4,none⟩)) ?_;refine ae 35 (.string F) ?_;refine ae 37 (.slice (some ⟨a,0,none⟩) 6 6) ?_;refine ae 38 (.pointer (some ⟨a,5,none⟩)) ?_;refine ae 39 (.string G) ?_;refine aQ 14 fun A hK=>?_
 go_simp;refine(V.out V0 HB0.out).mono ?_;rintro N u1 ⟨rfl,k⟩;subst k;refine hK.out _ _ (g.out _ HB0.out) (fun hHeld=>?_)
 clear hK;refine aQ 23 fun A hK=>?_
 go_simp;refine(X.out u1 HB0.out).mono ?_;rintro N u2 ⟨rfl,k⟩;subst k;refine hK.out _ _ (g.out _ HB0.out) (fun hHeld=>?_)
 clear hK;refine aQ 32 fun A hK=>?_
 go_simp;refine(Y.out u2 HB0.out).mono ?_;rintro N u3 ⟨rfl,k⟩;subst k;refine hK.out _ _ (g.out _ HB0.out) (fun hHeld=>?_)
 clear hK;refine aQ 36 fun A hK=>?_
 go_simp;refine(H4.out u3 HB0.out).mono ?_;rintro N u4 ⟨rfl,d⟩;have HB4:=Lq (bT HB0.out d);refine hK.out _ _ (g.out _ HB4.out) (fun hHeld=>?_)
 clear hK d;refine aQ 40 fun A hK=>?_
 go_simp;refine(H5.out u4 HB4.out).mono ?_;rintro N u5 ⟨rfl,d⟩;have HB5:=Lq (bT HB4.out d);refine hK.out _ _ (g.out _ HB5.out) (fun hHeld=>?_)
 clear hK d;refine ae 41 (.agg #[iv v,iv fr,iv s,iv kg,iv p]) ?_;refine aQ 42 fun A hK=>?_
 go_simp;obtain⟨v2,B,J⟩:=nA u5 (.cells #[iv v,iv fr,iv s,iv kg,iv p] 53);obtain⟨g1,hg1⟩:=ex u5.heap.size;have hq2:aa v2 g1 53 #[iv v,iv fr,iv s,iv kg,iv p]:=hg1▸bB B (bR v2)
 (try rw[B,hg1])
 have o:=Lq (bT HB5.out J);refine hK.out _ _ (g.out _ o.out) (fun hHeld=>?_)
 clear hK B hg1 J;have r:=HR.out.below o.out;have ho:=r.ra;rw[HNN.out]at ho;refine aQ 43 fun A hK=>?_
 refine kX (by rfl) _ _ 44 (by rfl) w0.heap.size 53 i5 _ 5 40 Tryz.underlying44 R K L M rfl (by decide) (.slice Av n cv) n _ (by rfl) ho (.slice (some ⟨g1,0,none⟩) 1 1) 1 [iv v,iv fr,iv s,iv kg,iv p] (by rfl) (.inr ⟨⟨g1,0,none⟩,1,rfl,rfl,fun j u hu=>(by rw[kW,hq2.cell];simpa using hu),by simp[Value.oneCell']⟩) (by unfold maxLen;omega) (by omega) r.bw.size ?_
 intro v9 m i b;obtain⟨r1,r2,r3,r4,r5,r6,r7,r8⟩:=Gj r ho b;obtain⟨gv,cw,rfl,_,_,_⟩:=gI i (by omega)
 have z:m.ownsRow w0.heap.size 53 5 (.slice (some ⟨gv,0,none⟩) (n+1) cw) (y.papers++[(⟨v,fr,s,kg,p⟩:cT)]).length ((y.papers++[(⟨v,fr,s,kg,p⟩:cT)]).flatMap iS):=by rw[List.length_append,List.flatMap_append,HNN.out];exact i
 have HF:Hid (RS w0 (m.setCell ⟨t,3,none⟩ (.slice (some ⟨gv,0,none⟩) (n+1) cw)) T U t { y with papers:=y.papers++[⟨v,fr,s,kg,p⟩] } (.slice (some ⟨bk,ok,none⟩) nk ck) (.slice (some ⟨bp,op,none⟩) np cp) vf (.slice (some ⟨gv,0,none⟩) (n+1) cw) vl):=Lq (RS.put r1 r.lo r2 r3 r4 rfl r5 r6 r7 z r8 r.zf r.zl)
 have H:m.cell? ⟨g2,0,none⟩=some (.pointer (some ⟨t,0,none⟩))∧cA m g3 0 (.slice (some ⟨a,0,none⟩) 6 6)∧cA m t 0 (.slice (some ⟨bk,ok,none⟩) nk ck)∧cA m t 1 (.slice (some ⟨bp,op,none⟩) np cp)∧cA m t 3 (.slice Av n cv)∧cA m a 1 (.string C)∧cA m a 2 (.string D)∧cA m a 3 (.string E)∧cA m a 4 (.string F)∧cA m a 5 (.string G):=by
  have q:=HW.out.keep o.out;have q2:=HQ2.out.keep o.out;have q3:=HQ3.out.keep o.out;have q:=q.grown b (ax ho q (by decide))
  exact⟨(q2.grown b (ax ho q2 (by decide))).c 0,(q3.grown b (ax ho q3 (by decide))).c 0,r4.c 0,r4.c 1,r4.c 3,q.c 1,q.c 2,q.c 3,q.c 4,q.c 5⟩
 have f:=r4.frozen 3;have x:=r4.c 3;have l:=r4.lt;refine hK.out _ _ H (fun hHeld=>?_)
 clear hK H r ho i b r1 r2 r3 r4 r5 r6 r7 r8 z hq2;refine ae 44 (.pointer (some ⟨t,0,none⟩)) ?_;refine ae 45 (.pointer (some ⟨t,0,none⟩)) ?_;refine ae 46 (.pointer (some ⟨t,3,none⟩)) ?_;refine bO 47 fun A hK=>?_
 go_simp;refine hK.out _ _ ?_;clear hK;refine dL ?_;clear f x l;go_wp2_with fail;exact⟨rfl,.tuple #[],by simp[results,Tryz.results123,go_sem],rfl,_,_,_,_,_,HF.out⟩
end
section
variable{W:World}
attribute [local go_sem] Oper.semAt_some
abbrev jA:ByteArray:=⟨#[107,105,110,100,115,32,111,105,108,32,112,97,105,110,116,10,112,108,97,99,101,115,32,121,97,114,100,32,112,105,116,10,102,105,114,115,116,32,111,105,108,32,121,97,114,100,32,49,48,48,48,32,49,48,48,48,10,112,97,112,101,114,32,111,105,108,32,121,97,114,100,32,112,105,116,32,54,48,48,32,49,10,112,97,112,101,114,32,111,105,108,32,121,97,114,100,32,112,105,116,32,53,48,48,32,48,10,112,97,112,101,114,32,111,105,108,32,121,97,114,100,32,45,32,51,48,48,32,45,10,108,97,115,116,32,111,105,108,32,121,97,114,100,32,49,48,48,32,50,48,48,10]⟩
def jd:Nat→ByteArray
 | 0=>jA
 | 1=>⟨#[112,108,97,99,101,115,32,121,97,114,100,32,112,105,116,10,102,105,114,115,116,32,111,105,108,32,121,97,114,100,32,49,48,48,48,32,49,48,48,48,10,112,97,112,101,114,32,111,105,108,32,121,97,114,100,32,112,105,116,32,54,48,48,32,49,10,112,97,112,101,114,32,111,105,108,32,121,97,114,100,32,112,105,116,32,53,48,48,32,48,10,112,97,112,101,114,32,111,105,108,32,121,97,114,100,32,45,32,51,48,48,32,45,10,108,97,115,116,32,111,105,108,32,121,97,114,100,32,49,48,48,32,50,48,48,10]⟩
 | 2=>⟨#[102,105,114,115,116,32,111,105,108,32,121,97,114,100,32,49,48,48,48,32,49,48,48,48,10,112,97,112,101,114,32,111,105,108,32,121,97,114,100,32,112,105,116,32,54,48,48,32,49,10,112,97,112,101,114,32,111,105,108,32,121,97,114,100,32,112,105,116,32,53,48,48,32,48,10,112,97,112,101,114,32,111,105,108,32,121,97,114,100,32,45,32,51,48,48,32,45,10,108,97,115,116,32,111,105,108,32,121,97,114,100,32,49,48,48,32,50,48,48,10]⟩
 | 3=>⟨#[112,97,112,101,114,32,111,105,108,32,121,97,114,100,32,112,105,116,32,54,48,48,32,49,10,112,97,112,101,114,32,111,105,108,32,121,97,114,100,32,112,105,116,32,53,48,48,32,48,10,112,97,112,101,114,32,111,105,108,32,121,97,114,100,32,45,32,51,48,48,32,45,10,108,97,115,116,32,111,105,108,32,121,97,114,100,32,49,48,48,32,50,48,48,10]⟩
 | 4=>⟨#[112,97,112,101,114,32,111,105,108,32,121,97,114,100,32,112,105,116,32,53,48,48,32,48,10,112,97,112,101,114,32,111,105,108,32,121,97,114,100,32,45,32,51,48,48,32,45,10,108,97,115,116,32,111,105,108,32,121,97,114,100,32,49,48,48,32,50,48,48,10]⟩
 | 5=>⟨#[112,97,112,101,114,32,111,105,108,32,121,97,114,100,32,45,32,51,48,48,32,45,10,108,97,115,116,32,111,105,108,32,121,97,114,100,32,49,48,48,32,50,48,48,10]⟩
 | 6=>⟨#[108,97,115,116,32,111,105,108,32,121,97,114,100,32,49,48,48,32,50,48,48,10]⟩
 | _=>⟨#[]⟩
def je:Nat→ar
 | 0=>⟨[],[],[],[],[]⟩
 | 1=>⟨[fI,iF],[],[],[],[]⟩
 | 2=>⟨[fI,iF],[fT,ik],[],[],[]⟩
 | 3=>⟨[fI,iF],[fT,ik],[⟨0,0,1000,1000⟩],[],[]⟩
 | 4=>⟨[fI,iF],[fT,ik],[⟨0,0,1000,1000⟩],[⟨0,0,1,600,1⟩],[]⟩
 | 5=>⟨[fI,iF],[fT,ik],[⟨0,0,1000,1000⟩],[⟨0,0,1,600,1⟩,⟨0,0,1,500,0⟩],[]⟩
 | 6=>⟨[fI,iF],[fT,ik],[⟨0,0,1000,1000⟩],[⟨0,0,1,600,1⟩,⟨0,0,1,500,0⟩,⟨0,0, -1,300, -1⟩],[]⟩
 | _=>aC true
structure lN(k:Nat):Prop where
 sz:(jd k).size≤6000
 less:(jd (k+1)).size<(jd k).size
 some':(jd k).toList.isEmpty=false
 row:∃(row:ByteArray) (ws:List ByteArray),Lib.cut (jd k).data.toList [10]=(row.data.toList,(jd (k+1)).data.toList,true)∧row.size≤6000∧Lib.splitB hZ 0 (Lib.countB row hZ) row=ws∧Lib.countB row hZ+1=ws.length∧∀(w0 W:World) (t t2 t3 bw:Nat) (vk vp vf va vl:Value),RS w0 W t2 t3 t (je k) vk vp vf va vl→aa W bw 9 (ws.map Value.string).toArray→Cs 123 #[pT t 0,.slice (some ⟨bw,0,none⟩) ws.length ws.length] W (nE w0 t2 t3 t (je (k+1)))
theorem Gu:lN 0 :=
 ⟨of_decide_eq_true (by kernel_rfl),of_decide_eq_true (by kernel_rfl),by kernel_rfl,⟨#[107,105,110,100,115,32,111,105,108,32,112,97,105,110,116]⟩,[⟨#[107,105,110,100,115]⟩,⟨#[111,105,108]⟩,⟨#[112,97,105,110,116]⟩],by kernel_rfl,of_decide_eq_true (by kernel_rfl),by kernel_rfl,by kernel_rfl,fun l W t c d a i k g f j h b=>Gl (je 0) t c d a fI iF W h b⟩
theorem Gv:lN 1 :=
 ⟨of_decide_eq_true (by kernel_rfl),of_decide_eq_true (by kernel_rfl),by kernel_rfl,⟨#[112,108,97,99,101,115,32,121,97,114,100,32,112,105,116]⟩,[⟨#[112,108,97,99,101,115]⟩,⟨#[121,97,114,100]⟩,⟨#[112,105,116]⟩],by kernel_rfl,of_decide_eq_true (by kernel_rfl),by kernel_rfl,by kernel_rfl,fun l W t c d a i k g f j h b=>Gn (je 1) t c d a fT ik W h b⟩
theorem Gw:lN 2 :=
 ⟨of_decide_eq_true (by kernel_rfl),of_decide_eq_true (by kernel_rfl),by kernel_rfl,⟨#[102,105,114,115,116,32,111,105,108,32,121,97,114,100,32,49,48,48,48,32,49,48,48,48]⟩,[⟨#[102,105,114,115,116]⟩,⟨#[111,105,108]⟩,⟨#[121,97,114,100]⟩,⟨#[49,48,48,48]⟩,⟨#[49,48,48,48]⟩],by kernel_rfl,of_decide_eq_true (by kernel_rfl),by kernel_rfl,by kernel_rfl,fun l W t c d a i k g f j h b=>Gq (je 2) t c d a 0 0 1000 1000 fI fT ⟨#[49,48,48,48]⟩ ⟨#[49,48,48,48]⟩ W h b ⟨⟨by decide,by kernel_rfl,.inl (by decide)⟩,⟨by decide,by kernel_rfl,.inl (by decide)⟩,(.inr ⟨⟨by decide,by kernel_rfl⟩,by decide,fun h=>by cases h⟩),(.inr ⟨⟨by decide,by kernel_rfl⟩,by decide,fun h=>by cases h⟩)⟩ rfl⟩
theorem Gx:lN 3 :=
 ⟨of_decide_eq_true (by kernel_rfl),of_decide_eq_true (by kernel_rfl),by kernel_rfl,⟨#[112,97,112,101,114,32,111,105,108,32,121,97,114,100,32,112,105,116,32,54,48,48,32,49]⟩,[⟨#[112,97,112,101,114]⟩,⟨#[111,105,108]⟩,⟨#[121,97,114,100]⟩,⟨#[112,105,116]⟩,⟨#[54,48,48]⟩,⟨#[49]⟩],by kernel_rfl,of_decide_eq_true (by kernel_rfl),by kernel_rfl,by kernel_rfl,fun l W t c d a i k g f j h b=>sN (je 3) t c d a 0 0 1 600 1 fI fT ik ⟨#[54,48,48]⟩ ⟨#[49]⟩ W h b ⟨⟨by decide,by kernel_rfl,.inl (by decide)⟩,⟨by decide,by kernel_rfl,.inl (by decide)⟩,⟨by decide,by kernel_rfl,.inl (by decide)⟩,(.inr ⟨⟨by decide,by kernel_rfl⟩,by decide,fun h=>by cases h⟩),(.inr ⟨⟨by decide,by kernel_rfl⟩,by decide,fun _=>by kernel_rfl⟩)⟩ (by decide)⟩
theorem Gy:lN 4 :=
 ⟨of_decide_eq_true (by kernel_rfl),of_decide_eq_true (by kernel_rfl),by kernel_rfl,⟨#[112,97,112,101,114,32,111,105,108,32,121,97,114,100,32,112,105,116,32,53,48,48,32,48]⟩,[⟨#[112,97,112,101,114]⟩,⟨#[111,105,108]⟩,⟨#[121,97,114,100]⟩,⟨#[112,105,116]⟩,⟨#[53,48,48]⟩,⟨#[48]⟩],by kernel_rfl,of_decide_eq_true (by kernel_rfl),by kernel_rfl,by kernel_rfl,fun l W t c d a i k g f j h b=>sN (je 4) t c d a 0 0 1 500 0 fI fT ik ⟨#[53,48,48]⟩ ⟨#[48]⟩ W h b ⟨⟨by decide,by kernel_rfl,.inl (by decide)⟩,⟨by decide,by kernel_rfl,.inl (by decide)⟩,⟨by decide,by kernel_rfl,.inl (by decide)⟩,(.inr ⟨⟨by decide,by kernel_rfl⟩,by decide,fun h=>by cases h⟩),(.inr ⟨⟨by decide,by kernel_rfl⟩,by decide,fun _=>by kernel_rfl⟩)⟩ (by decide)⟩
theorem Gz:lN 5 :=
 ⟨of_decide_eq_true (by kernel_rfl),of_decide_eq_true (by kernel_rfl),by kernel_rfl,⟨#[112,97,112,101,114,32,111,105,108,32,121,97,114,100,32,45,32,51,48,48,32,45]⟩,[⟨#[112,97,112,101,114]⟩,⟨#[111,105,108]⟩,⟨#[121,97,114,100]⟩,⟨#[45]⟩,⟨#[51,48,48]⟩,⟨#[45]⟩],by kernel_rfl,of_decide_eq_true (by kernel_rfl),by kernel_rfl,by kernel_rfl,fun l W t c d a i k g f j h b=>sN (je 5) t c d a 0 0 (-1) 300 (-1) fI fT iB ⟨#[51,48,48]⟩ ⟨#[45]⟩ W h b ⟨⟨by decide,by kernel_rfl,.inl (by decide)⟩,⟨by decide,by kernel_rfl,.inl (by decide)⟩,⟨by decide,by kernel_rfl,.inr ⟨rfl,rfl,rfl⟩⟩,(.inr ⟨⟨by decide,by kernel_rfl⟩,by decide,fun h=>by cases h⟩),(.inl ⟨rfl,rfl,rfl⟩)⟩ (by decide)⟩
theorem GA:lN 6 :=
 ⟨of_decide_eq_true (by kernel_rfl),of_decide_eq_true (by kernel_rfl),by kernel_rfl,⟨#[108,97,115,116,32,111,105,108,32,121,97,114,100,32,49,48,48,32,50,48,48]⟩,[⟨#[108,97,115,116]⟩,⟨#[111,105,108]⟩,⟨#[121,97,114,100]⟩,⟨#[49,48,48]⟩,⟨#[50,48,48]⟩],by kernel_rfl,of_decide_eq_true (by kernel_rfl),by kernel_rfl,by kernel_rfl,fun l W t c d a i k g f j h b=>Gs (je 6) t c d a 0 0 100 200 fI fT ⟨#[49,48,48]⟩ ⟨#[50,48,48]⟩ W h b ⟨⟨by decide,by kernel_rfl,.inl (by decide)⟩,⟨by decide,by kernel_rfl,.inl (by decide)⟩,(.inr ⟨⟨by decide,by kernel_rfl⟩,by decide,fun h=>by cases h⟩),(.inr ⟨⟨by decide,by kernel_rfl⟩,by decide,fun h=>by cases h⟩)⟩ rfl⟩
theorem GB(k:Nat)(h:k<7):lN k:=by
 rcases(show k=0∨k=1∨k=2∨k=3∨k=4∨k=5∨k=6 by omega)with rfl | rfl | rfl | rfl | rfl | rfl | rfl
 ·exact Gu
 ·exact Gv
 ·exact Gw
 ·exact Gx
 ·exact Gy
 ·exact Gz
 ·exact GA
theorem ii.rd{v:Value}{l:List ByteArray}(h:ii W v l):∃A c,v=.slice A l.length c∧am .string W W.heap.size A l∧l.length≤c∧c≤maxLen:=by
 rcases h with⟨rfl,rfl⟩ | ⟨b,o,c,cs,rfl,hb,hc,hl,hm⟩
 ·exact⟨none,0,rfl,fun i x h=>by simp at h,lr _,Nat.zero_le _⟩
 ·exact⟨_,c,rfl,fun i x h=>⟨b,o,rfl,hb.lt,by rw[hb.cell];exact hc i x h⟩,hl,hm⟩
theorem RS.rd{L V:World}{J K t:Nat}{y:ar}{f i d c g:Value}(h:RS L W J K t y f i d c g)(a:∀(b:Nat) (cs:Array Value) (ty:TypeId),ty≠46→ty≠34→aa W b ty cs→V.heap[b]?=W.heap[b]?)(H:∀s∈y.kinds,s.size≤maxLen)(I:∀s∈y.places,s.size≤maxLen):∃A:aI,#[f,i,d,c,g]=ak y A∧aO V V.heap.size y A:=by
 obtain⟨m,v,rfl,D,E⟩:=(h.kn.same fun b cs hB=>a b cs 9 (by decide) (by decide) hB).rd
 obtain⟨o,z,rfl,p1,p2⟩:=(h.pl.same fun b cs hB=>a b cs 9 (by decide) (by decide) hB).rd
 obtain⟨l,u,rfl,B, -,C⟩:=jp (encs:=dq) (fun _=>rfl) (jW (X:=V) h.rf fun k cur _ hB=>a k cur _ (by decide) (by decide) hB)
 obtain⟨j,r,rfl,p, -,q⟩:=jp (encs:=iS) (fun _=>rfl) (jW (X:=V) h.ra fun k cur _ hB=>a k cur _ (by decide) (by decide) hB)
 obtain⟨n,x,rfl,F, -,G⟩:=jp (encs:=dq) (fun _=>rfl) (jW (X:=V) h.rl fun k cur _ hB=>a k cur _ (by decide) (by decide) hB)
 exact⟨⟨m,o,l,j,n,v,z,u,r,x⟩,rfl,⟨D,p1,B,p,F,E,p2,C,q,G,H,I⟩⟩
theorem GC{y:ar}{A a:aI}(h:ak y A=ak y a):A=a:=by obtain⟨c,d,f,g,i,j,k,l,m,b⟩:=A;obtain⟨b1,b2,b3,b4,b5,b6,b7,b8,b9,b10⟩:=a;simp only[Array.mk.injEq,List.cons.injEq,Value.slice.injEq,true_and,and_true]at h;obtain⟨⟨rfl,rfl⟩,⟨rfl,rfl⟩,⟨rfl,rfl⟩,⟨rfl,rfl⟩,rfl,rfl⟩:=h;rfl
theorem GD(c d:Nat)(w:World) :
  CallsD Tryz.prog 121 #[pT c 0,pT d 0] .returning w fun e f w'=>e=.returned (.tuple #[])∧f=.returning∧w'=w:=by
 refine callsD_of_wpS Tryz.func121 rfl fun b cs a=>?_
 apply wpS_seq;apply wpS_region;simp[wpOpsS,go_sem,recoverD,a,Tryz.ntmps121,Exit.thenS];apply wpS_seq;apply wpS_region;simp[wpOpsS,go_sem,recoverD,a,Exit.thenS];refine wpS_cond (t:=false) (by simp[Act.eval,Array.replicate]) ?_
 simp only[Bool.false_eq_true,if_false];refine wpS_of_wp (wp_skip ?_);cases b;simp_all [bodyPostS,results,Tryz.results121]
theorem yE:(⟨(nD (aC true)).toArray⟩:ByteArray)=jA:=by kernel_rfl
theorem yG:sL (aC true):=by
 refine⟨by decide,by decide,of_decide_eq_true (by kernel_rfl),of_decide_eq_true (by kernel_rfl),fun c hc=>?_,fun p a=>?_,fun c hc=>?_,by decide,by decide,by decide⟩
 ·obtain rfl:c=⟨0,0,1000,1000⟩:=by simpa[aC]using hc
  exact⟨⟨by decide,by decide,by decide,by decide⟩,of_decide_eq_true (by kernel_rfl)⟩
 ·have a:p=⟨0,0,1,600,1⟩∨p=⟨0,0,1,500,0⟩∨p=⟨0,0, -1,300, -1⟩:=by simpa[aC]using a
  rcases a with rfl | rfl | rfl<;>exact⟨⟨by decide,by decide,by decide,by decide,by decide⟩,of_decide_eq_true (by kernel_rfl)⟩
 ·obtain rfl:c=⟨0,0,100,200⟩:=by simpa[aC]using hc
  exact⟨⟨by decide,by decide,by decide,by decide⟩,of_decide_eq_true (by kernel_rfl)⟩
def GE(y:ar)(w:World)(e:Ending)(w':World):Prop:=∃A:aI,e=.returned (.tuple #[.agg (ak y A),iv 0])∧BW w w'∧aO w' w'.heap.size y A
theorem GF(m:Int)(w:World)(hY:dc (aC true))(ht:fe w)(hm:w.cell? ⟨0,0,none⟩=some (iv m)):Cs 65 #[.string jA] w (GE (aC true) w):=by
 have v:(∀s∈(aC true).kinds,s.size≤maxLen)∧(∀s∈(aC true).places,s.size≤maxLen):=⟨by decide,by decide⟩
 have x:=yG;have hti:=yE;have hy7:je 7=aC true:=rfl;obtain⟨y,hy⟩:=ex (aC true);rw[hy]at hY v x hti hy7 ⊢;have HSK:=Lq v;have HTXO:=Lq x;have HY7:=Lq hy7;rw[←hti] ;obtain⟨W1,hW1,b1⟩:=nA w (.cells #[.slice none 0 0,.slice none 0 0,.slice none 0 0,.slice none 0 0,.slice none 0 0] 46);obtain⟨t2,ht2⟩:=ex w.heap.size;obtain⟨W2,hW2,b2⟩:=nA W1 (.cells #[iv 0] 34);obtain⟨t3,ht3⟩:=ex W1.heap.size;obtain⟨W3,hW3,b3⟩:=nA W2 (.cells #[.slice none 0 0,.slice none 0 0,.slice none 0 0,.slice none 0 0,.slice none 0 0] 74);obtain⟨t,htt⟩:=ex W2.heap.size;have q2:=ht2▸bB hW1 (bT b2 b3);have q3:=ht3▸bB hW2 b3;have q4:=htt▸bB hW3 (bR W3);have HTS:Hid (t2<t3∧t3<t∧w.heap.size≤t2):=Lq (by
  have e1:W1.heap.size=w.heap.size+1:=by rw[←hW1];simp
  have B:W2.heap.size=W1.heap.size+1:=by rw[←hW2];simp
  omega)
 have D:Hid (RS w W3 t2 t3 t (je 0) (.slice none 0 0) (.slice none 0 0) (.slice none 0 0) (.slice none 0 0) (.slice none 0 0)):=Lq ⟨bT b1 (bT b2 b3),by have:=HTS.out;omega,q2,q3,q4,.inl ⟨rfl,rfl⟩,.inl ⟨rfl,rfl⟩,World.ownsRow_nil _ _ _ _,World.ownsRow_nil _ _ _ _,World.ownsRow_nil _ _ _ _,fun _=>rfl,fun _=>rfl⟩
 have af:=Lq hY;have HTAB:=Lq ht;have HM:=Lq hm;obtain⟨s,J⟩:=ex (⟨(nD y).toArray⟩:ByteArray);rw[J]at hti ⊢;have hl:¬(4000<s.size):=by rw[hti];decide
 have hf:jd 0=s:=hti.symm;have HS:=Lq J;clear hY ht hm b1 b2 b3 q2 q3 q4 J hti v x hy7 hy
 go_enter_defers Tryz.func65,Tryz.ntmps65
 go_wp2_with fail;clear hW1 hW2 hW3 ht2 ht3 htt;go_loopw [5] (fun r wr=>∃(k:Nat) (N R M L O:Value),k≤7∧r=.string (jd k)∧Hid (RS w wr t2 t3 t (je k) N R M L O)) (fun r _=>ja r)
 case atStart=>exact⟨0,_,_,_,_,_,Nat.zero_le _,by rw[hf],D⟩
 case round =>
  clear D;obtain⟨k,N,R,M,L,O,hk,rfl,d⟩:=hrel;by_cases hlt:k<7
  ·have E:=GB k hlt;obtain⟨r,H⟩:=ex (jd k);obtain⟨r',hr'⟩:=ex (jd (k+1));have hse:=E.some';obtain⟨row,ws,hcut,g,hsp,hcn,hcl⟩:=E.row;have hsz:=E.sz;have hless:=E.less;rw[H]at hse hcut hsz hless ⊢;rw[hr']at hcut hless;have HLS:Hid (r'.size<r.size):=Lq hless;have HRK:=Lq hr';have hmr:wr.cell? ⟨0,0,none⟩=some (iv m):=(World.cell?_of_block (w:=w) (a:=⟨0,0,none⟩) (d.out.bw.block 0 (br HM.out))).trans HM.out;have hcu:=xJ r pO m wr (by omega) hmr
   rw[show pO.data.toList=[10]from rfl,hcut]at hcu
   have e1:(⟨row.data.toList.toArray⟩:ByteArray)=row:=by simp
   have B:(⟨r'.data.toList.toArray⟩:ByteArray)=r':=by simp
   simp only[e1,B]at hcu;have ad:=Lq hcu;have HSP:Hid (∀W,BW wr W→Cs 108 #[.string row,.string hZ] W fun e w'=>e=.returned (.slice (some ⟨W.heap.size,0,none⟩) ws.length ws.length)∧w'=W.alloc (.cells (ws.map Value.string).toArray 9)):=Lq fun W hb=>by
    have h:=Tryz.strings_Split row hZ m W (by omega) ((World.cell?_of_block (w:=wr) (a:=⟨0,0,none⟩) (hb.block 0 (br hmr))).trans hmr) (by decide)
    rw[hcn,hsp]at h;exact h
   have ac:=Lq hcl;clear E hcut g hsp hcn hcl hmr hcu e1 B H hr' hless hsz;go_wp2_with fail;refine ad.out.mono ?_;rintro e w1 ⟨rfl,(HB1:Hid _)⟩;go_wp2_with fail;refine(mD _).mono ?_;rintro e w2 ⟨rfl,hw2⟩;subst hw2;go_wp2_with fail;refine(HSP.out _ HB1.out).mono ?_;rintro e w3 ⟨rfl,hw3⟩;have hb3:BW w2 w3:=by rw[hw3];exact bA (bR w2) _
   have o:aa w3 w2.heap.size 9 (ws.map Value.string).toArray:=by rw[hw3];exact aa.new w2 9 _
   obtain⟨bk,i⟩:=ex w2.heap.size;rw[i]at o
   (try rw[i])
   have C:=Lq (ac.out w w3 t t2 t3 bk N R M L O (d.out.below (bT HB1.out hb3)) o);obtain⟨n,hn⟩:=ex ws.length;rw[hn]at C
   (try rw[hn])
   clear hb3 o hw3 hn i;go_wp2_with fail;refine C.out.mono ?_;rintro e S ⟨rfl,aj,am,ai,ah,al,g⟩;have HR4:=Lq g;clear g;go_wp2_with fail;go_roundw
   case measure =>
    show ja (.string r')<ja (.string r)
    exact HLS.out
   case rel=>exact⟨k+1,aj,am,ai,ah,al,by omega,by rw[HRK.out],HR4⟩
  ·obtain rfl:k=7:=by omega
   have d:Hid (RS w wr t2 t3 t y N R M L O):=by rw[HY7.out]at d;exact d
   obtain⟨A,hA,u⟩:=d.out.rd (V:=wr) (fun _ _ _ _ _ _=>rfl) HSK.out.1 HSK.out.2
   have z:aa wr t 74 (ak y A):=hA▸d.out.yd;have HA:=Lq hA;have HYD:=Lq z;have HCK:=Lq (sF y A wr.heap.size wr u (lr _) af.out);have HTX:Hid (∀W,BW wr W→Cs 120 #[.agg (ak y A)] W (Rt W (.string s))):=Lq fun W hb=>by have h:=yC y A wr.heap.size W (u.below hb (lr _)) hb.size HTXO.out (HTAB.out.below (bT d.out.bw hb) (lr _));rw[HS.out]at h;exact h
   obtain⟨T,U,X,Y,Z⟩:=z.c5;clear hA u z;have hr7:(jd 7).toList.isEmpty=true:=by kernel_rfl
   obtain⟨r,H⟩:=ex (jd 7);rw[H]at hr7 ⊢;clear H;go_wp2_with fail;refine HCK.out.mono ?_;rintro e w2 ⟨rfl,hb⟩;have HB2:=Lq hb;have q:=HYD.out.keep hb;clear T U X Y Z;obtain⟨T,U,X,Y,Z⟩:=q.c5;clear q hb;go_wp2_with fail;refine(HTX.out _ HB2.out).mono ?_;rintro e w3 ⟨rfl,hb⟩;have HB3:=Lq (bT HB2.out hb);clear hb;go_wp2_with fail;refine(mD _).mono ?_;rintro e S ⟨rfl,hw4⟩;subst hw4;have q:=HYD.out.keep HB3.out;clear T U X Y Z;obtain⟨T,U,X,Y,Z⟩:=q.c5;have qr:=d.out.res.keep HB3.out;have qe:=d.out.err.keep HB3.out;have n23:t3≠t2:=by have:=HTS.out;omega
   obtain⟨W5,an,G,F,j⟩:=oG S t2 46 (.slice none 0 0) (.slice none 0 0) (.slice none 0 0) (.slice none 0 0) (.slice none 0 0) (.slice A.k y.kinds.length A.ck) (.slice A.p y.places.length A.cp) (.slice A.f y.first.length A.cf) (.slice A.a y.papers.length A.ca) (.slice A.l y.last.length A.cl) qr;have qe5:=j _ _ _ qe n23;obtain⟨W6,hW6⟩:=ex (W5.setCell ⟨t3,0,none⟩ (iv 0));have q6:aa W6 t2 46 (ak y A):=by rw[←hW6];exact G.far (Ne.symm n23) _
   have K:aa W6 t3 34 #[iv 0]:=by rw[←hW6];exact qe5.set_ 0 (iv 0)
   have ab:Hid (BW w W6):=Lq (by rw[←hW6];exact aH (F w (bT d.out.bw HB3.out) HTS.out.2.2) (by have:=HTS.out;show w.heap.size≤t3;omega) (p:=⟨t3,0,none⟩) _)
   have ae:Hid (aO W6 W6.heap.size y A):=Lq (by
    have J:∀(b:Nat) (cs:Array Value) (ty:TypeId),ty≠46→ty≠34→aa S b ty cs→W6.heap[b]?=S.heap[b]?:=fun b cs ty h1 h2 hb=>by have e:=j _ _ _ hb (bF hb qr h1);have B:=e.far (p:=⟨t3,0,none⟩) (bF hb qe h2) (iv 0);rw[hW6]at B;exact B.trans hb.symm
    obtain⟨A',ag,I⟩:=(d.out.below HB3.out).rd J HSK.out.1 HSK.out.2;rw[GC (HA.out.symm.trans ag)];exact I)
   obtain⟨f0,f1,f2,f3,f4⟩:=qr.f5;obtain⟨s0,s1,s2,s3,s4⟩:=qr.c5;have sl:=qr.lt;obtain⟨g0,y0,l1⟩:_∧_∧_:=⟨qe5.frozen 0,qe5.c 0,qe5.lt⟩;obtain⟨z0,z1,z2,z3,z4,z5⟩:_∧_∧_∧_∧_∧_:=⟨q6.c 0,q6.c 1,q6.c 2,q6.c 3,q6.c 4,K.c 0⟩;clear q qr qe G F j qe5 q6 K;go_wp2_with fail;refine leaves_cons (f:=121) (args:=#[pT t2 0,pT t3 0]) (by simp) (by simp[go_sem]) ?_
   refine(GD t2 t3 _).mono ?_;rintro e u' ao ⟨rfl,rfl,rfl⟩;simp only[Leaves,settle];exact⟨.tuple #[.agg (ak y A),iv 0],by simp[results,Tryz.results65,go_sem,z0,z1,z2,z3,z4,z5],A,rfl,ab.out,ae.out⟩
end
attribute [local go_sem] Oper.semAt_some
theorem yH(h:ByteArray)(f d g i j:Int)(a:List ByteArray)(A B:Option Addr)(c m:Nat)(w:World)(o:am .string w w.heap.size A a)(p:am .string w w.heap.size B a)(r:a.length≤1000000) :
  Cs 112 #[.agg #[.string h,iv f,iv d,iv g,.slice A a.length c,iv i,iv j],.agg #[.string h,iv f,iv d,iv g,.slice B a.length m,iv i,iv j]] w (Rt w (.bool true)):=by
 obtain⟨l,n,b⟩:=nA w (.cells #[.string h,iv f,iv d,iv g,.slice A a.length c,iv i,iv j] 50);obtain⟨W2,hW2,b2⟩:=nA l (.cells #[.string h,iv f,iv d,iv g,.slice B a.length m,iv i,iv j] 50);obtain⟨g2,hg2⟩:=ex w.heap.size;obtain⟨g3,hg3⟩:=ex l.heap.size;have q1:aa l g2 50 #[.string h,iv f,iv d,iv g,.slice A a.length c,iv i,iv j]:=by rw[←n,←hg2];exact aa.new w 50 _
 have s:aa W2 g3 50 #[.string h,iv f,iv d,iv g,.slice B a.length m,iv i,iv j]:=by rw[←hW2,←hg3];exact aa.new l 50 _
 have k:=q1.keep b2;obtain⟨d0,d1,d2,d3,d4,d5,d6⟩:=k.c7;obtain⟨e0,e1,e2,e3,e4,e5,e6⟩:=s.c7;have HBB:=Lq (bT b b2);have HW:=Lq (pN A B a c m W2 ((o.below (bT b b2) (lr _)).more (bT b b2).size) ((p.below (bT b b2) (lr _)).more (bT b b2).size) r);clear b b2 q1 s k o p r;go_enter Tryz.func112,Tryz.ntmps112
 go_wp2_with fail;refine HW.out.mono ?_;rintro e t ⟨rfl,q⟩;have HB3:=Lq (bT HBB.out q);clear q;go_wp2_with fail;go_ret
 exact⟨rfl,HB3.out⟩
attribute [local go_sem] Oper.semAt_some
theorem yI(A B:Option Addr)(xs q:List aj)(c F:Nat)(w:World)(D:az w w.heap.size A c xs)(E:az w w.heap.size B F q)(z:ab xs=ab q)(H:xs.length≤1000)(m:∀p∈ab xs,p.on.length≤1000000) :
  Cs 54 #[.slice A xs.length c,.slice B q.length F] w (Rt w (.bool true)):=by
 have C:q.length=xs.length:=by have:=congrArg List.length z;simpa using this.symm
 have u:=Lq D;have HSB:=Lq E;have HE:=Lq z;have HON:=Lq m;rw[C];clear D E z m;go_enter Tryz.func54,Tryz.ntmps54
 go_wp2_with fail;go_loopw [5,6] (fun b i wr=>∃k:Nat,k≤xs.length∧i=iv k∧b=.bool true∧Hid (BW w wr)) (fun _ i _=>xs.length-(intOf i).toNat)
 case atStart=>exact⟨0,Nat.zero_le _,rfl,rfl,Lq (bR _)⟩
 case round =>
  obtain⟨k,G,rfl,rfl,d⟩:=hrel;have hk0:=nn k;have hkw:IntKind.i64.wrap ((k:Int)+1)=(k:Int)+1:=by rw[IntKind.wrap_i64];omega
  by_cases hlt:k<xs.length
  ·obtain⟨x,hx⟩:=gX (l:=xs) (i:=k) hlt;obtain⟨y,hy⟩:=gX (l:=q) (i:=k) (by omega)
   have n:x.p=y.p:=by
    have r:=bN hx;have h2:=bN hy;rw[HE.out,h2]at r;injection r with r
    exact r.symm
   have f:=HON.out x.p (mG ⟨k,bN hx⟩);obtain⟨xp,xA,xc⟩:=x;obtain⟨yp,yA,yc⟩:=y;simp only at n f;subst n;obtain⟨pn,pk,pf,pl,pon,pw,pz⟩:=xp;simp only at f;have hsa:=u.out.below d.out (lr _);have hsb:=HSB.out.below d.out (lr _);obtain⟨b1,o1,rfl,hb1,hmx,a0,a1,a2,a3,a4,a5,a6⟩:=hsa.rd.at hx;obtain⟨b2,o2,rfl,hb2,hmy,c0,c1,c2,c3,c4,c5,c6⟩:=hsb.rd.at hy;simp only at a0 a1 a2 a3 a4 a5 a6 c0 c1 c2 c3 c4 c5 c6 hmx hmy;have HS:Hid (∀W,BW wr W→cA W b1 (o1+k*7) (.string pn)∧cA W b1 (o1+k*7+1) (iv pk)∧cA W b1 (o1+k*7+2) (iv pf)∧cA W b1 (o1+k*7+3) (iv pl)∧cA W b1 (o1+k*7+4) (.slice xA pon.length xc)∧cA W b1 (o1+k*7+5) (iv pw)∧cA W b1 (o1+k*7+6) (iv pz)∧cA W b2 (o2+k*7) (.string pn)∧cA W b2 (o2+k*7+1) (iv pk)∧cA W b2 (o2+k*7+2) (iv pf)∧cA W b2 (o2+k*7+3) (iv pl)∧cA W b2 (o2+k*7+4) (.slice yA pon.length yc)∧cA W b2 (o2+k*7+5) (iv pw)∧cA W b2 (o2+k*7+6) (iv pz)):=Lq fun W hb=>by
    have g:∀{o:Nat} {v:Value},wr.cell? ⟨b1,o,none⟩=some v→cA W b1 o v:=fun h=>(World.cell?_of_block (w:=wr) (a:=⟨b1,_,none⟩) (hb.block b1 (br h))).trans h
    have j:∀{o:Nat} {v:Value},wr.cell? ⟨b2,o,none⟩=some v→cA W b2 o v:=fun h=>(World.cell?_of_block (w:=wr) (a:=⟨b2,_,none⟩) (hb.block b2 (br h))).trans h
    exact⟨g a0,g a1,g a2,g a3,g a4,g a5,g a6,j c0,j c1,j c2,j c3,j c4,j c5,j c6⟩
   have t:Hid (∀W,BW wr W→Cs 112 #[.agg #[.string pn,iv pk,iv pf,iv pl,.slice xA pon.length xc,iv pw,iv pz],.agg #[.string pn,iv pk,iv pf,iv pl,.slice yA pon.length yc,iv pw,iv pz]] W (Rt W (.bool true))):=Lq fun W hb=>yH pn pk pf pl pw pz pon xA yA xc yc W ((hmx.on.below hb d.out.size).more (lT d.out.size hb.size)) ((hmy.on.below hb d.out.size).more (lT d.out.size hb.size)) f
   clear hx hy hsa hsb hmx hmy a0 a1 a2 a3 a4 a5 a6 c0 c1 c2 c3 c4 c5 c6 f;go_wp2_with fail;go_upto_region 5 with fail
   go_region_held3 (fun W=>cA W b1 (o1+k*7) (.string pn)∧cA W b1 (o1+k*7+1) (iv pk)∧cA W b1 (o1+k*7+2) (iv pf)∧cA W b1 (o1+k*7+3) (iv pl)∧cA W b1 (o1+k*7+4) (.slice xA pon.length xc)∧cA W b1 (o1+k*7+5) (iv pw)∧cA W b1 (o1+k*7+6) (iv pz)∧cA W b2 (o2+k*7) (.string pn)∧cA W b2 (o2+k*7+1) (iv pk)∧cA W b2 (o2+k*7+2) (iv pf)∧cA W b2 (o2+k*7+3) (iv pl)∧cA W b2 (o2+k*7+4) (.slice yA pon.length yc)∧cA W b2 (o2+k*7+5) (iv pw)∧cA W b2 (o2+k*7+6) (iv pz)) (first | exact HS.out _ (u0 hb7) | exact HS.out _ (aZ (bR _)) | exact HS.out _ (fc (bR _))) (first | (go_at_call 112;((with_reducible refine(t.out _ (aZ (bR _))).mono ?_);rintro e w7 ⟨rfl,hb7⟩)))
   have s:=Lq (bT d.out (u0 hb7));have hkl:k+1≤xs.length:=hlt;clear hb7;go_wp2_with fail;go_roundw
   case measure=>simp[intOf];omega
   case rel=>exact⟨k+1,hkl,by go_num,rfl,s⟩
  ·obtain rfl:k=xs.length:=by omega
   go_wp2_with fail;go_ret
   exact⟨rfl,d.out⟩
end Go.Proofs.YtbillnhcmkpohaaGreatDoor
