/- waste: all ways of a kind (printed by mkWA4.py). waste: papers in order; the five things .. -/
import Derived.Test.YtbillnhcmkpohaaGreatDoorM4
import Derived.Test.YtbillnhcmkpohaaGreatDoorM15
set_option maxRecDepth 1000000
set_option maxHeartbeats 0
namespace Go.Proofs.YtbillnhcmkpohaaGreatDoor
open Go.RowKit
noncomputable def xR:Array Oper:=aU (aF Tryz.f73 12)
noncomputable def FR:Array Oper:=aU (aF Tryz.f73 18)
noncomputable def FS:Array Oper:=aU (aF Tryz.f73 20)
noncomputable def xS:Array Oper:=aU (aF Tryz.f73 22)
noncomputable def FT:Array Oper:=aU (aF Tryz.f73 25)
structure pY(y:ar)(k:Int)(l:List Int)(w:World)(g b cap:Nat)(gj:Nat)(w':World):Prop where
 bw:BW w w'
 gl:w.heap.size≤g
 wb:aa w' g 89 #[.slice (some ⟨b,0,none⟩) (ce y k l).length cap,iv ((y.places.length+2:Nat):Int),.slice (some ⟨gj,0,none⟩) y.papers.length y.papers.length,iv (((ce y k l).length:Int)-1)]
 er:cx w.heap.size w' b cap (ce y k l)
 jr:w'.ownsRow w.heap.size 3 1 (.slice (some ⟨gj,0,none⟩) y.papers.length y.papers.length) y.papers.length ((n8 y k l).map iv)
structure sE(y:ar):Prop where
 places:1≤y.places.length∧y.places.length≤4
 papers:y.papers.length≤10
 copy:∀(i:Nat) (p:cT),y.papers[i]?=some p→p.copy<y.papers.length
 fr:∀(i:Nat) (p:cT),y.papers[i]?=some p→-1≤p.fr∧p.fr<y.places.length
 en:∀(i:Nat) (p:cT),y.papers[i]?=some p→-1≤p.en∧p.en<y.places.length
theorem xT(y:ar)(A:aI)(B:Nat)(k:Int)(L:Option Addr)(l:List Int)(ad:Nat)(w:World)(H:aO w B y A)(hB:B≤w.heap.size)(hP:sE y)(hm:l.length≤maxLen)(hL:am iv w B L l) :
  Cs 73 #[.agg (ak y A),iv k,.slice L l.length ad] w fun e w'=>∃g b cap gj,e=.returned (pT g 0)∧pY y k l w g b cap gj w':=by
 obtain⟨W1,aj,b1⟩:=nA w (.cells (ak y A) 74);obtain⟨g3,hg3⟩:=ex w.heap.size;obtain⟨W2,hW2,b2⟩:=nA W1 (.cells #[iv 0] 3);obtain⟨g7,hg7⟩:=ex W1.heap.size;obtain⟨W3,hW3⟩:=ex (W2.setCell ⟨g7,0,none⟩ (iv y.places.length));have q7a:aa W2 g7 3 #[iv 0]:=by rw[←hW2,←hg7];exact aa.new W1 3 _
 have al:aa W2 g3 74 (ak y A):=by rw[←hW2];exact aa.alloc (by rw[←aj,←hg3];exact aa.new w 74 _) _
 have av:w.heap.size≤g7:=by rw[←hg7];exact b1.size
 have b3:BW w W3:=by rw[←hW3];exact aH (bT b1 b2) av (p:=⟨g7,0,none⟩) _
 have q3:aa W3 g3 74 (ak y A):=by rw[←hW3];exact al.far (bF al q7a (by decide)) _
 have q7:aa W3 g7 3 #[iv y.places.length]:=by rw[←hW3];have h:=q7a.set_ 0 (iv y.places.length);simpa using h
 have aF:w.heap.size≤W3.heap.size:=b3.size;obtain⟨N,O,R,M,T⟩:=q3.c5;have x1a:=al.c 1;have x1b:W1.cell? ⟨g3,1,none⟩=some (.slice A.p y.places.length A.cp):=by rw[←aj,←hg3];exact(aa.new w 74 (ak y A)).c 1
 obtain⟨e7,f7,l7⟩:_∧_∧_:=⟨q7a.c 0,q7a.frozen 0,q7a.lt⟩;obtain⟨y7,l37⟩:_∧_:=⟨q7.c 0,q7.lt⟩;have l3:=q3.lt;have l31:g3<W1.heap.size:=by rw[←hg3,←aj];simp
 obtain⟨i3,aD,hz,aE,aG⟩:=info_parts Tryz.info3q;obtain⟨hpl,hpa,hcp,hfr,hen⟩:=hP;have hw1:IntKind.i64.wrap ((y.places.length:Int)+1)=(y.places.length:Int)+1:=by rw[IntKind.wrap_i64];omega
 have aT:IntKind.i64.wrap ((y.places.length:Int)+1+1)=(y.places.length:Int)+2:=by rw[IntKind.wrap_i64];omega
 have HY:=Lq H;have HZB:=Lq hB;have HML:=Lq hm;have HLR:=Lq hL;have HPC:=Lq hcp;have HPF:=Lq hfr;have HPE:=Lq hen;have HB3:=Lq b3;have HQ:=Lq (And.intro q3 q7);have hg7l:=av;have hbig:(y.papers.length:Int)<9223372036854775808:=by omega
 clear H hB hm hL hcp hfr hen b1 b2 b3 q3 q7 al q7a av;go_enter Tryz.func73,Tryz.ntmps73
 go_wp2_with (at_make;refine wpList_make_full _ rfl _ _ 48 rfl w.heap.size 3 i3 _ 1 Tryz.underlying48 aD hz aE .i64 .i64 _ _ y.papers.length rfl rfl rfl rfl ?m1 ?m2 ?m3 ?_)
 case m1=>rw[aG];omega
 case m2=>unfold maxLen;omega
 case m3=>exact aF
 intro w4 u X;have hmk:w4.ownsRow w.heap.size 3 1 (.slice (some ⟨W3.heap.size,0,none⟩) y.papers.length y.papers.length) y.papers.length ((List.replicate y.papers.length (0:Int)).map iv):=by
  have h:=u;have e:=sr y.papers.length;rw[Nat.mul_one]at e
  rwa [e,←hg3]at h
 have K:BW W3 w4:=⟨X.os,X.tape,X.output,X.size,fun j hj=>X.block j hj (by simp)⟩
 have q3:=HQ.out.1.keep K;have q7:=HQ.out.2.keep K;obtain⟨gj,hgj⟩:=ex W3.heap.size;rw[hgj]at hmk ⊢;obtain⟨W5,hW5,hb45⟩:=nA w4 (.cells #[.slice none 0 0,iv ((y.places.length:Int)+2),.slice (some ⟨gj,0,none⟩) y.papers.length y.papers.length,iv 0] 89);obtain⟨g,hg⟩:=ex w4.heap.size;have E:Hid (cr w y A g3 g7 g gj 0 W5 (dC y k 0) (List.replicate y.papers.length 0) (.slice none 0 0)):=by
  refine Lq ⟨q3.keep hb45,q7.keep hb45,by rw[←hW5,←hg];exact aa.new w4 89 _,World.ownsRow_nil _ _ _ _,aN hmk hb45,bT (bT HB3.out K) hb45, ?_, ?_⟩
  ·rw[←hg];exact(bT HB3.out K).size
  ·rw[←hgj];omega
 obtain⟨N,O,R,M,T⟩:=q3.c5;have l3':=q3.lt;obtain⟨zA,zB,zC,zD,zE⟩:=E.out.b3.c5;clear u X hmk K hb45 q3 q7 aj hW2 hW3 hg3 hg7 hgj x1a x1b e7 f7 l7 y7 l37 l3 l31 aD hz aE aG hg7l HQ HB3 aF;go_wp2_with fail;clear N O R M T zA zB zC zD zE hW5 hg l3';obtain⟨js0,hjs0⟩:=ex (List.replicate y.papers.length (0:Int));rw[hjs0]at E;have HJ0:=Lq hjs0;clear hjs0;obtain⟨i5,hi5,hz50,hz51,hz52⟩:=info_parts Tryz.info154;have hplen:∀m,(dC y k m).length=2*m:=fun m=>by
  induction m with
  | zero=>rfl
  | succ m ih=>rw[sw,List.length_append,ih];unfold mo;simp;omega
 have aq:=Lq hplen;clear hplen;go_loopw [39] (fun i wr=>∃(m:Nat) (v:Value),m≤y.places.length∧i=iv m∧Hid (cr w y A g3 g7 g gj 0 wr (dC y k m) js0 v)) (fun i _=>y.places.length-(intOf i).toNat)
 case atStart=>exact⟨0,_,Nat.zero_le _,rfl,E⟩
 case round =>
  clear E;obtain⟨m,v,hk,rfl,E⟩:=hrel;have hk0:=nn m;by_cases x:m<y.places.length
  case neg =>
   obtain rfl:m=y.places.length:=by omega
   obtain⟨t,c,rfl, -, -, -⟩:=gI E.out.er (by rw[aq.out];omega)
   have aA:Hid (cr w y A g3 g7 g gj 0 wr (au y k l 0).1 (au y k l 0).2 (.slice (some ⟨t,0,none⟩) (au y k l 0).1.length c)):=by rw[←HJ0.out]at E;exact E
   have aK:Hid (∀m,(au y k l m).1.length≤2*y.places.length+m):=Lq fun m=>by
    induction m with
    | zero=>show(dC y k y.places.length).length≤_;rw[aq.out];omega
    | succ m ih =>
     rw[oB];unfold kH;split
     ·omega
     ·split
      ·simp only[List.length_append,List.length_cons,List.length_nil];omega
      ·omega
   obtain⟨N,O,R,M,T⟩:=E.out.b3.c5;obtain⟨Aa,hAa⟩:=ex A.a;rw[hAa]at M;have HAA:=Lq hAa;clear hAa E HJ0;go_wp2_with fail;clear N O R M T;go_loopw [97] (fun i wr=>∃(m t c:Nat),m≤y.papers.length∧i=iv m∧Hid (cr w y A g3 g7 g gj 0 wr (au y k l m).1 (au y k l m).2 (.slice (some ⟨t,0,none⟩) (au y k l m).1.length c))) (fun i _=>y.papers.length-(intOf i).toNat)
   case atStart=>exact⟨0,t,c,Nat.zero_le _,rfl,aA⟩
   case round =>
    clear aA;obtain⟨m,t,c,hk,rfl,E⟩:=hrel;have hk0:=nn m;have HLE:Hid ((au y k l m).1.length≤40):=Lq (by have:=aK.out m;omega)
    by_cases x:m<y.papers.length
    case neg =>
     obtain rfl:m=y.papers.length:=by omega
     obtain⟨N,O,R,M,T⟩:_∧_∧_∧_∧_:=⟨E.out.b9.c 0,E.out.b9.c 1,E.out.b9.c 2,E.out.b9.c 3,E.out.b9.frozen 3⟩;have xl:=E.out.b9.lt;obtain⟨Wo,hWo⟩:=ex (wr.setCell ⟨g,3,none⟩ (iv ((au y k l y.papers.length).1.length:Int)));have q:Hid (cr w y A g3 g7 g gj ((au y k l y.papers.length).1.length:Int) Wo (au y k l y.papers.length).1 (au y k l y.papers.length).2 (.slice (some ⟨t,0,none⟩) (au y k l y.papers.length).1.length c)):=by have h:=E.out.oput ((au y k l y.papers.length).1.length:Int);rw[hWo]at h;exact Lq h
     clear E;go_upto_region 25 with fail
     clear N O R M T xl hWo;have s:Hid (∀W,cr w y A g3 g7 g gj ((au y k l y.papers.length).1.length:Int) W (au y k l y.papers.length).1 (au y k l y.papers.length).2 (.slice (some ⟨t,0,none⟩) (au y k l y.papers.length).1.length c)→BW Wo W→(fun W=>cA W g 0 (.slice (some ⟨t,0,none⟩) (au y k l y.papers.length).1.length c)∧cA W g7 0 (iv y.places.length)) W):=Lq fun W hW hb=>⟨hW.b9.c 0,hW.b7.c 0⟩
     have D:Hid (∀W5 W6,cr w y A g3 g7 g gj ((au y k l y.papers.length).1.length:Int) W5 (au y k l y.papers.length).1 (au y k l y.papers.length).2 (.slice (some ⟨t,0,none⟩) (au y k l y.papers.length).1.length c)→BW Wo W5→W5.grownBy W6 (Value.ownBlock (.slice (some ⟨t,0,none⟩) (au y k l y.papers.length).1.length c))→(fun W=>cA W g 0 (.slice (some ⟨t,0,none⟩) (au y k l y.papers.length).1.length c)∧cA W g7 0 (iv y.places.length)) W6):=Lq fun W5 W6 hW hb hg=>by
      have z:=hW.b9.grown hg (ax hW.er hW.b9 (by decide))
      have k7:=hW.b7.grown hg (ax hW.er hW.b7 (by decide))
      exact⟨z.c 0,k7.c 0⟩
     refine cJ (late:=fun j=>j==12) (ops:=FT) (r:=25) (n:=13) (S:=fun W=>cA W g 0 (.slice (some ⟨t,0,none⟩) (au y k l y.papers.length).1.length c)∧cA W g7 0 (iv y.places.length)) (fun W hb=>s.out W (q.out.below hb) hb) fun V0 HB0 hHeld=>?_
     refine ae 0 (pT g 0) ?_;refine ae 1 (pT g 0) ?_;refine ae 2 (pT g 0) ?_;refine ae 3 (pT g 0) ?_;refine ae 4 (.slice (some ⟨t,0,none⟩) (au y k l y.papers.length).1.length c) ?_;refine ae 5 (iv y.places.length) ?_;refine ae 6 (iv ((y.places.length:Int)+1)) ?_;refine ae 7 (.agg #[iv y.places.length,iv ((y.places.length:Int)+1),iv (-1099511627776),iv 1099511627776,iv 0]) ?_;refine aQ 8 fun I hK=>?_
     go_simp;have d:=Lq (q.out.below (bA HB0.out (.cells #[iv y.places.length,iv ((y.places.length:Int)+1),iv (-1099511627776),iv 1099511627776,iv 0] 154)));have hnew:=fW V0 [iv y.places.length,iv ((y.places.length:Int)+1),iv (-1099511627776),iv 1099511627776,iv 0] 154;have HB5:=Lq (bA HB0.out (.cells #[iv y.places.length,iv ((y.places.length:Int)+1),iv (-1099511627776),iv 1099511627776,iv 0] 154));obtain⟨gz,hgz⟩:=ex V0.heap.size;obtain⟨W5,hW5⟩:=ex (V0.alloc (.cells #[iv y.places.length,iv ((y.places.length:Int)+1),iv (-1099511627776),iv 1099511627776,iv 0] 154));rw[hgz]at hnew ⊢;rw[hW5]at hnew d HB5 ⊢;refine hK.out _ _ (s.out _ d.out HB5.out) (fun hHeld=>?_)
     clear hK hgz hW5;refine aQ 9 fun I hK=>?_
     refine step_append_lies W5 (by rfl) _ _ 87 (by rfl) w.heap.size 154 i5 _ 5 40 Tryz.underlying87 hi5 hz50 hz51 hz52 rfl (by decide) (.slice (some ⟨t,0,none⟩) (au y k l y.papers.length).1.length c) (au y k l y.papers.length).1.length _ (by rfl) d.out.er ⟨gz,0,none⟩ 1 1 [iv y.places.length,iv ((y.places.length:Int)+1),iv (-1099511627776),iv 1099511627776,iv 0] (by rfl) (by rfl) hnew (by simp[Value.oneCell']) (by decide) (by have:=HLE.out;unfold maxLen;omega) (by have:=HLE.out;omega) d.out.bw.size _ rfl ?_
     intro t c V u o J x;have HG6:=Lq (d.out.grow (n2:=1) (es2:=[⟨y.places.length,y.places.length+1, -1099511627776,1099511627776,0⟩]) rfl u o);have HS6:=D.out W5 V d.out HB5.out o;have z:=d.out.b9.grown o (ax d.out.er d.out.b9 (by decide))
     have U:=Lq (And.intro (z.c 0) (And.intro (z.frozen 0) z.lt));refine hK.out _ _ HS6 (fun hHeld=>?_)
     clear hK u o J x hnew HS6 z d HB5 HB0;refine ae 10 (pT g 0) ?_;refine ae 11 (pT g 0) ?_;refine bO 12 fun I hK=>?_
     obtain⟨kc,kf,kl⟩:=U.out;obtain⟨W7,hW7⟩:=ex (V.setCell ⟨g,0,none⟩ (.slice (some ⟨t,0,none⟩) ((au y k l y.papers.length).1.length+1) c));rw[hW7]at HG6;go_simp;refine hK.out _ _ ?_;clear hK kc kf kl U hHeld hW7;refine dL ?_;clear s D q;go_wp2_with fail;go_ret
     refine⟨g,t,c,gj,rfl,HG6.out.bw,HG6.out.gl, ?_,⟨HG6.out.er⟩,HG6.out.jr⟩;have h:=HG6.out.b9;have e1:((y.places.length+2:Nat):Int)=(y.places.length:Int)+2:=by push_cast;omega
     have e2:((ce y k l).length:Int)-1=((au y k l y.papers.length).1.length:Int):=by unfold ce;rw[List.length_append];simp
     rw[e1,e2];exact h
    have aP:(m:Int)<(y.papers.length:Int):=by omega
    obtain⟨p,hp⟩:=gX (l:=y.papers) (i:=m) x;obtain⟨ba,oa,hA, -,c0,c1,c2,c3,c4⟩:=(HY.out.below E.out.bw HZB.out).paper hp;obtain rfl:Aa=some ⟨ba,oa,none⟩:=HAA.out.symm.trans hA;obtain⟨Wa,Wb,hWa,hWb,hbb,qa,hbaa,qb⟩:=fh wr 53 (iv 0) (iv 0) (iv 0) (iv 0) (iv 0) (iv p.kind) (iv p.fr) (iv p.en) (iv p.kilos) (iv p.copy);obtain⟨g17,hg17⟩:=ex wr.heap.size;rw[hg17]at hWb qa qb;obtain⟨f0,f1,f2,f3,f4⟩:=qa.f5;obtain⟨e0,e1,e2,e3,e4⟩:=qa.c5;have el:=qa.lt;obtain⟨d0,d1,d2,d3,d4⟩:=qb.c5;have HIb:=Lq (E.out.below hbb);obtain⟨N,O,R,M,T⟩:=HIb.out.b3.c5;have HQ17b:=Lq qb;have HPX:=Lq hp;have H136:=Lq (rL y A B m p Wb (HY.out.below HIb.out.bw HZB.out) (lT HZB.out HIb.out.bw.size) hp);have HPfr:=Lq (HPF.out m p hp).1;have HPen:=Lq (HPE.out m p hp).1;have hcpl:=HPC.out m p hp;clear hp hA hbb qa hbaa qb E;by_cases hkd:p.kind=k
    case neg =>
     have aM:(p.kind != k)=true:=by simpa using hkd
     have e:au y k l (m+1)=au y k l m:=by rw[oB];unfold kH;simp only[HPX.out];rw[if_neg (fun h=>hkd h.1)]
     have ap:=Lq e;clear e hkd;go_wp2_with fail;go_roundw
     case rel=>exact⟨m+1,t,c,x,by go_num,by rw[ap.out];exact HIb⟩
     case measure=>simp[intOf];omega
    have aM:(p.kind != k)=false:=by simp[hkd]
    have aJ:=Lq hkd;obtain⟨lb,hlb⟩:=ex (ju p m);rw[hlb]at H136;have HLB:=Lq hlb;clear hkd hlb;go_wp2_with fail;refine H136.out.mono ?_;rintro e w5 ⟨rfl,hb5⟩;clear f0 f1 f2 f3 f4 e0 e1 e2 e3 e4 el d0 d1 d2 d3 d4 N O R M T c0 c1 c2 c3 c4 hWa hWb hg17;have HIc:=Lq (HIb.out.below hb5);have HQ17c:=Lq (HQ17b.out.keep hb5);clear hb5 HIb HQ17b H136;cases lb
    case false =>
     have e:au y k l (m+1)=au y k l m:=by rw[oB];unfold kH;simp only[HPX.out];rw[if_neg (fun h=>by rw[HLB.out]at h;exact absurd h.2 (by decide))]
     have ap:=Lq e;clear e;go_wp2_with fail;go_roundw
     case rel=>exact⟨m+1,t,c,x,by go_num,by rw[ap.out];exact HIc⟩
     case measure=>simp[intOf];omega
    have aB:Hid (p.kind=k∧ju p m=true):=Lq ⟨aJ.out,HLB.out⟩;have HND:Hid (∀(a:Int) (W:World),W.cell? ⟨g7,0,none⟩=some (iv y.places.length)→-1≤a→Cs 134 #[iv a,pT g7 0] W fun e w'=>e=.returned (iv (bZ y a))∧w'=W):=Lq fun a W hc ha=>by
     refine(FO a y.places.length g7 W hc).mono ?_;rintro e w' ⟨rfl,h⟩;refine⟨?_,h⟩;unfold bZ;split
     ·rfl
     ·rw[Int.toNat_of_nonneg (by omega)]
    go_upto_region 18 with fail
    have ac:Hid (∀W,BW w5 W→cA W g 2 (.slice (some ⟨gj,0,none⟩) y.papers.length y.papers.length)∧cA W g 0 (.slice (some ⟨t,0,none⟩) (au y k l m).1.length c)):=Lq fun W hb=>⟨(HIc.out.below hb).b9.c 2,(HIc.out.below hb).b9.c 0⟩
    refine cJ (late:=fun j=>j==11) (ops:=FR) (r:=18) (n:=12) (S:=fun W=>cA W g 2 (.slice (some ⟨gj,0,none⟩) y.papers.length y.papers.length)∧cA W g 0 (.slice (some ⟨t,0,none⟩) (au y k l m).1.length c)) ac.out fun V0 HB0 hHeld=>?_
    refine ae 0 (pT g 0) ?_;refine ae 1 (pT g 0) ?_;refine ae 2 (pT g 2) ?_;refine ae 3 (.slice (some ⟨gj,0,none⟩) y.papers.length y.papers.length) ?_;refine ae 4 (iv m) ?_;refine ae 5 (pT g 0) ?_;refine ae 6 (pT g 0) ?_;refine ae 7 (pT g 0) ?_;refine ae 8 (.slice (some ⟨t,0,none⟩) (au y k l m).1.length c) ?_;refine ae 9 (iv (au y k l m).1.length) ?_;refine ae 10 (pT gj m) ?_;refine bO 11 fun I hK=>?_
    have F:=Lq (HIc.out.below HB0.out);obtain⟨uj,cj⟩:=F.out.j_at x;have fj:=F.out.jr.frozenAt m;have lj:=(F.out.jr.lt gj rfl).2;obtain⟨W18,hW18⟩:=ex (V0.setCell ⟨gj,m,none⟩ (iv (au y k l m).1.length));have HI18:Hid (cr w y A g3 g7 g gj 0 W18 (au y k l m).1 ((au y k l m).2.set m (au y k l m).1.length) (.slice (some ⟨t,0,none⟩) (au y k l m).1.length c)):=by have h:=F.out.jput m (au y k l m).1.length;rw[hW18]at h;exact Lq h
    have C:Hid (aa W18 g17 53 #[iv p.kind,iv p.fr,iv p.en,iv p.kilos,iv p.copy]):=by have h:=HQ17c.out.keep HB0.out;rw[←hW18];exact Lq (h.far (fun e=>ax F.out.jr h (by decide) (by rw[e];rfl)) _)
    go_simp;refine hK.out _ _ ?_;clear hK cj fj lj hHeld hW18 F HIc HQ17c ac;refine dL ?_;have cy:=C.out.c 4;by_cases hcy:0≤p.copy
    ·obtain⟨cn,aw⟩:∃cn:Nat,p.copy=(cn:Int):=⟨p.copy.toNat,by omega⟩
     have aL:cn<y.papers.length:=by omega
     have aR:=nn cn;have hcz:(cn:Int)<(y.papers.length:Int):=by omega
     have ao:=Lq aw;rw[aw]at cy;clear hcy aw hcpl;go_upto_region 20 with fail
     have ac:Hid (∀W,BW W18 W→cA W g 2 (.slice (some ⟨gj,0,none⟩) y.papers.length y.papers.length)∧cA W g 0 (.slice (some ⟨t,0,none⟩) (au y k l m).1.length c)∧cA W g17 4 (iv cn)):=Lq fun W hb=>⟨(HI18.out.below hb).b9.c 2,(HI18.out.below hb).b9.c 0,by rw[←ao.out];exact(C.out.keep hb).c 4⟩
     refine cJ (late:=fun j=>j==12) (ops:=FS) (r:=20) (n:=13) (S:=fun W=>cA W g 2 (.slice (some ⟨gj,0,none⟩) y.papers.length y.papers.length)∧cA W g 0 (.slice (some ⟨t,0,none⟩) (au y k l m).1.length c)∧cA W g17 4 (iv cn)) ac.out fun V0 HB0 hHeld=>?_
     refine ae 0 (pT g 0) ?_;refine ae 1 (pT g 0) ?_;refine ae 2 (pT g 2) ?_;refine ae 3 (.slice (some ⟨gj,0,none⟩) y.papers.length y.papers.length) ?_;refine ae 4 (pT g17 4) ?_;refine ae 5 (iv cn) ?_;refine ae 6 (pT g 0) ?_;refine ae 7 (pT g 0) ?_;refine ae 8 (pT g 0) ?_;refine ae 9 (.slice (some ⟨t,0,none⟩) (au y k l m).1.length c) ?_;refine ae 10 (iv (au y k l m).1.length) ?_;refine ae 11 (pT gj cn) ?_;refine bO 12 fun I hK=>?_
     have F:=Lq (HI18.out.below HB0.out);obtain⟨uj,cj⟩:=F.out.j_at aL;have fj:=F.out.jr.frozenAt cn;have lj:=(F.out.jr.lt gj rfl).2;obtain⟨W20,hW20⟩:=ex (V0.setCell ⟨gj,cn,none⟩ (iv (au y k l m).1.length));have HI20:Hid (cr w y A g3 g7 g gj 0 W20 (au y k l m).1 (((au y k l m).2.set m (au y k l m).1.length).set cn (au y k l m).1.length) (.slice (some ⟨t,0,none⟩) (au y k l m).1.length c)):=by have h:=F.out.jput cn (au y k l m).1.length;rw[hW20]at h;exact Lq h
     have ab:Hid (aa W20 g17 53 #[iv p.kind,iv p.fr,iv p.en,iv p.kilos,iv p.copy]):=by have h:=C.out.keep HB0.out;rw[←hW20];exact Lq (h.far (fun e=>ax F.out.jr h (by decide) (by rw[e];rfl)) _)
     go_simp;refine hK.out _ _ ?_;clear hK cj fj lj hHeld hW20 F HI18 C ac cy;refine dL ?_;have C:=ab;clear ab;obtain⟨N,O,R,M,T⟩:=HI20.out.b3.c5;have H137:=Lq (pG y A B m p L l ad W20 (HY.out.below HI20.out.bw HZB.out) (lT HZB.out HI20.out.bw.size) HPX.out (HPC.out m p HPX.out) HML.out (HLR.out.below HI20.out.bw HZB.out));go_wp2_with fail;refine H137.out.mono ?_;rintro e w9 ⟨rfl,hb9⟩;obtain⟨lo,hlo⟩:=ex (dB y l m p).1;obtain⟨hi,hhi⟩:=ex (dB y l m p).2;rw[hlo,hhi];have HAL:=Lq (And.intro hlo hhi);clear N O R M T hlo hhi H137;obtain⟨Wc,Wd,hWc,hWd,hbd,qc,hbc,qd⟩:=fm w9 33 (iv 0) (iv 0) (iv lo) (iv hi);obtain⟨g18,hg18⟩:=ex w9.heap.size;rw[hg18]at hWd qc qd;obtain⟨f0,f1⟩:=qc.f2;obtain⟨e0,e1⟩:=qc.c2;have el:=qc.lt;have q:=Lq (HI20.out.below (bT hb9 hbd));have HQ17d:=Lq (C.out.keep (bT hb9 hbd));have HQ18:=Lq qd;clear hb9 hbd qc hbc qd HI20 C;go_upto_region 22 with fail
     clear f0 f1 e0 e1 el hWc hWd hg18;have s:Hid (∀W,cr w y A g3 g7 g gj 0 W (au y k l m).1 (((au y k l m).2.set m (au y k l m).1.length).set cn (au y k l m).1.length) (.slice (some ⟨t,0,none⟩) (au y k l m).1.length c)→BW Wd W→(fun W=>cA W g 0 (.slice (some ⟨t,0,none⟩) (au y k l m).1.length c)∧cA W g17 1 (iv p.fr)∧cA W g17 2 (iv p.en)∧cA W g18 0 (iv lo)∧cA W g18 1 (iv hi)∧cA W g7 0 (iv y.places.length)) W):=Lq fun W hW hb=>⟨hW.b9.c 0,(HQ17d.out.keep hb).c 1,(HQ17d.out.keep hb).c 2,(HQ18.out.keep hb).c 0,(HQ18.out.keep hb).c 1,hW.b7.c 0⟩
     have D:Hid (∀W5 W6,cr w y A g3 g7 g gj 0 W5 (au y k l m).1 (((au y k l m).2.set m (au y k l m).1.length).set cn (au y k l m).1.length) (.slice (some ⟨t,0,none⟩) (au y k l m).1.length c)→BW Wd W5→W5.grownBy W6 (Value.ownBlock (.slice (some ⟨t,0,none⟩) (au y k l m).1.length c))→(fun W=>cA W g 0 (.slice (some ⟨t,0,none⟩) (au y k l m).1.length c)∧cA W g17 1 (iv p.fr)∧cA W g17 2 (iv p.en)∧cA W g18 0 (iv lo)∧cA W g18 1 (iv hi)∧cA W g7 0 (iv y.places.length)) W6):=Lq fun W5 W6 hW hb hg=>by
      have z:=hW.b9.grown hg (ax hW.er hW.b9 (by decide))
      have k7:=hW.b7.grown hg (ax hW.er hW.b7 (by decide))
      have ah:=(HQ17d.out.keep hb).grown hg (ax hW.er (HQ17d.out.keep hb) (by decide))
      have ai:=(HQ18.out.keep hb).grown hg (ax hW.er (HQ18.out.keep hb) (by decide))
      exact⟨z.c 0,ah.c 1,ah.c 2,ai.c 0,ai.c 1,k7.c 0⟩
     refine cJ (late:=fun j=>j==24) (ops:=xS) (r:=22) (n:=25) (S:=fun W=>cA W g 0 (.slice (some ⟨t,0,none⟩) (au y k l m).1.length c)∧cA W g17 1 (iv p.fr)∧cA W g17 2 (iv p.en)∧cA W g18 0 (iv lo)∧cA W g18 1 (iv hi)∧cA W g7 0 (iv y.places.length)) (fun W hb=>s.out W (q.out.below hb) hb) fun V0 HB0 hHeld=>?_
     refine ae 0 (pT g 0) ?_;refine ae 1 (pT g 0) ?_;refine ae 2 (pT g 0) ?_;refine ae 3 (pT g 0) ?_;refine ae 4 (.slice (some ⟨t,0,none⟩) (au y k l m).1.length c) ?_;refine ae 5 (.func (.func 134) #[] #[pT g7 0]) ?_;refine ae 6 (pT g17 1) ?_;refine ae 7 (iv p.fr) ?_;refine ae 9 (.func (.func 134) #[] #[pT g7 0]) ?_;refine ae 10 (pT g17 2) ?_;refine ae 11 (iv p.en) ?_;refine ae 13 (pT g18 0) ?_;refine ae 14 (iv lo) ?_;refine ae 15 (pT g18 1) ?_;refine ae 16 (iv hi) ?_;refine ae 17 (pT g18 0) ?_;refine ae 18 (iv lo) ?_;refine aQ 8 fun I hK=>?_
     go_simp;refine(HND.out p.fr V0 (s.out _ (q.out.below HB0.out) HB0.out).2.2.2.2.2 HPfr.out).mono ?_;rintro e7 w7 ⟨rfl,G⟩;have hw8:=G.symm;subst hw8;clear G;refine hK.out _ _ (s.out _ (q.out.below HB0.out) HB0.out) (fun hHeld=>?_)
     clear hK;refine aQ 12 fun I hK=>?_
     go_simp;refine(HND.out p.en V0 (s.out _ (q.out.below HB0.out) HB0.out).2.2.2.2.2 HPen.out).mono ?_;rintro e7 w7 ⟨rfl,G⟩;have hw8:=G.symm;subst hw8;clear G;refine hK.out _ _ (s.out _ (q.out.below HB0.out) HB0.out) (fun hHeld=>?_)
     clear hK;refine ae 19 (.agg #[iv (bZ y p.fr),iv (bZ y p.en),iv lo,iv hi,iv lo]) ?_;refine aQ 20 fun I hK=>?_
     go_simp;have d:=Lq (q.out.below (bA HB0.out (.cells #[iv (bZ y p.fr),iv (bZ y p.en),iv lo,iv hi,iv lo] 154)));have hnew:=fW V0 [iv (bZ y p.fr),iv (bZ y p.en),iv lo,iv hi,iv lo] 154;have HB5:=Lq (bA HB0.out (.cells #[iv (bZ y p.fr),iv (bZ y p.en),iv lo,iv hi,iv lo] 154));obtain⟨gz,hgz⟩:=ex V0.heap.size;obtain⟨W5,hW5⟩:=ex (V0.alloc (.cells #[iv (bZ y p.fr),iv (bZ y p.en),iv lo,iv hi,iv lo] 154));rw[hgz]at hnew ⊢;rw[hW5]at hnew d HB5 ⊢;refine hK.out _ _ (s.out _ d.out HB5.out) (fun hHeld=>?_)
     clear hK hgz hW5;refine aQ 21 fun I hK=>?_
     refine step_append_lies W5 (by rfl) _ _ 87 (by rfl) w.heap.size 154 i5 _ 5 40 Tryz.underlying87 hi5 hz50 hz51 hz52 rfl (by decide) (.slice (some ⟨t,0,none⟩) (au y k l m).1.length c) (au y k l m).1.length _ (by rfl) d.out.er ⟨gz,0,none⟩ 1 1 [iv (bZ y p.fr),iv (bZ y p.en),iv lo,iv hi,iv lo] (by rfl) (by rfl) hnew (by simp[Value.oneCell']) (by decide) (by have:=HLE.out;unfold maxLen;omega) (by have:=HLE.out;omega) d.out.bw.size _ rfl ?_
     intro t c V u o J x;have HG6:=Lq (d.out.grow (n2:=1) (es2:=[⟨bZ y p.fr,bZ y p.en,lo,hi,lo⟩]) rfl u o);have HS6:=D.out W5 V d.out HB5.out o;have z:=d.out.b9.grown o (ax d.out.er d.out.b9 (by decide))
     have U:=Lq (And.intro (z.c 0) (And.intro (z.frozen 0) z.lt));refine hK.out _ _ HS6 (fun hHeld=>?_)
     clear hK u o J x hnew HS6 z d HB5 HB0;refine ae 22 (pT g 0) ?_;refine ae 23 (pT g 0) ?_;refine bO 24 fun I hK=>?_
     obtain⟨kc,kf,kl⟩:=U.out;obtain⟨W7,hW7⟩:=ex (V.setCell ⟨g,0,none⟩ (.slice (some ⟨t,0,none⟩) ((au y k l m).1.length+1) c));rw[hW7]at HG6;go_simp;refine hK.out _ _ ?_;clear hK kc kf kl U hHeld hW7;refine dL ?_;have HGN:Hid (cr w y A g3 g7 g gj 0 W7 (au y k l (m+1)).1 (au y k l (m+1)).2 (.slice (some ⟨t,0,none⟩) (au y k l (m+1)).1.length c)):=by
      have e:au y k l (m+1)=((au y k l m).1++[⟨bZ y p.fr,bZ y p.en,lo,hi,lo⟩],(((au y k l m).2.set m (au y k l m).1.length).set cn (au y k l m).1.length)):=by rw[oB];unfold kH;simp only[HPX.out];rw[if_pos aB.out,HAL.out.1,HAL.out.2];rw[if_pos (by rw[ao.out];omega),ao.out];rfl
      rw[e];exact HG6
     clear HG6 s D q;go_wp2_with fail;go_roundw
     case rel=>exact⟨m+1,_,_,x,by go_num,HGN⟩
     case measure=>simp[intOf];omega
    ·have aS:decide (0≤p.copy)=false:=decide_eq_false hcy;have HI20:=HI18;have HCY:=Lq hcy;clear HI18 hcy;obtain⟨N,O,R,M,T⟩:=HI20.out.b3.c5;have H137:=Lq (pG y A B m p L l ad W18 (HY.out.below HI20.out.bw HZB.out) (lT HZB.out HI20.out.bw.size) HPX.out (HPC.out m p HPX.out) HML.out (HLR.out.below HI20.out.bw HZB.out));go_wp2_with fail;refine H137.out.mono ?_;rintro e w9 ⟨rfl,hb9⟩;obtain⟨lo,hlo⟩:=ex (dB y l m p).1;obtain⟨hi,hhi⟩:=ex (dB y l m p).2;rw[hlo,hhi];have HAL:=Lq (And.intro hlo hhi);clear N O R M T hlo hhi H137;obtain⟨Wc,Wd,hWc,hWd,hbd,qc,hbc,qd⟩:=fm w9 33 (iv 0) (iv 0) (iv lo) (iv hi);obtain⟨g18,hg18⟩:=ex w9.heap.size;rw[hg18]at hWd qc qd;obtain⟨f0,f1⟩:=qc.f2;obtain⟨e0,e1⟩:=qc.c2;have el:=qc.lt;have q:=Lq (HI20.out.below (bT hb9 hbd));have HQ17d:=Lq (C.out.keep (bT hb9 hbd));have HQ18:=Lq qd;clear hb9 hbd qc hbc qd HI20 C;go_upto_region 22 with fail
     clear f0 f1 e0 e1 el hWc hWd hg18;have s:Hid (∀W,cr w y A g3 g7 g gj 0 W (au y k l m).1 ((au y k l m).2.set m (au y k l m).1.length) (.slice (some ⟨t,0,none⟩) (au y k l m).1.length c)→BW Wd W→(fun W=>cA W g 0 (.slice (some ⟨t,0,none⟩) (au y k l m).1.length c)∧cA W g17 1 (iv p.fr)∧cA W g17 2 (iv p.en)∧cA W g18 0 (iv lo)∧cA W g18 1 (iv hi)∧cA W g7 0 (iv y.places.length)) W):=Lq fun W hW hb=>⟨hW.b9.c 0,(HQ17d.out.keep hb).c 1,(HQ17d.out.keep hb).c 2,(HQ18.out.keep hb).c 0,(HQ18.out.keep hb).c 1,hW.b7.c 0⟩
     have D:Hid (∀W5 W6,cr w y A g3 g7 g gj 0 W5 (au y k l m).1 ((au y k l m).2.set m (au y k l m).1.length) (.slice (some ⟨t,0,none⟩) (au y k l m).1.length c)→BW Wd W5→W5.grownBy W6 (Value.ownBlock (.slice (some ⟨t,0,none⟩) (au y k l m).1.length c))→(fun W=>cA W g 0 (.slice (some ⟨t,0,none⟩) (au y k l m).1.length c)∧cA W g17 1 (iv p.fr)∧cA W g17 2 (iv p.en)∧cA W g18 0 (iv lo)∧cA W g18 1 (iv hi)∧cA W g7 0 (iv y.places.length)) W6):=Lq fun W5 W6 hW hb hg=>by
      have z:=hW.b9.grown hg (ax hW.er hW.b9 (by decide))
      have k7:=hW.b7.grown hg (ax hW.er hW.b7 (by decide))
      have ah:=(HQ17d.out.keep hb).grown hg (ax hW.er (HQ17d.out.keep hb) (by decide))
      have ai:=(HQ18.out.keep hb).grown hg (ax hW.er (HQ18.out.keep hb) (by decide))
      exact⟨z.c 0,ah.c 1,ah.c 2,ai.c 0,ai.c 1,k7.c 0⟩
     refine cJ (late:=fun j=>j==24) (ops:=xS) (r:=22) (n:=25) (S:=fun W=>cA W g 0 (.slice (some ⟨t,0,none⟩) (au y k l m).1.length c)∧cA W g17 1 (iv p.fr)∧cA W g17 2 (iv p.en)∧cA W g18 0 (iv lo)∧cA W g18 1 (iv hi)∧cA W g7 0 (iv y.places.length)) (fun W hb=>s.out W (q.out.below hb) hb) fun V0 HB0 hHeld=>?_
     refine ae 0 (pT g 0) ?_;refine ae 1 (pT g 0) ?_;refine ae 2 (pT g 0) ?_;refine ae 3 (pT g 0) ?_;refine ae 4 (.slice (some ⟨t,0,none⟩) (au y k l m).1.length c) ?_;refine ae 5 (.func (.func 134) #[] #[pT g7 0]) ?_;refine ae 6 (pT g17 1) ?_;refine ae 7 (iv p.fr) ?_;refine ae 9 (.func (.func 134) #[] #[pT g7 0]) ?_;refine ae 10 (pT g17 2) ?_;refine ae 11 (iv p.en) ?_;refine ae 13 (pT g18 0) ?_;refine ae 14 (iv lo) ?_;refine ae 15 (pT g18 1) ?_;refine ae 16 (iv hi) ?_;refine ae 17 (pT g18 0) ?_;refine ae 18 (iv lo) ?_;refine aQ 8 fun I hK=>?_
     go_simp;refine(HND.out p.fr V0 (s.out _ (q.out.below HB0.out) HB0.out).2.2.2.2.2 HPfr.out).mono ?_;rintro e7 w7 ⟨rfl,G⟩;have hw8:=G.symm;subst hw8;clear G;refine hK.out _ _ (s.out _ (q.out.below HB0.out) HB0.out) (fun hHeld=>?_)
     clear hK;refine aQ 12 fun I hK=>?_
     go_simp;refine(HND.out p.en V0 (s.out _ (q.out.below HB0.out) HB0.out).2.2.2.2.2 HPen.out).mono ?_;rintro e7 w7 ⟨rfl,G⟩;have hw8:=G.symm;subst hw8;clear G;refine hK.out _ _ (s.out _ (q.out.below HB0.out) HB0.out) (fun hHeld=>?_)
     clear hK;refine ae 19 (.agg #[iv (bZ y p.fr),iv (bZ y p.en),iv lo,iv hi,iv lo]) ?_;refine aQ 20 fun I hK=>?_
     go_simp;have d:=Lq (q.out.below (bA HB0.out (.cells #[iv (bZ y p.fr),iv (bZ y p.en),iv lo,iv hi,iv lo] 154)));have hnew:=fW V0 [iv (bZ y p.fr),iv (bZ y p.en),iv lo,iv hi,iv lo] 154;have HB5:=Lq (bA HB0.out (.cells #[iv (bZ y p.fr),iv (bZ y p.en),iv lo,iv hi,iv lo] 154));obtain⟨gz,hgz⟩:=ex V0.heap.size;obtain⟨W5,hW5⟩:=ex (V0.alloc (.cells #[iv (bZ y p.fr),iv (bZ y p.en),iv lo,iv hi,iv lo] 154));rw[hgz]at hnew ⊢;rw[hW5]at hnew d HB5 ⊢;refine hK.out _ _ (s.out _ d.out HB5.out) (fun hHeld=>?_)
     clear hK hgz hW5;refine aQ 21 fun I hK=>?_
     refine step_append_lies W5 (by rfl) _ _ 87 (by rfl) w.heap.size 154 i5 _ 5 40 Tryz.underlying87 hi5 hz50 hz51 hz52 rfl (by decide) (.slice (some ⟨t,0,none⟩) (au y k l m).1.length c) (au y k l m).1.length _ (by rfl) d.out.er ⟨gz,0,none⟩ 1 1 [iv (bZ y p.fr),iv (bZ y p.en),iv lo,iv hi,iv lo] (by rfl) (by rfl) hnew (by simp[Value.oneCell']) (by decide) (by have:=HLE.out;unfold maxLen;omega) (by have:=HLE.out;omega) d.out.bw.size _ rfl ?_
     intro t c V u o J x;have HG6:=Lq (d.out.grow (n2:=1) (es2:=[⟨bZ y p.fr,bZ y p.en,lo,hi,lo⟩]) rfl u o);have HS6:=D.out W5 V d.out HB5.out o;have z:=d.out.b9.grown o (ax d.out.er d.out.b9 (by decide))
     have U:=Lq (And.intro (z.c 0) (And.intro (z.frozen 0) z.lt));refine hK.out _ _ HS6 (fun hHeld=>?_)
     clear hK u o J x hnew HS6 z d HB5 HB0;refine ae 22 (pT g 0) ?_;refine ae 23 (pT g 0) ?_;refine bO 24 fun I hK=>?_
     obtain⟨kc,kf,kl⟩:=U.out;obtain⟨W7,hW7⟩:=ex (V.setCell ⟨g,0,none⟩ (.slice (some ⟨t,0,none⟩) ((au y k l m).1.length+1) c));rw[hW7]at HG6;go_simp;refine hK.out _ _ ?_;clear hK kc kf kl U hHeld hW7;refine dL ?_;have HGN:Hid (cr w y A g3 g7 g gj 0 W7 (au y k l (m+1)).1 (au y k l (m+1)).2 (.slice (some ⟨t,0,none⟩) (au y k l (m+1)).1.length c)):=by
      have e:au y k l (m+1)=((au y k l m).1++[⟨bZ y p.fr,bZ y p.en,lo,hi,lo⟩],((au y k l m).2.set m (au y k l m).1.length)):=by rw[oB];unfold kH;simp only[HPX.out];rw[if_pos aB.out,HAL.out.1,HAL.out.2];rw[if_neg (by have:=HCY.out;omega)]
      rw[e];exact HG6
     clear HG6 s D q;go_wp2_with fail;go_roundw
     case rel=>exact⟨m+1,_,_,x,by go_num,HGN⟩
     case measure=>simp[intOf];omega
  have aP:(m:Int)<(y.places.length:Int):=by omega
  obtain⟨N,O,R,M,T⟩:=E.out.b3.c5;have HLE:Hid ((dC y k m).length≤40):=Lq (by rw[aq.out m];omega)
  have az:=Lq (mU A.f y.first B A.cf k m wr (HY.out.f.below E.out.bw HZB.out) (lT HZB.out E.out.bw.size) (lT HY.out.lf.1 HY.out.lf.2));go_wp2_with fail;refine az.out.mono ?_;intro e w2 hf;obtain⟨lo1,hi1,bt1,rfl,hb2,hc1⟩:=nd hf;obtain⟨Wa,Wb,hWa,hWb,hbb,qa,hba,qb⟩:=fm w2 33 (iv 0) (iv 0) (iv lo1) (iv hi1);obtain⟨g12,hg12⟩:=ex w2.heap.size;rw[hg12]at hWb qa qb;obtain⟨f0,f1⟩:=qa.f2;obtain⟨e0,e1⟩:=qa.c2;have el:=qa.lt;have HIb:=Lq (E.out.below (bT hb2 hbb));have HQ12a:=Lq qb;have HC1:Hid ((dA y.first k m).getD (0,0)=(lo1,hi1)):=by
   rcases hc1 with⟨_,h,h1,h2⟩ | ⟨_,h⟩
   ·rw[h,h1,h2];exact Lq rfl
   ·rw[h];exact Lq rfl
  clear N O R M T;obtain⟨N,O,R,M,T⟩:=HIb.out.b3.c5;have HF2:=Lq (mU A.l y.last B A.cl k m Wb (HY.out.l.below HIb.out.bw HZB.out) (lT HZB.out HIb.out.bw.size) (lT HY.out.ll.1 HY.out.ll.2));clear hf hc1 hb2 hbb qa hba qb E az;go_wp2_with fail;refine HF2.out.mono ?_;intro e w3 hf;obtain⟨lo2,hi2,bt2,rfl,hb3,hc2⟩:=nd hf;clear f0 f1 e0 e1 el N O R M T hWa hWb;obtain⟨Wc,Wd,hWc,hWd,hbd,qc,hbc,qd⟩:=fm w3 33 (iv 0) (iv 0) (iv lo2) (iv hi2);obtain⟨g14,hg14⟩:=ex w3.heap.size;rw[hg14]at hWd qc qd;obtain⟨f0,f1⟩:=qc.f2;obtain⟨e0,e1⟩:=qc.c2;have el:=qc.lt;have HId:=Lq (HIb.out.below (bT hb3 hbd));have HQ12b:=Lq (HQ12a.out.keep (bT hb3 hbd));have HQ14a:=Lq qd;obtain⟨d0,d1⟩:=qd.c2;have df:=qd.frozen 1;have dl:=qd.lt;have HG14:Hid (Wb.heap.size≤g14):=by rw[←hg14];exact Lq hb3.size
  have an:=Lq (bT hb3 hbd);rcases hc2 with⟨rfl,hc,rfl,rfl⟩ | ⟨rfl,hc⟩
  ·have Z:Hid (mo y k m=[⟨y.places.length+1,m,lo1,hi1,lo1⟩,⟨m,y.places.length+1,0,1099511627776,0⟩]):=by
    unfold mo;rw[HC1.out,hc];exact Lq rfl
   obtain⟨We,aC⟩:=ex (Wd.setCell ⟨g14,1,none⟩ (iv 1099511627776));have hbe:BW Wb We:=by rw[←aC];exact aH an.out HG14.out (p:=⟨g14,1,none⟩) _
   have Y:Hid (cr w y A g3 g7 g gj 0 We (dC y k m) js0 v):=Lq (HIb.out.below hbe);have HQ12:Hid (aa We g12 33 #[iv lo1,iv hi1]):=Lq (HQ12a.out.keep hbe);have HQ14:Hid (aa We g14 33 #[iv 0,iv 1099511627776]):=by have h:=HQ14a.out.set_ 1 (iv 1099511627776);rw[aC]at h;exact Lq (by simpa using h)
   clear hf hc hb3 hbd qc hbc qd an hbe HF2 HQ12a HQ12b HQ14a HId HIb;go_upto_region 12 with fail
   have q:=Y;have s:Hid (∀W,cr w y A g3 g7 g gj 0 W (dC y k m) js0 v→BW We W→(fun W=>cA W g 0 v∧cA W g12 0 (iv lo1)∧cA W g12 1 (iv hi1)∧cA W g14 0 (iv 0)∧cA W g14 1 (iv 1099511627776)) W):=Lq fun W hW hb=>⟨hW.b9.c 0,(HQ12.out.keep hb).c 0,(HQ12.out.keep hb).c 1,(HQ14.out.keep hb).c 0,(HQ14.out.keep hb).c 1⟩
   have D:Hid (∀W5 W6,cr w y A g3 g7 g gj 0 W5 (dC y k m) js0 v→BW We W5→W5.grownBy W6 v.ownBlock→(fun W=>cA W g 0 v∧cA W g12 0 (iv lo1)∧cA W g12 1 (iv hi1)∧cA W g14 0 (iv 0)∧cA W g14 1 (iv 1099511627776)) W6):=Lq fun W5 W6 hW hb hg=>by
    have z:=hW.b9.grown hg (ax hW.er hW.b9 (by decide))
    have af:=(HQ12.out.keep hb).grown hg (ax hW.er (HQ12.out.keep hb) (by decide))
    have ag:=(HQ14.out.keep hb).grown hg (ax hW.er (HQ14.out.keep hb) (by decide))
    exact⟨z.c 0,af.c 0,af.c 1,ag.c 0,ag.c 1⟩
   refine cJ (late:=fun j=>j==27) (ops:=xR) (r:=12) (n:=28) (S:=fun W=>cA W g 0 v∧cA W g12 0 (iv lo1)∧cA W g12 1 (iv hi1)∧cA W g14 0 (iv 0)∧cA W g14 1 (iv 1099511627776)) (fun W hb=>s.out W (q.out.below hb) hb) fun V0 HB0 hHeld=>?_
   refine ae 0 (pT g 0) ?_;refine ae 1 (pT g 0) ?_;refine ae 2 (pT g 0) ?_;refine ae 3 (pT g 0) ?_;refine ae 4 v ?_;refine ae 5 (iv ((y.places.length:Int)+1)) ?_;refine ae 6 (iv m) ?_;refine ae 7 (pT g12 0) ?_;refine ae 8 (iv lo1) ?_;refine ae 9 (pT g12 1) ?_;refine ae 10 (iv hi1) ?_;refine ae 11 (pT g12 0) ?_;refine ae 12 (iv lo1) ?_;refine ae 13 (.agg #[iv ((y.places.length:Int)+1),iv m,iv lo1,iv hi1,iv lo1]) ?_;refine ae 14 (iv m) ?_;refine ae 15 (iv ((y.places.length:Int)+1)) ?_;refine ae 16 (pT g14 0) ?_;refine ae 17 (iv 0) ?_;refine ae 18 (pT g14 1) ?_;refine ae 19 (iv 1099511627776) ?_;refine ae 20 (pT g14 0) ?_;refine ae 21 (iv 0) ?_;refine ae 22 (.agg #[iv m,iv ((y.places.length:Int)+1),iv 0,iv 1099511627776,iv 0]) ?_;refine aQ 23 fun I hK=>?_
   go_simp;have d:=Lq (q.out.below (bA HB0.out (.cells #[iv ((y.places.length:Int)+1),iv m,iv lo1,iv hi1,iv lo1,iv m,iv ((y.places.length:Int)+1),iv 0,iv 1099511627776,iv 0] 154)));have hnew:=fW V0 [iv ((y.places.length:Int)+1),iv m,iv lo1,iv hi1,iv lo1,iv m,iv ((y.places.length:Int)+1),iv 0,iv 1099511627776,iv 0] 154;have HB5:=Lq (bA HB0.out (.cells #[iv ((y.places.length:Int)+1),iv m,iv lo1,iv hi1,iv lo1,iv m,iv ((y.places.length:Int)+1),iv 0,iv 1099511627776,iv 0] 154));obtain⟨gz,hgz⟩:=ex V0.heap.size;obtain⟨W5,hW5⟩:=ex (V0.alloc (.cells #[iv ((y.places.length:Int)+1),iv m,iv lo1,iv hi1,iv lo1,iv m,iv ((y.places.length:Int)+1),iv 0,iv 1099511627776,iv 0] 154));rw[hgz]at hnew ⊢;rw[hW5]at hnew d HB5 ⊢;refine hK.out _ _ (s.out _ d.out HB5.out) (fun hHeld=>?_)
   clear hK hgz hW5;refine aQ 24 fun I hK=>?_
   refine step_append_lies W5 (by rfl) _ _ 87 (by rfl) w.heap.size 154 i5 _ 5 40 Tryz.underlying87 hi5 hz50 hz51 hz52 rfl (by decide) v (dC y k m).length _ (by rfl) d.out.er ⟨gz,0,none⟩ 2 2 [iv ((y.places.length:Int)+1),iv m,iv lo1,iv hi1,iv lo1,iv m,iv ((y.places.length:Int)+1),iv 0,iv 1099511627776,iv 0] (by rfl) (by rfl) hnew (by simp[Value.oneCell']) (by decide) (by have:=HLE.out;unfold maxLen;omega) (by have:=HLE.out;omega) d.out.bw.size _ rfl ?_
   intro t c V u o J x;have HG6:=Lq (d.out.grow (n2:=2) (es2:=[⟨y.places.length+1,m,lo1,hi1,lo1⟩,⟨m,y.places.length+1,0,1099511627776,0⟩]) rfl u o);have HS6:=D.out W5 V d.out HB5.out o;have z:=d.out.b9.grown o (ax d.out.er d.out.b9 (by decide))
   have U:=Lq (And.intro (z.c 0) (And.intro (z.frozen 0) z.lt));refine hK.out _ _ HS6 (fun hHeld=>?_)
   clear hK u o J x hnew HS6 z d HB5 HB0;refine ae 25 (pT g 0) ?_;refine ae 26 (pT g 0) ?_;refine bO 27 fun I hK=>?_
   obtain⟨kc,kf,kl⟩:=U.out;obtain⟨W7,hW7⟩:=ex (V.setCell ⟨g,0,none⟩ (.slice (some ⟨t,0,none⟩) ((dC y k m).length+2) c));rw[hW7]at HG6;go_simp;refine hK.out _ _ ?_;clear hK kc kf kl U hHeld hW7;refine dL ?_;have HGN:Hid (cr w y A g3 g7 g gj 0 W7 (dC y k (m+1)) js0 (.slice (some ⟨t,0,none⟩) (dC y k (m+1)).length c)):=by have h:=HG6.out;have e:=sw y k m;rw[Z.out]at e;rw[←e]at h;exact Lq h
   clear HG6 s D q;go_wp2_with fail;go_roundw
   case rel=>exact⟨m+1,_,x,by go_num,HGN⟩
   case measure=>simp[intOf];omega
  ·have Z:Hid (mo y k m=[⟨y.places.length+1,m,lo1,hi1,lo1⟩,⟨m,y.places.length+1,lo2,hi2,lo2⟩]):=by
    unfold mo;rw[HC1.out,hc];exact Lq rfl
   have Y:=HId;have HQ12:=HQ12b;have HQ14:=HQ14a;clear hf hc hb3 hbd qc hbc qd an HF2 HQ12a HQ12b HQ14a HId HIb;go_upto_region 12 with fail
   have q:=Y;have s:Hid (∀W,cr w y A g3 g7 g gj 0 W (dC y k m) js0 v→BW Wd W→(fun W=>cA W g 0 v∧cA W g12 0 (iv lo1)∧cA W g12 1 (iv hi1)∧cA W g14 0 (iv lo2)∧cA W g14 1 (iv hi2)) W):=Lq fun W hW hb=>⟨hW.b9.c 0,(HQ12.out.keep hb).c 0,(HQ12.out.keep hb).c 1,(HQ14.out.keep hb).c 0,(HQ14.out.keep hb).c 1⟩
   have D:Hid (∀W5 W6,cr w y A g3 g7 g gj 0 W5 (dC y k m) js0 v→BW Wd W5→W5.grownBy W6 v.ownBlock→(fun W=>cA W g 0 v∧cA W g12 0 (iv lo1)∧cA W g12 1 (iv hi1)∧cA W g14 0 (iv lo2)∧cA W g14 1 (iv hi2)) W6):=Lq fun W5 W6 hW hb hg=>by
    have z:=hW.b9.grown hg (ax hW.er hW.b9 (by decide))
    have af:=(HQ12.out.keep hb).grown hg (ax hW.er (HQ12.out.keep hb) (by decide))
    have ag:=(HQ14.out.keep hb).grown hg (ax hW.er (HQ14.out.keep hb) (by decide))
    exact⟨z.c 0,af.c 0,af.c 1,ag.c 0,ag.c 1⟩
   refine cJ (late:=fun j=>j==27) (ops:=xR) (r:=12) (n:=28) (S:=fun W=>cA W g 0 v∧cA W g12 0 (iv lo1)∧cA W g12 1 (iv hi1)∧cA W g14 0 (iv lo2)∧cA W g14 1 (iv hi2)) (fun W hb=>s.out W (q.out.below hb) hb) fun V0 HB0 hHeld=>?_
   refine ae 0 (pT g 0) ?_;refine ae 1 (pT g 0) ?_;refine ae 2 (pT g 0) ?_;refine ae 3 (pT g 0) ?_;refine ae 4 v ?_;refine ae 5 (iv ((y.places.length:Int)+1)) ?_;refine ae 6 (iv m) ?_;refine ae 7 (pT g12 0) ?_;refine ae 8 (iv lo1) ?_;refine ae 9 (pT g12 1) ?_;refine ae 10 (iv hi1) ?_;refine ae 11 (pT g12 0) ?_;refine ae 12 (iv lo1) ?_;refine ae 13 (.agg #[iv ((y.places.length:Int)+1),iv m,iv lo1,iv hi1,iv lo1]) ?_;refine ae 14 (iv m) ?_;refine ae 15 (iv ((y.places.length:Int)+1)) ?_;refine ae 16 (pT g14 0) ?_;refine ae 17 (iv lo2) ?_;refine ae 18 (pT g14 1) ?_;refine ae 19 (iv hi2) ?_;refine ae 20 (pT g14 0) ?_;refine ae 21 (iv lo2) ?_;refine ae 22 (.agg #[iv m,iv ((y.places.length:Int)+1),iv lo2,iv hi2,iv lo2]) ?_;refine aQ 23 fun I hK=>?_
   go_simp;have d:=Lq (q.out.below (bA HB0.out (.cells #[iv ((y.places.length:Int)+1),iv m,iv lo1,iv hi1,iv lo1,iv m,iv ((y.places.length:Int)+1),iv lo2,iv hi2,iv lo2] 154)));have hnew:=fW V0 [iv ((y.places.length:Int)+1),iv m,iv lo1,iv hi1,iv lo1,iv m,iv ((y.places.length:Int)+1),iv lo2,iv hi2,iv lo2] 154;have HB5:=Lq (bA HB0.out (.cells #[iv ((y.places.length:Int)+1),iv m,iv lo1,iv hi1,iv lo1,iv m,iv ((y.places.length:Int)+1),iv lo2,iv hi2,iv lo2] 154));obtain⟨gz,hgz⟩:=ex V0.heap.size;obtain⟨W5,hW5⟩:=ex (V0.alloc (.cells #[iv ((y.places.length:Int)+1),iv m,iv lo1,iv hi1,iv lo1,iv m,iv ((y.places.length:Int)+1),iv lo2,iv hi2,iv lo2] 154));rw[hgz]at hnew ⊢;rw[hW5]at hnew d HB5 ⊢;refine hK.out _ _ (s.out _ d.out HB5.out) (fun hHeld=>?_)
   clear hK hgz hW5;refine aQ 24 fun I hK=>?_
   refine step_append_lies W5 (by rfl) _ _ 87 (by rfl) w.heap.size 154 i5 _ 5 40 Tryz.underlying87 hi5 hz50 hz51 hz52 rfl (by decide) v (dC y k m).length _ (by rfl) d.out.er ⟨gz,0,none⟩ 2 2 [iv ((y.places.length:Int)+1),iv m,iv lo1,iv hi1,iv lo1,iv m,iv ((y.places.length:Int)+1),iv lo2,iv hi2,iv lo2] (by rfl) (by rfl) hnew (by simp[Value.oneCell']) (by decide) (by have:=HLE.out;unfold maxLen;omega) (by have:=HLE.out;omega) d.out.bw.size _ rfl ?_
   intro t c V u o J x;have HG6:=Lq (d.out.grow (n2:=2) (es2:=[⟨y.places.length+1,m,lo1,hi1,lo1⟩,⟨m,y.places.length+1,lo2,hi2,lo2⟩]) rfl u o);have HS6:=D.out W5 V d.out HB5.out o;have z:=d.out.b9.grown o (ax d.out.er d.out.b9 (by decide))
   have U:=Lq (And.intro (z.c 0) (And.intro (z.frozen 0) z.lt));refine hK.out _ _ HS6 (fun hHeld=>?_)
   clear hK u o J x hnew HS6 z d HB5 HB0;refine ae 25 (pT g 0) ?_;refine ae 26 (pT g 0) ?_;refine bO 27 fun I hK=>?_
   obtain⟨kc,kf,kl⟩:=U.out;obtain⟨W7,hW7⟩:=ex (V.setCell ⟨g,0,none⟩ (.slice (some ⟨t,0,none⟩) ((dC y k m).length+2) c));rw[hW7]at HG6;go_simp;refine hK.out _ _ ?_;clear hK kc kf kl U hHeld hW7;refine dL ?_;have HGN:Hid (cr w y A g3 g7 g gj 0 W7 (dC y k (m+1)) js0 (.slice (some ⟨t,0,none⟩) (dC y k (m+1)).length c)):=by have h:=HG6.out;have e:=sw y k m;rw[Z.out]at e;rw[←e]at h;exact Lq h
   clear HG6 s D q;go_wp2_with fail;go_roundw
   case rel=>exact⟨m+1,_,x,by go_num,HGN⟩
   case measure=>simp[intOf];omega
structure dc(y:ar):Prop where
 kinds:1≤y.kinds.length∧y.kinds.length≤4
 places:1≤y.places.length∧y.places.length≤4
 papers:y.papers.length≤10
 first:y.first.length≤8
 last:y.last.length≤8
 nk:ns y.kinds
 np:ns y.places
 cf:pS y y.first
 cl:pS y y.last
 pa:∀(i:Nat) (p:cT),y.papers[i]?=some p→xP y i p
theorem dc.pap{y:ar}(h:dc y):sE y:=⟨h.places,h.papers,fun i p a=>by
 rcases(h.pa i p a).copy with hc | ⟨c,q,hc,_,hq,_⟩
 ·omega
 ·have:=(lG hq);omega,fun i p a=>(h.pa i p a).fr,fun i p a=>(h.pa i p a).en⟩
theorem FU(y:ar)(A:aI)(B:Nat)(w:World)(H:aO w B y A)(g:B≤w.heap.size)(c:dc y) :
  Cs 131 #[.slice A.a y.papers.length A.ca,.func (.func 132) #[.agg (ak y A)] #[]] w (Rt w (.tuple #[iv 0,iv 0])):=by
 have f:=Lq H;have HZ:=Lq g;have HCK:=Lq c;have hm:=c.papers;obtain⟨Aa,hAa⟩:=ex A.a;have HAA:=Lq hAa;rw[hAa];clear H g c hAa;go_enter Tryz.func131,Tryz.ntmps131
 go_wp2_with fail;go_loopw [10] (fun i wr=>∃m:Nat,m≤y.papers.length∧i=iv m∧Hid (BW w wr)) (fun i _=>y.papers.length-(intOf i).toNat)
 case atStart=>exact⟨0,Nat.zero_le _,rfl,Lq (bR _)⟩
 case round =>
  obtain⟨m,h,rfl,b⟩:=hrel;have hk0:=nn m;by_cases hlt:m<y.papers.length
  case neg =>
   obtain rfl:m=y.papers.length:=by omega
   go_wp2_with fail
   go_ret2
   exact⟨rfl,b.out⟩
  have j:(m:Int)<(y.papers.length:Int):=by omega
  obtain⟨p,d⟩:=gX (l:=y.papers) (i:=m) hlt;obtain⟨ba,oa,hA, -,c0,c1,c2,c3,c4⟩:=(f.out.below b.out HZ.out).paper d;obtain rfl:Aa=some ⟨ba,oa,none⟩:=HAA.out.symm.trans hA;obtain⟨Wa,Wb,hWa,hWb,hbb,qa,hba,qb⟩:=fh wr 53 (iv 0) (iv 0) (iv 0) (iv 0) (iv 0) (iv p.kind) (iv p.fr) (iv p.en) (iv p.kilos) (iv p.copy);obtain⟨g7,hg7⟩:=ex wr.heap.size;rw[hg7]at hWb qa qb;obtain⟨f0,f1,f2,f3,f4⟩:=qa.f5;obtain⟨e0,e1,e2,e3,e4⟩:=qa.c5;have el:=qa.lt;obtain⟨d0,d1,d2,d3,d4⟩:=qb.c5;have HBX:=Lq (bT b.out hbb);have HD:=Lq (FI y A B m p Wb (f.out.below HBX.out HZ.out) (lT HZ.out HBX.out.size) HCK.out.kinds.2 HCK.out.places.2 HCK.out.papers (HCK.out.pa m p d));clear d hA hbb qa hba qb b;go_wp2_with fail;refine HD.out.mono ?_;rintro e w2 ⟨rfl,hb⟩;have HB2:=Lq (bT HBX.out hb);clear hb HD HBX c0 c1 c2 c3 c4 f0 f1 f2 f3 f4 e0 e1 e2 e3 e4 el d0 d1 d2 d3 d4 hWa hWb hg7;go_wp2_with fail;go_roundw
  case rel=>exact⟨m+1,hlt,by go_num,HB2⟩
  case measure=>simp[intOf];omega
section
variable (y:ar) (A:aI) (B g5:Nat) (w:World)
theorem FV(H:aO w B y A)(j:B≤w.heap.size)(f:dc y)(g:aa w g5 74 (ak y A)):Cs 125 #[pT g5 0] w (Rt w (.tuple #[iv 0,iv 0])):=by
 obtain⟨s,m⟩:=gX (l:=y.kinds) (i:=0) (by have:=f.kinds;omega)
 obtain⟨b,h,d, -, -⟩:=H.k 0 s m;have HF:=Lq (xQ b h y.kinds B A.ck w (d▸H.k) j H.lk.1 H.lk.2 f.nk);have x0:=g.c 0;rw[d]at x0;have hl:=g.lt;clear H j f g m d;go_enter Tryz.func125,Tryz.ntmps125
 go_wp2_with fail;refine HF.out.mono ?_;rintro e n ⟨rfl,(a:Hid _)⟩;go_wp2_with fail
 go_ret2
 exact⟨rfl,a.out⟩
theorem FW(H:aO w B y A)(j:B≤w.heap.size)(f:dc y)(g:aa w g5 74 (ak y A)):Cs 127 #[pT g5 0] w (Rt w (.tuple #[iv 0,iv 0])):=by
 obtain⟨s,k⟩:=gX (l:=y.places) (i:=0) (by have:=f.places;omega)
 obtain⟨b,h,d, -, -⟩:=H.p 0 s k;have HF:=Lq (xQ b h y.places B A.cp w (d▸H.p) j H.lp.1 H.lp.2 f.np);have x0:=g.c 1;rw[d]at x0;have hl:=g.lt;clear H j f g k d;go_enter Tryz.func127,Tryz.ntmps127
 go_wp2_with fail;refine HF.out.mono ?_;rintro e m ⟨rfl,(a:Hid _)⟩;go_wp2_with fail
 go_ret2
 exact⟨rfl,a.out⟩
theorem FX(H:aO w B y A)(d:B≤w.heap.size)(a:dc y)(c:aa w g5 74 (ak y A)):Cs 128 #[pT g5 0] w (Rt w (.tuple #[iv 0,iv 0])):=by
 have g:=Lq (xE y A A.f y.first B A.cf w H.f d a.first a.kinds.2 a.places.2 a.cf);obtain⟨x0,x1,x2,x3,x4⟩:=c.c5;have hl:=c.lt;clear H d a c;go_enter Tryz.func128,Tryz.ntmps128
 go_wp2_with fail;refine g.out.mono ?_;rintro e h ⟨rfl,(b:Hid _)⟩;go_wp2_with fail
 go_ret2
 exact⟨rfl,b.out⟩
theorem FY(H:aO w B y A)(c:B≤w.heap.size)(d:dc y)(b:aa w g5 74 (ak y A)):Cs 130 #[pT g5 0] w (Rt w (.tuple #[iv 0,iv 0])):=by
 have f:=Lq (FU y A B w H c d);obtain⟨x0,x1,x2,x3,x4⟩:=b.c5;have hl:=b.lt;clear H c d b;go_enter Tryz.func130,Tryz.ntmps130
 go_wp2_with fail;refine f.out.mono ?_;rintro e g ⟨rfl,(a:Hid _)⟩;go_wp2_with fail
 go_ret2
 exact⟨rfl,a.out⟩
theorem FZ(H:aO w B y A)(d:B≤w.heap.size)(a:dc y)(c:aa w g5 74 (ak y A)):Cs 133 #[pT g5 0] w (Rt w (.tuple #[iv 0,iv 0])):=by
 have f:=Lq (xE y A A.l y.last B A.cl w H.l d a.last a.kinds.2 a.places.2 a.cl);obtain⟨x0,x1,x2,x3,x4⟩:=c.c5;have hl:=c.lt;clear H d a c;go_enter Tryz.func133,Tryz.ntmps133
 go_wp2_with fail;refine f.out.mono ?_;rintro e g ⟨rfl,(b:Hid _)⟩;go_wp2_with fail
 go_ret2
 exact⟨rfl,b.out⟩
end
theorem F0{P:Program}{w:World}{a:Addr}{m:Mode}(fn:Fn)(x y:Array Value):(store a (.func fn x y) m).run P w=stored P w a (.func fn x y) m:=run_store P w a _ m rfl
theorem Tryz.idx212_0(a b c d f:Value)(W:World):(Instr.index 212 (.agg #[a,b,c,d,f]) (iv 0)).run Tryz.prog W=.ok a W:=by kernel_rfl
theorem Tryz.idx212_1(b a c d f:Value)(W:World):(Instr.index 212 (.agg #[b,a,c,d,f]) (iv 1)).run Tryz.prog W=.ok a W:=by kernel_rfl
theorem Tryz.idx212_2(b c a d f:Value)(W:World):(Instr.index 212 (.agg #[b,c,a,d,f]) (iv 2)).run Tryz.prog W=.ok a W:=by kernel_rfl
theorem Tryz.idx212_3(b c d a f:Value)(W:World):(Instr.index 212 (.agg #[b,c,d,a,f]) (iv 3)).run Tryz.prog W=.ok a W:=by kernel_rfl
theorem Tryz.idx212_4(b c d f a:Value)(W:World):(Instr.index 212 (.agg #[b,c,d,f,a]) (iv 4)).run Tryz.prog W=.ok a W:=by kernel_rfl
theorem sF(y:ar)(A:aI)(B:Nat)(w:World)(H:aO w B y A)(M:B≤w.heap.size)(v:dc y) :
  Cs 69 #[.agg (ak y A)] w (Rt w (.tuple #[iv 0,iv 0,iv 0])):=by
 obtain⟨L,s,E⟩:=nA w (.cells (ak y A) 46);obtain⟨g1,hg1⟩:=ex w.heap.size;have q1:aa L g1 46 (ak y A):=by rw[←s,←hg1];exact aa.new w 46 _
 obtain⟨V,n,N,u,q,C,O,D⟩:=fh L 74 (.slice none 0 0) (.slice none 0 0) (.slice none 0 0) (.slice none 0 0) (.slice none 0 0) (.slice A.k y.kinds.length A.ck) (.slice A.p y.places.length A.cp) (.slice A.f y.first.length A.cf) (.slice A.a y.papers.length A.ca) (.slice A.l y.last.length A.cl);obtain⟨g5,hg5⟩:=ex L.heap.size;rw[hg5]at u C D;obtain⟨x0,x1,x2,x3,x4⟩:=q1.c5;have l1:=q1.lt;obtain⟨f0,f1,f2,f3,f4⟩:=C.f5;obtain⟨e0,e1,e2,e3,e4⟩:=C.c5;have el:=C.lt;obtain⟨d0,d1,d2,d3,d4⟩:=D.c5;have HB:=Lq (bT E q);have HQY:Hid (∀W,BW n W→aa W g5 74 (ak y A)):=Lq fun W b=>aa.keep (t:=74) (cs:=ak y A) D b
 have j:=Lq (H.below (bT E q) M);have HZ:=Lq (lT M (bT E q).size);have HOK:=Lq v;have HO:Hid (∀(l2 u2 x:Int) (g:Nat) (W:World),l2≤x→x≤u2→cA W g 0 (iv x)→g<W.heap.size→Cs 26 #[iv l2,iv u2,.slice (some ⟨g,0,none⟩) 1 1] W (Rt W (.bool false))):=Lq fun l2 u2 x g W h3 h4 h1 h2=>by have h:=lB l2 u2 x g W h1 h2;rw[cX h3 h4]at h;exact h
 obtain⟨F,r⟩:=ex y.kinds.length;obtain⟨np,hnp⟩:=ex y.places.length;obtain⟨na,hna⟩:=ex y.papers.length;obtain⟨nf,hnf⟩:=ex y.first.length;obtain⟨nl,hnl⟩:=ex y.last.length;have k1:=v.kinds;have k2:=v.places;have k3:=v.papers;have k4:=v.first;have k5:=v.last;rw[r]at k1;rw[hnp]at k2;rw[hna]at k3;rw[hnf]at k4;rw[hnl]at k5;have k6:decide (10<(na:Int))=false:=decide_eq_false (by omega)
 have X:decide (8<max (nf:Int) (nl:Int))=false:=decide_eq_false (by omega)
 have T:Hid (aa n g5 74 #[.slice A.k F A.ck,.slice A.p np A.cp,.slice A.f nf A.cf,.slice A.a na A.ca,.slice A.l nl A.cl]):=by have h:=D;rw[r,hnp,hna,hnf,hnl]at h;exact Lq h
 have z:=Lq k1;have HK2:=Lq k2;simp only[ak,r,hnp,hna,hnf,hnl]at s u x0 x1 x2 x3 x4 d0 d1 d2 d3 d4 ⊢;clear H M v E q1 q C O D r hnp hna hnf hnl k3 k4 k5;go_enter Tryz.func69,Tryz.ntmps69
 go_wp2_with fail
 -- REST
 refine(HO.out _ _ F _ _ (by have:=z.out;omega) (by have:=z.out;omega) ((aa.new n 3 #[iv F]).c 0) (aa.new n 3 #[iv F]).lt).mono ?_
 rintro e S ⟨rfl,b⟩;have HB3:=Lq (bT (bA (bR n) _) b);clear b x0 x1 x2 x3 x4 l1 f0 f1 f2 f3 f4 e0 e1 e2 e3 e4 el d0 d1 d2 d3 d4 N u s hg1 hg5;have d1:=(T.out.keep HB3.out).c 1;go_wp2_with fail;refine(HO.out _ _ np _ _ (by have:=HK2.out;omega) (by have:=HK2.out;omega) ((aa.new S 3 #[iv np]).c 0) (aa.new S 3 #[iv np]).lt).mono ?_
 rintro e U ⟨rfl,b⟩;have HB4:=Lq (bT HB3.out (bT (bA (bR S) _) b));clear b d1;have q4:=T.out.keep HB4.out;obtain⟨d0,d1,d2,d3,d4⟩:=q4.c5;have dl:=q4.lt;obtain⟨Wc,Wd,hWc,hWd,hbd,qc,hbc,qd⟩:=fh U 212 .nilFunc .nilFunc .nilFunc .nilFunc .nilFunc (.func (.func 125) #[] #[pT g5 0]) (.func (.func 127) #[] #[pT g5 0]) (.func (.func 128) #[] #[pT g5 0]) (.func (.func 130) #[] #[pT g5 0]) (.func (.func 133) #[] #[pT g5 0]);obtain⟨g6,hg6⟩:=ex U.heap.size;rw[hg6]at hWd qc qd;obtain⟨f0,f1,f2,f3,f4⟩:=qc.f5;obtain⟨e0,e1,e2,e3,e4⟩:=qc.c5;have el:=qc.lt;obtain⟨c0,c1,c2,c3,c4⟩:=qd.c5;have HBD:=Lq (bT HB4.out hbd);have hsf:=@F0 Tryz.prog;clear q4 hbd qc hbc qd;go_wp2_with fail;clear d0 d1 d2 d3 d4 dl f0 f1 f2 f3 f4 e0 e1 e2 e3 e4 el c0 c1 c2 c3 c4 hWc hWd hg6 hsf;have HC0:Hid (∀W,BW n W→Cs 125 #[pT g5 0] W (Rt W (.tuple #[iv 0,iv 0]))):=Lq fun W b=>FV y A B g5 W (j.out.below b HZ.out) (lT HZ.out b.size) HOK.out (HQY.out W b)
 have G:Hid (∀W,BW n W→Cs 127 #[pT g5 0] W (Rt W (.tuple #[iv 0,iv 0]))):=Lq fun W b=>FW y A B g5 W (j.out.below b HZ.out) (lT HZ.out b.size) HOK.out (HQY.out W b)
 have I:Hid (∀W,BW n W→Cs 128 #[pT g5 0] W (Rt W (.tuple #[iv 0,iv 0]))):=Lq fun W b=>FX y A B g5 W (j.out.below b HZ.out) (lT HZ.out b.size) HOK.out (HQY.out W b)
 have J:Hid (∀W,BW n W→Cs 130 #[pT g5 0] W (Rt W (.tuple #[iv 0,iv 0]))):=Lq fun W b=>FY y A B g5 W (j.out.below b HZ.out) (lT HZ.out b.size) HOK.out (HQY.out W b)
 have K:Hid (∀W,BW n W→Cs 133 #[pT g5 0] W (Rt W (.tuple #[iv 0,iv 0]))):=Lq fun W b=>FZ y A B g5 W (j.out.below b HZ.out) (lT HZ.out b.size) HOK.out (HQY.out W b)
 go_loopw [51] (fun i wr=>∃m:Nat,m≤5∧i=iv m∧Hid (BW n wr)) (fun i _=>5-(intOf i).toNat)
 case atStart=>exact⟨0,by omega,rfl,HBD⟩
 case round =>
  obtain⟨m,R,rfl,d⟩:=hrel
  match m,R with
  | 5,_ =>
   go_wp2_with fail
   go_ret3
   exact⟨rfl,bT HB.out d.out⟩
  | 0,_ =>
   have o:=Lq (HC0.out wr d.out);have hix:=Tryz.idx212_0;go_wp2_with fail;refine o.out.mono ?_;rintro e w2 ⟨rfl,b⟩;have HB2:=Lq (bT d.out b);clear b;go_wp2_with fail;go_roundw
   case rel=>exact⟨1,by omega,rfl,HB2⟩
   case measure=>simp[intOf]
  | 1,_ =>
   have o:=Lq (G.out wr d.out);have hix:=Tryz.idx212_1;go_wp2_with fail;refine o.out.mono ?_;rintro e w2 ⟨rfl,b⟩;have HB2:=Lq (bT d.out b);clear b;go_wp2_with fail;go_roundw
   case rel=>exact⟨2,by omega,rfl,HB2⟩
   case measure=>simp[intOf]
  | 2,_ =>
   have o:=Lq (I.out wr d.out);have hix:=Tryz.idx212_2;go_wp2_with fail;refine o.out.mono ?_;rintro e w2 ⟨rfl,b⟩;have HB2:=Lq (bT d.out b);clear b;go_wp2_with fail;go_roundw
   case rel=>exact⟨3,by omega,rfl,HB2⟩
   case measure=>simp[intOf]
  | 3,_ =>
   have o:=Lq (J.out wr d.out);have hix:=Tryz.idx212_3;go_wp2_with fail;refine o.out.mono ?_;rintro e w2 ⟨rfl,b⟩;have HB2:=Lq (bT d.out b);clear b;go_wp2_with fail;go_roundw
   case rel=>exact⟨4,by omega,rfl,HB2⟩
   case measure=>simp[intOf]
  | 4,_ =>
   have o:=Lq (K.out wr d.out);have hix:=Tryz.idx212_4;go_wp2_with fail;refine o.out.mono ?_;rintro e w2 ⟨rfl,b⟩;have HB2:=Lq (bT d.out b);clear b;go_wp2_with fail;go_roundw
   case rel=>exact⟨5,by omega,rfl,HB2⟩
   case measure=>simp[intOf]
end Go.Proofs.YtbillnhcmkpohaaGreatDoor
namespace Go.Proofs.YtbillnhcmkpohaaGreatDoor
section
variable{but:Int}{f n nodes src:Nat}
theorem sH{a:Nat}:∀(es:List Ed) (i:Nat) (b:List Int) (l:List Nat),(∀x∈es,x.fr<n∧x.en<n)→(∀z∈l,z<n)→∀z∈(aP but a i es b l).2,z<n
 | [],_,_,_,_,hl=>hl
 | x::es,i,b,l,hx,hl=>by
  rw[aP];have c:∀x∈es,x.fr<n∧x.en<n:=fun y hy=>hx y (List.mem_cons_of_mem _ hy)
  split
  ·exact sH es (i+1) b l c hl
  ·rename_i g;refine sH es (i+1) _ _ c fun z hz=>?_
   rcases List.mem_append.1 hz with h | h
   ·exact hl z h
   ·simp at h;subst h;have d:=hx x (List.mem_cons_self ..);have h2:a=x.fr∨a=x.en:=by
     by_cases hn:a≠x.fr∧a≠x.en
     ·exact absurd (by simp[bY,hn.1,hn.2]) g
     ·omega
    exact sG h2 d.1 d.2
theorem xX{g:List Ed}{d:Nat→Int}(hx:∀x∈g,x.fr<n∧x.en<n):∀(f:Nat) (b:List Int) (l:List Nat) (a:Nat) (b':List Int),(∀z∈l,z<n)→cI g but src d f b l=some (some (a,b'))→a<n
 | 0,_,_,_,_,_,h=>by cases h
 | f+1,b,[],a,b',_,h=>by rw[cI]at h;cases h
 | f+1,b,c::rest,a,b',hl,h=>by
  rw[cI]at h;by_cases hc:c≠src∧0<d c
  ·rw[if_pos hc]at h;injection h with h
   injection h with h
   injection h with h _
   subst h;exact hl c (List.mem_cons_self ..)
  ·rw[if_neg hc]at h;exact xX hx f _ _ a b' (sH g 0 b rest hx fun z i=>hl z (List.mem_cons_of_mem _ i)) h
theorem F3{a:List Ed}(h:a.all (bP nodes)=true):∀x∈a,x.fr<nodes∧x.en<nodes:=fun x hx=>by have h1:=List.all_eq_true.1 h x hx;unfold bP at h1;have h1:=of_decide_eq_true h1;exact⟨h1.2.2.2.2.2.2.1,h1.2.2.2.2.2.2.2⟩
theorem xY{a:List Ed}(h:a.all (bP nodes)=true):∀(l:List (Nat×Nat)) (k:Int), -9000000000000≤k∧k≤9000000000000→-9000000000000≤dU a k l∧dU a k l≤9000000000000
 | [],k,hk=>hk
 | p::l,k,hk=>by
  unfold dU;rw[List.foldl_cons];refine xY h l _ ?_;split
  ·rename_i e b;have h1:=List.all_eq_true.1 h e (List.mem_of_getElem? b);unfold bP at h1;have h1:=of_decide_eq_true h1;have hr:-9000000000000≤e.room p.2∧e.room p.2≤9000000000000:=by unfold Ed.room;split<;>omega
   rw[Int.min_def];split
   ·exact hk
   ·exact hr
  ·exact hk
theorem sI{j:List Ed}{b:Int}{c:Nat→Int}{k:Int}{t:Nat}{d:List Ed}(h:dV j nodes src b but c=some (k,t,d))(i:j.all (bP nodes)=true)(v:src<nodes)(u:-9000000000000≤b∧b≤9000000000000)(s:∀n,n<nodes→-9000000000000≤c n∧c n≤9000000000000) :
  t<nodes∧-9000000000000≤k∧k≤9000000000000∧d.length=j.length:=by
 obtain⟨R,q,g⟩:=xv h
 match R,g with
 | none,g =>
  obtain⟨m,o,p⟩:=g;subst m o p;exact⟨by omega,by omega,by omega,rfl⟩
 | some (a,y),g =>
  obtain⟨l,_,m,o,p⟩:=g;have ha:=xX (F3 i) _ _ _ a y (fun z hz=>by simp at hz;omega) q
  have r:=xY i l (min b (c a)) (by have:=s a ha;omega)
  subst m o p;exact⟨ha,r.1,r.2,uS _ _ _⟩
def lK(o:List Int)(e:Ed):List Int:=(o.set e.fr (o.getD e.fr 0-e.now)).set e.en ((o.set e.fr (o.getD e.fr 0-e.now)).getD e.en 0+e.now)
theorem F4(nodes:Nat)(a:List Ed):ly nodes a=a.foldl lK (List.replicate nodes 0):=rfl
def lL(c:Nat)(o:List Int):Prop:=∀n:Nat, -8000000000000*c≤o.getD n 0∧o.getD n 0≤8000000000000*c
theorem oE(o:List Int)(i n:Nat)(v:Int):(o.set i v).getD n 0=if i=n∧i<o.length then v else o.getD n 0:=by
 rw[List.getD_eq_getElem?_getD,List.getD_eq_getElem?_getD,List.getElem?_set];by_cases h:i=n
 ·subst h;by_cases hl:i<o.length
  ·rw[if_pos rfl,if_pos hl,if_pos ⟨rfl,hl⟩];rfl
  ·rw[if_pos rfl,if_neg hl,if_neg (fun h=>hl h.2),List.getElem?_eq_none (by omega)]
 ·rw[if_neg h,if_neg (fun a=>h a.1)]
theorem lL.zero(n:Nat):lL 0 (List.replicate n 0):=fun k=>by rw[List.getD_eq_getElem?_getD,List.getElem?_replicate];split<;>simp
theorem lL.step{c:Nat}{o:List Int}{e:Ed}(h:lL c o)(b:-4000000000000≤e.now∧e.now≤4000000000000):lL (c+1) (lK o e):=fun n=>by
 have a:=h n;have h2:=h e.fr;have h3:=h e.en;unfold lK;rw[oE,oE,oE]
 push_cast
 split
 ·split<;>omega
 ·split<;>omega
theorem F5{o:List Int}(h:o.all (fun n=>decide (-4000000000000≤n∧n≤4000000000000))=true)(n:Nat):-4000000000000≤o.getD n 0∧o.getD n 0≤4000000000000:=by
 rw[List.getD_eq_getElem?_getD];cases he:o[n]? with
 | none=>simp
 | some x=>exact of_decide_eq_true (List.all_eq_true.1 h x (List.mem_of_getElem? he))
theorem xZ{o:List Int}{b:List Ed}{r:Bool×List Int×List Ed}(h:fP nodes src (f+1) o b=some r) :
  (o.getD src 0≤0∧r=(true,o,b))∨(0<o.getD src 0∧b.all (bP nodes)=true∧(∀n, -4000000000000≤o.getD n 0∧o.getD n 0≤4000000000000)∧∃k t a,dV b nodes src (o.getD src 0) (-1) (fun n=>- o.getD n 0)=some (k,t,a) ∧
   ((k=0∧r=(false,o,a))∨(k≠0∧fP nodes src f ((o.set src (o.getD src 0-k)).set t ((o.set src (o.getD src 0-k)).getD t 0+k)) a=some r))):=by
 rw[fP]at h;by_cases h0:o.getD src 0≤0
 ·rw[if_pos h0]at h;injection h with h
  exact .inl ⟨h0,h.symm⟩
 ·rw[if_neg h0]at h;by_cases h1:b.all (bP nodes)=false∨o.all (fun n=>decide (-4000000000000≤n∧n≤4000000000000))=false
  ·rw[if_pos h1]at h;cases h
  ·rw[if_neg h1]at h;refine .inr ⟨by omega,by simpa using fun h=>h1 (.inl h),F5 (by simpa using fun h=>h1 (.inr h)), ?_⟩
   split at h
   ·cases h
   ·rename_i k t a c;refine⟨k,t,a,c, ?_⟩;by_cases hk:k=0
    ·rw[if_pos hk]at h;injection h with h
     exact .inl ⟨hk,h.symm⟩
    ·rw[if_neg hk]at h;exact .inr ⟨hk,h⟩
theorem ya{s:Nat}{l:List Nat}{o:List Int}{g:List Ed}{r:Bool×List Ed}(h:cG nodes f (s::l) o g=some r) :
  ∃b c a,fP nodes s f o g=some (b,c,a)∧((b=false∧r=(false,a))∨(b=true∧cG nodes f l c a=some r)):=by
 rw[cG]at h;split at h
 ·cases h
 ·rename_i c a d;injection h with h
  exact⟨false,c,a,d,.inl ⟨rfl,h.symm⟩⟩
 ·rename_i c a d;exact⟨true,c,a,d,.inr ⟨rfl,h⟩⟩
end
end Go.Proofs.YtbillnhcmkpohaaGreatDoor
namespace Go.Proofs.YtbillnhcmkpohaaGreatDoor
open Go.RowKit
theorem cx.at{base b cap:Nat}{w:World}{es:List Ed}(h:cx base w b cap es){i:Nat}{x:Ed}(hx:es[i]?=some x) :
  w.cell? ⟨b,i*5,none⟩=some (iv x.fr)∧cA w b (i*5+1) (iv x.en)∧cA w b (i*5+2) (iv x.lo)∧cA w b (i*5+3) (iv x.hi)∧cA w b (i*5+4) (iv x.now):=by
 obtain⟨d,c,e,_,hc⟩:=h.rd i x hx;injection e with e
 injection e with e1 e2
 subst e1 e2;have a:=hc 0 _ rfl;have h1:=hc 1 _ rfl;have h2:=hc 2 _ rfl;have h3:=hc 3 _ rfl;have h4:=hc 4 _ rfl;simp only[Nat.zero_add,Nat.add_zero]at a h1 h2 h3 h4;exact⟨a,h1,h2,h3,h4⟩
structure fy(w:World)(base g3 go g b cap nodes:Nat)(js:Value)(out:Int)(wr:World)(o:List Int)(es:List Ed):Prop where
 bx:aa wr g3 48 #[.slice (some ⟨go,0,none⟩) nodes nodes]
 row:wr.ownsRow w.heap.size 3 1 (.slice (some ⟨go,0,none⟩) nodes nodes) nodes (o.map iv)
 wb:aa wr g 89 #[.slice (some ⟨b,0,none⟩) es.length cap,iv nodes,js,iv out]
 ed:cx base wr b cap es
 on:ai w wr b
 len:o.length=nodes
section
variable {w wr w':World} {base g3 go g b cap nodes:Nat} {js:Value} {out:Int} {o:List Int} {es es':List Ed}
theorem fy.below(h:fy w base g3 go g b cap nodes js out wr o es)(a:BW wr w'):fy w base g3 go g b cap nodes js out w' o es :=
 ⟨h.bx.keep a,aN h.row a,h.wb.keep a,h.ed.below a,ie h.on (ai.of_below a b),h.len⟩
theorem fy.o_at(h:fy w base g3 go g b cap nodes js out wr o es){n:Nat}(a:n<nodes):wr.cell? ⟨go,n,none⟩=some (iv (o.getD n 0)):=by
 rw[h.row.cellAt n (by omega),List.getElem?_map,List.getD_eq_getElem?_getD,gE (by rw[h.len];exact a)]
 rfl
theorem fy.put(h:fy w base g3 go g b cap nodes js out wr o es)(n:Nat)(v:Int):fy w base g3 go g b cap nodes js out (wr.setCell ⟨go,n,none⟩ (iv v)) (o.set n v) es:=by
 have a:=ai.of_set (bR wr) go n (iv v);have n3:g3≠go:=fun e=>ax h.row h.bx (by decide) (by rw[e];rfl)
 have i:g≠go:=fun e=>ax h.row h.wb (by decide) (by rw[e];rfl)
 have j:=(h.row.lt go rfl).1;refine⟨h.bx.same (a.block g3 h.bx.lt n3), ?_,h.wb.same (a.block g h.wb.lt i),⟨a.own h.ed.row (fun e=>jI h.row h.ed.row (by decide) (g:=go) rfl e)⟩, ?_,by simpa using h.len⟩
 ·have f:=(h.row.stored n (iv v)).1
  rwa [←List.map_set]at f
 ·exact⟨a.os.trans h.on.os,a.tape.trans h.on.tape,a.output.trans h.on.output,lT h.on.size a.size,fun k d c=>(a.block k (lz d h.on.size) (by omega)).trans (h.on.block k d c)⟩
theorem fy.pushed(h:fy w base g3 go g b cap nodes js out wr o es)(a:ai wr w' b)(c:cx base w' b cap es')(d:es'.length=es.length):fy w base g3 go g b cap nodes js out w' o es':=by
 have f:g3≠b:=fun e=>ax h.ed.row h.bx (by decide) (by rw[e];rfl)
 have i:g≠b:=fun e=>ax h.ed.row h.wb (by decide) (by rw[e];rfl)
 refine⟨h.bx.same (a.block g3 h.bx.lt f),a.own h.row (fun e=>jI h.ed.row h.row (by decide) (g:=b) rfl e), ?_,c,ie h.on a,h.len⟩
 rw[d];exact h.wb.same (a.block g h.wb.lt i)
end
end Go.Proofs.YtbillnhcmkpohaaGreatDoor
