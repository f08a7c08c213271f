/- Awake of layer 9 (printed by mkWL1.py). The examples of layer 1 are as the document says: .. -/
import Derived.Test.YtbillnhcmkpohaaGreatDoorM22
set_option maxRecDepth 1000000
set_option maxHeartbeats 0
namespace Go.Proofs.YtbillnhcmkpohaaGreatDoor
open Go.RowKit
structure AW(w0 W:World)(g1 g2:Nat)(Ay Az:aI):Prop where
 bw:BW w0 W
 q1:aa W g1 46 (ak (aC false) Ay)
 q2:aa W g2 46 (ak (aC true) Az)
 hy:aO W W.heap.size (aC false) Ay
 hz:aO W W.heap.size (aC true) Az
theorem AW.below{f W V:World}{c d:Nat}{b Az:aI}(h:AW f W c d b Az)(a:BW W V):AW f V c d b Az :=
 ⟨bT h.bw a,h.q1.keep a,h.q2.keep a,(h.hy.below a (lr _)).more a.size,(h.hz.below a (lr _)).more a.size⟩
theorem IV(J:Int)(o:World)(I:fe o)(H:o.cell? ⟨0,0,none⟩=some (iv J)):Cs 19 #[] o (Rt o (.bool true)):=by
 have G:=Lq I;have HM:=Lq H;clear I H;go_enter Tryz.func19,Tryz.ntmps19
 go_wp2_with fail;refine(yx false _).mono ?_;rintro e Z ⟨m,rfl,q,y⟩;go_wp2_with fail;refine(yx true _).mono ?_;rintro e u2 ⟨Az,rfl,hb2,hz2⟩;obtain⟨Va,hVa,ba⟩:=nA u2 (.cells #[.slice none 0 0,.slice none 0 0,.slice none 0 0,.slice none 0 0,.slice none 0 0] 46);obtain⟨g1,hg1⟩:=ex u2.heap.size;obtain⟨Vb,hVb,bb⟩:=nA Va (.cells #[.slice none 0 0,.slice none 0 0,.slice none 0 0,.slice none 0 0,.slice none 0 0] 46);obtain⟨g2,hg2⟩:=ex Va.heap.size;have q1:=hg1▸bB hVa bb;have q2:=hg2▸bB hVb (bR Vb);have n12:g1≠g2:=by have:=(hg1▸bB hVa (bR Va)).lt;omega
 obtain⟨X,F,x,t,u⟩:=oG Vb g1 46 (.slice none 0 0) (.slice none 0 0) (.slice none 0 0) (.slice none 0 0) (.slice none 0 0) (.slice m.k (aC false).kinds.length m.ck) (.slice m.p (aC false).places.length m.cp) (.slice m.f (aC false).first.length m.cf) (.slice m.a (aC false).papers.length m.ca) (.slice m.l (aC false).last.length m.cl) q1;have q2c:=u _ _ _ q2 (Ne.symm n12);obtain⟨Vd,hVd,hq2,hbd,hod⟩:=oG X g2 46 (.slice none 0 0) (.slice none 0 0) (.slice none 0 0) (.slice none 0 0) (.slice none 0 0) (.slice Az.k (aC true).kinds.length Az.ck) (.slice Az.p (aC true).places.length Az.cp) (.slice Az.f (aC true).first.length Az.cf) (.slice Az.a (aC true).papers.length Az.ca) (.slice Az.l (aC true).last.length Az.cl) q2c;have hu:BW u2 Vd:=hbd u2 (t u2 (bT ba bb) (by omega)) (by have:=ba.size;omega)
 have d:Hid (AW o Vd g1 g2 m Az):=Lq ⟨bT q (bT hb2 hu),hod _ _ _ x n12,hq2,(y.below (bT hb2 hu) (lr _)).more (bT hb2 hu).size,(hz2.below hu (lr _)).more hu.size⟩;obtain⟨r0,r1,r2,r3,r4⟩:=q1.f5;obtain⟨s0,s1,s2,s3,s4⟩:=q1.c5;have sl:=q1.lt;obtain⟨m0,m1,m2,m3,m4⟩:=q2c.f5;obtain⟨o0,o1,o2,o3,o4⟩:=q2c.c5;have ol:=q2c.lt;clear q hb2 y hz2 ba bb q1 q2 x t u q2c hq2 hbd hod hu;obtain⟨j,x1,x2,x3,x4⟩:=d.out.q1.c5;obtain⟨L,hL,hbL⟩:=nA Vd (.cells #[iv 1] 3);obtain⟨gl,hgl⟩:=ex Vd.heap.size;have g:am iv L L.heap.size (some ⟨gl,0,none⟩) [1]:=hgl▸aa.rd1 (xs:=([1]:List Int)) (bB hL (bR L));have d:=Lq (d.out.below hbL);have HC:=Lq (sK (aC false) m L.heap.size (some ⟨gl,0,none⟩) [1] 1 9 true L d.out.hy (lr _) (iL false) (by decide) g (mH (by decide)) qu.1 qu.2)
 clear g hbL;go_wp2_with fail;clear r0 r1 r2 r3 r4 s0 s1 s2 s3 s4 sl m0 m1 m2 m3 m4 o0 o1 o2 o3 o4 ol hVa hVb F hVd hg1 hg2 n12;refine HC.out.mono ?_;rintro e K ⟨rfl,b⟩;have d:=Lq (d.out.below b);clear b j x1 x2 x3 x4 hL hgl HC;obtain⟨j,x1,x2,x3,x4⟩:=d.out.q1.c5;obtain⟨L,hL,hbL⟩:=nA K (.cells #[iv 0] 3);obtain⟨gl,hgl⟩:=ex K.heap.size;have g:am iv L L.heap.size (some ⟨gl,0,none⟩) [0]:=hgl▸aa.rd1 (xs:=([0]:List Int)) (bB hL (bR L));have d:=Lq (d.out.below hbL);have HC:=Lq (sK (aC false) m L.heap.size (some ⟨gl,0,none⟩) [0] 1 9 false L d.out.hy (lr _) (iL false) (by decide) g (mH (by decide)) qv.1 qv.2)
 clear g hbL;go_wp2_with fail;refine HC.out.mono ?_;rintro e M ⟨rfl,b⟩;have d:=Lq (d.out.below b);clear b j x1 x2 x3 x4 hL hgl HC;obtain⟨j,x1,x2,x3,x4⟩:=d.out.q1.c5;obtain⟨L,hL,hbL⟩:=nA M (.cells #[iv 0] 3);obtain⟨gl,hgl⟩:=ex M.heap.size;have g:am iv L L.heap.size (some ⟨gl,0,none⟩) [0]:=hgl▸aa.rd1 (xs:=([0]:List Int)) (bB hL (bR L));have d:=Lq (d.out.below hbL);have HC:=Lq (Gb (aC false) m L.heap.size (some ⟨gl,0,none⟩) [0] 1 100 L d.out.hy (lr _) (iL false) (by decide) g (mH (by decide)) tf qy.1 (by decide) qy.2 (by decide))
 clear g hbL;go_wp2_with fail;refine HC.out.mono ?_;rintro e N ⟨rfl,b⟩;have d:=Lq (d.out.below b);clear b j x1 x2 x3 x4 hL hgl HC;obtain⟨Wa,Vp7,hWa,hWb,hbb,qa,hba,qb⟩:=su N 132 (iv 0) (iv 0) (iv 0) (iv 0) (iv (-1)) (iv 0) (iv 1) (iv 100);obtain⟨p7,hgp7⟩:=ex N.heap.size;rw[hgp7]at hWb qa qb;obtain⟨f0,f1,f2,f3⟩:=qa.f4;obtain⟨e0,e1,e2,e3⟩:=qa.c4;have el:=qa.lt;have d:=Lq (d.out.below hbb);have Hp7:=Lq qb;clear hbb qa hba qb;obtain⟨j,x1,x2,x3,x4⟩:=d.out.q1.c5;obtain⟨L,hL,hbL⟩:=nA Vp7 (.cells #[iv 0] 3);obtain⟨gl,hgl⟩:=ex Vp7.heap.size;have g:am iv L L.heap.size (some ⟨gl,0,none⟩) [0]:=hgl▸aa.rd1 (xs:=([0]:List Int)) (bB hL (bR L));have d:=Lq (d.out.below hbL);have Hp7:=Lq (Hp7.out.keep hbL);have HC:Hid (Cs 60 #[.agg (ak (aC false) m),.slice (some ⟨gl,0,none⟩) 1 1,.agg #[iv (-1),iv 0,iv 1,iv 100]] L (Rt L (.tuple #[.bool true,iv 0]))):=Lq ((show((100:Int)==100)=true by decide)▸yv (aC false) m L.heap.size (some ⟨gl,0,none⟩) [0] 1 100 100 L d.out.hy (lr _) (iL false) (by decide) g (mH (by decide)) tf (by decide) qy.2 (by decide))
 clear g hbL;go_wp2_with fail;clear hWa hWb hgp7 el f0 f1 f2 f3 e0 e1 e2 e3;refine HC.out.mono ?_;rintro e O ⟨rfl,b⟩;have d:=Lq (d.out.below b);have Hp7:=Lq (Hp7.out.keep b);clear b j x1 x2 x3 x4 hL hgl HC;obtain⟨j,x1,x2,x3,x4⟩:=d.out.q1.c5;obtain⟨L,hL,hbL⟩:=nA O (.cells #[iv 0] 3);obtain⟨gl,hgl⟩:=ex O.heap.size;have g:am iv L L.heap.size (some ⟨gl,0,none⟩) [0]:=hgl▸aa.rd1 (xs:=([0]:List Int)) (bB hL (bR L));have d:=Lq (d.out.below hbL);have Hp7:=Lq (Hp7.out.keep hbL);have HC:Hid (Cs 60 #[.agg (ak (aC false) m),.slice (some ⟨gl,0,none⟩) 1 1,.agg #[iv (-1),iv 0,iv 1,iv 99]] L (Rt L (.tuple #[.bool false,iv 0]))):=Lq ((show((99:Int)==100)=false by decide)▸yv (aC false) m L.heap.size (some ⟨gl,0,none⟩) [0] 1 100 99 L d.out.hy (lr _) (iL false) (by decide) g (mH (by decide)) tf (by decide) qy.2 (by decide))
 clear g hbL;go_wp2_with fail;refine HC.out.mono ?_;rintro e R ⟨rfl,b⟩;have d:=Lq (d.out.below b);have Hp7:=Lq (Hp7.out.keep b);clear b j x1 x2 x3 x4 hL hgl HC;obtain⟨j,x1,x2,x3,x4⟩:=d.out.q2.c5;have HC:=Lq (Ar (aC true) Az R.heap.size 9 R d.out.hz (lr _) (iL true) qw.1 qw.2 [[]] [0] _ IM (fun s hs=>by rw[List.mem_singleton.1 hs];exact tg [] (by simp)) ⟨by decide,(tg [0] (by simp)).2⟩)
 skip;go_wp2_with fail;refine HC.out.mono ?_;rintro e S ⟨v,rfl,b,n⟩;obtain⟨A13,c13,hv,g,_⟩:=fS (xs:=([0]:List Int)) (enc:=iv) n;have hv:v=.slice A13 1 c13:=hv;subst hv;have d:=Lq (d.out.below b);have Hp7:=Lq (Hp7.out.keep b);clear b j x1 x2 x3 x4 HC;have H13:=Lq g;clear g n;obtain⟨j,x1,x2,x3,x4⟩:=d.out.q1.c5;have HC:=Lq (Hf (aC false) m S.heap.size 9 (fun i=>i != 1) S d.out.hy (lr _) (iL false) AX.1 AX.2 (fun i hi=>(AY i hi).1) (fun i hi=>(AY i hi).2))
 skip;go_wp2_with fail;refine HC.out.mono ?_;rintro e E ⟨v,rfl,b,n⟩;rw[IQ]at n;obtain⟨A15,c15,hv,g,_⟩:=fS (xs:=([1]:List Int)) (enc:=iv) n;have hv:v=.slice A15 1 c15:=hv;subst hv;have d:=Lq (d.out.below b);have Hp7:=Lq (Hp7.out.keep b);have H13:=Lq ((H13.out.below b (lr _)).more b.size);clear b j x1 x2 x3 x4 HC;have H15:=Lq g;clear g n;obtain⟨j,x1,x2,x3,x4⟩:=d.out.q2.c5;have HC:Hid (Cs 62 #[.agg (ak (aC true) Az)] E fun e w'=>∃L c,e=.returned (.tuple #[.slice L 2 c,iv 0])∧BW E w'∧am iv w' w'.heap.size L [0,1]):=Lq (by have h:=Hy (aC true) Az E.heap.size 9 oR E d.out.hz (lr _) (iL true) qw.1 qw.2 [[],[0],[1],[2]] [0,1] _ IL tg IOa (by decide) (by decide) (by decide) (by decide) (by decide) (by decide) (by decide);rw[IP]at h;exact h)
 skip;go_wp2_with fail;refine HC.out.mono ?_;rintro e z ⟨U,Y,rfl,b,g⟩;have d:=Lq (d.out.below b);have Hp7:=Lq (Hp7.out.keep b);have H13:=Lq ((H13.out.below b (lr _)).more b.size);have H15:=Lq ((H15.out.below b (lr _)).more b.size);clear b j x1 x2 x3 x4 HC;have H17:=Lq g;clear g;obtain⟨r,rc,hr1,hr2⟩:=IR;obtain⟨j,x1,x2,x3,x4⟩:=d.out.q2.c5;obtain⟨L,hL,hbL⟩:=nA z (.cells #[iv 0,iv 1] 3);obtain⟨gl,hgl⟩:=ex z.heap.size;have g:am iv L L.heap.size (some ⟨gl,0,none⟩) [0,1]:=hgl▸aa.rd1 (xs:=([0,1]:List Int)) (bB hL (bR L));have d:=Lq (d.out.below hbL);have Hp7:=Lq (Hp7.out.keep hbL);have H13:=Lq ((H13.out.below hbL (lr _)).more hbL.size);have H15:=Lq ((H15.out.below hbL (lr _)).more hbL.size);have H17:=Lq ((H17.out.below hbL (lr _)).more hbL.size);have HC:=Lq (II (aC true) Az L.heap.size (some ⟨gl,0,none⟩) [0,1] 2 9 0 ⟨0,0,1,600,1⟩ 500 600 r.1 r.2 rc L d.out.hz (lr _) (iL true) (by decide) g (IK (by decide) (by decide)) Bb.1 Bb.2 rfl hr1 9 4 jT hr2)
 clear g hbL;go_wp2_with fail;refine HC.out.mono ?_;rintro e A ⟨rfl,b⟩;have d:=Lq (d.out.below b);have Hp7:=Lq (Hp7.out.keep b);have H13:=Lq ((H13.out.below b (lr _)).more b.size);have H15:=Lq ((H15.out.below b (lr _)).more b.size);have H17:=Lq ((H17.out.below b (lr _)).more b.size);clear b j x1 x2 x3 x4 hL hgl HC;obtain⟨Wa,Vp19,hWa,hWb,hbb,qa,hba,qb⟩:=fm A 33 (iv 0) (iv 0) (iv 500) (iv 600);obtain⟨p19,hgp19⟩:=ex A.heap.size;rw[hgp19]at hWb qa qb;obtain⟨f0,f1⟩:=qa.f2;obtain⟨e0,e1⟩:=qa.c2;have el:=qa.lt;have d:=Lq (d.out.below hbb);have Hp7:=Lq (Hp7.out.keep hbb);have H13:=Lq ((H13.out.below hbb (lr _)).more hbb.size);have H15:=Lq ((H15.out.below hbb (lr _)).more hbb.size);have H17:=Lq ((H17.out.below hbb (lr _)).more hbb.size);have Hp19:=Lq qb;clear hbb qa hba qb;obtain⟨r,rc,hr1,hr2⟩:=IS;obtain⟨j,x1,x2,x3,x4⟩:=d.out.q1.c5;obtain⟨L,hL,hbL⟩:=nA Vp19 (.cells #[iv 1] 3);obtain⟨gl,hgl⟩:=ex Vp19.heap.size;have g:am iv L L.heap.size (some ⟨gl,0,none⟩) [1]:=hgl▸aa.rd1 (xs:=([1]:List Int)) (bB hL (bR L));have d:=Lq (d.out.below hbL);have Hp7:=Lq (Hp7.out.keep hbL);have H13:=Lq ((H13.out.below hbL (lr _)).more hbL.size);have H15:=Lq ((H15.out.below hbL (lr _)).more hbL.size);have H17:=Lq ((H17.out.below hbL (lr _)).more hbL.size);have Hp19:=Lq (Hp19.out.keep hbL);have HC:=Lq (AU (aC false) m L.heap.size (some ⟨gl,0,none⟩) [1] 1 9 0 300 300 r.1 r.2 rc L d.out.hy (lr _) (iL false) (by decide) g (mH (by decide)) qu.1 qu.2 (by decide) hr1 9 hr2)
 clear g hbL;go_wp2_with fail;clear hWa hWb hgp19 el f0 f1 e0 e1;refine HC.out.mono ?_;rintro e B ⟨rfl,b⟩;have d:=Lq (d.out.below b);have Hp7:=Lq (Hp7.out.keep b);have H13:=Lq ((H13.out.below b (lr _)).more b.size);have H15:=Lq ((H15.out.below b (lr _)).more b.size);have H17:=Lq ((H17.out.below b (lr _)).more b.size);have Hp19:=Lq (Hp19.out.keep b);clear b j x1 x2 x3 x4 hL hgl HC;obtain⟨Wa,Vp21,hWa,hWb,hbb,qa,hba,qb⟩:=fm B 33 (iv 0) (iv 0) (iv 300) (iv 300);obtain⟨p21,hgp21⟩:=ex B.heap.size;rw[hgp21]at hWb qa qb;obtain⟨f0,f1⟩:=qa.f2;obtain⟨e0,e1⟩:=qa.c2;have el:=qa.lt;have d:=Lq (d.out.below hbb);have Hp7:=Lq (Hp7.out.keep hbb);have H13:=Lq ((H13.out.below hbb (lr _)).more hbb.size);have H15:=Lq ((H15.out.below hbb (lr _)).more hbb.size);have H17:=Lq ((H17.out.below hbb (lr _)).more hbb.size);have Hp19:=Lq (Hp19.out.keep hbb);have Hp21:=Lq qb;clear hbb qa hba qb;obtain⟨j,x1,x2,x3,x4⟩:=d.out.q2.c5;have HC:Hid (Cs 64 #[.agg (ak (aC true) Az)] Vp21 (Rt Vp21 (.tuple #[.string jA,iv 0]))):=Lq (yE▸IU (aC true) Az Vp21.heap.size Vp21 d.out.hz (lr _) (iL true) yG (G.out.below d.out.bw (lr _)));skip;go_wp2_with fail;clear hWa hWb hgp21 el f0 f1 e0 e1;refine HC.out.mono ?_;rintro e u13 ⟨rfl,b⟩;have d:=Lq (d.out.below b);have Hp7:=Lq (Hp7.out.keep b);have H13:=Lq ((H13.out.below b (lr _)).more b.size);have H15:=Lq ((H15.out.below b (lr _)).more b.size);have H17:=Lq ((H17.out.below b (lr _)).more b.size);have Hp19:=Lq (Hp19.out.keep b);have Hp21:=Lq (Hp21.out.keep b);clear b j x1 x2 x3 x4 HC;go_wp2_with fail;refine(AB _).mono ?_;rintro e v1 ⟨rfl,hv⟩;subst hv;have HC:=Lq (GF J _ (iL true) (G.out.below d.out.bw (lr _)) ((World.cell?_of_block (w:=o) (a:=⟨0,0,none⟩) (d.out.bw.block 0 (br HM.out))).trans HM.out));go_wp2_with fail;refine HC.out.mono ?_;rintro e u20 ⟨Ax,rfl,b,hyx⟩;have d:=Lq (d.out.below b);have Hp7:=Lq (Hp7.out.keep b);have H13:=Lq ((H13.out.below b (lr _)).more b.size);have H15:=Lq ((H15.out.below b (lr _)).more b.size);have H17:=Lq ((H17.out.below b (lr _)).more b.size);have Hp19:=Lq (Hp19.out.keep b);have Hp21:=Lq (Hp21.out.keep b);have HX:=Lq hyx;clear b hyx HC;obtain⟨Wa,Vp25,hWa,hWb,hbb,qa,hba,qb⟩:=fh u20 46 (.slice none 0 0) (.slice none 0 0) (.slice none 0 0) (.slice none 0 0) (.slice none 0 0) (.slice Ax.k (aC true).kinds.length Ax.ck) (.slice Ax.p (aC true).places.length Ax.cp) (.slice Ax.f (aC true).first.length Ax.cf) (.slice Ax.a (aC true).papers.length Ax.ca) (.slice Ax.l (aC true).last.length Ax.cl);obtain⟨p25,hgp25⟩:=ex u20.heap.size;rw[hgp25]at hWb qa qb;obtain⟨f0,f1,f2,f3,f4⟩:=qa.f5;obtain⟨e0,e1,e2,e3,e4⟩:=qa.c5;have el:=qa.lt;have d:=Lq (d.out.below hbb);have Hp7:=Lq (Hp7.out.keep hbb);have H13:=Lq ((H13.out.below hbb (lr _)).more hbb.size);have H15:=Lq ((H15.out.below hbb (lr _)).more hbb.size);have H17:=Lq ((H17.out.below hbb (lr _)).more hbb.size);have Hp19:=Lq (Hp19.out.keep hbb);have Hp21:=Lq (Hp21.out.keep hbb);have HX:=Lq ((HX.out.below hbb (lr _)).more hbb.size);have Hp25:=Lq qb;clear hbb qa hba qb;obtain⟨r,hr1⟩:=IT;obtain⟨j,x1,x2,x3,x4⟩:=d.out.q1.c5;obtain⟨L,hL,hbL⟩:=nA Vp25 (.cells #[iv 0] 3);obtain⟨gl,hgl⟩:=ex Vp25.heap.size;have g:am iv L L.heap.size (some ⟨gl,0,none⟩) [0]:=hgl▸aa.rd1 (xs:=([0]:List Int)) (bB hL (bR L));have d:=Lq (d.out.below hbL);have Hp7:=Lq (Hp7.out.keep hbL);have H13:=Lq ((H13.out.below hbL (lr _)).more hbL.size);have H15:=Lq ((H15.out.below hbL (lr _)).more hbL.size);have H17:=Lq ((H17.out.below hbL (lr _)).more hbL.size);have Hp19:=Lq (Hp19.out.keep hbL);have Hp21:=Lq (Hp21.out.keep hbL);have HX:=Lq ((HX.out.below hbL (lr _)).more hbL.size);have Hp25:=Lq (Hp25.out.keep hbL);have HC:=Lq (IJ (aC false) m L.heap.size (some ⟨gl,0,none⟩) [0] 1 9 0 ⟨0,0,1,600,1⟩ r.1 r.2 L d.out.hy (lr _) (iL false) (by decide) g (mH (by decide)) qv.1 qv.2 rfl hr1)
 clear g hbL;go_wp2_with fail;clear hWa hWb hgp25 el f0 f1 f2 f3 f4 e0 e1 e2 e3 e4;refine HC.out.mono ?_;rintro e C ⟨rfl,b⟩;have d:=Lq (d.out.below b);have Hp7:=Lq (Hp7.out.keep b);have H13:=Lq ((H13.out.below b (lr _)).more b.size);have H15:=Lq ((H15.out.below b (lr _)).more b.size);have H17:=Lq ((H17.out.below b (lr _)).more b.size);have Hp19:=Lq (Hp19.out.keep b);have Hp21:=Lq (Hp21.out.keep b);have HX:=Lq ((HX.out.below b (lr _)).more b.size);have Hp25:=Lq (Hp25.out.keep b);clear b j x1 x2 x3 x4 hL hgl HC;obtain⟨Wa,Vp27,hWa,hWb,hbb,qa,hba,qb⟩:=fm C 33 (iv 0) (iv 0) (iv 0) (iv 0);obtain⟨p27,hgp27⟩:=ex C.heap.size;rw[hgp27]at hWb qa qb;obtain⟨f0,f1⟩:=qa.f2;obtain⟨e0,e1⟩:=qa.c2;have el:=qa.lt;have d:=Lq (d.out.below hbb);have Hp7:=Lq (Hp7.out.keep hbb);have H13:=Lq ((H13.out.below hbb (lr _)).more hbb.size);have H15:=Lq ((H15.out.below hbb (lr _)).more hbb.size);have H17:=Lq ((H17.out.below hbb (lr _)).more hbb.size);have Hp19:=Lq (Hp19.out.keep hbb);have Hp21:=Lq (Hp21.out.keep hbb);have HX:=Lq ((HX.out.below hbb (lr _)).more hbb.size);have Hp25:=Lq (Hp25.out.keep hbb);have Hp27:=Lq qb;clear hbb qa hba qb;go_upto_region 15 with fail
 clear hWa hWb hgp27 el f0 f1 e0 e1;refine Ib (V:=Vp27) (p2:=g2) (p7:=p7) (p19:=p19) (p21:=p21) (p25:=p25) (Ax:=Ax) (Az:=Az) (by kernel_rfl) (Lq fun W b=>?_) H13.out H15.out H17.out HX.out d.out.hz (aq.cons (i:=2) rfl (aq.cons (i:=3) rfl (aq.cons (i:=4) rfl (aq.cons (i:=5) rfl (aq.cons (i:=6) rfl (aq.cons (i:=7) rfl (aq.cons (i:=8) rfl (aq.cons (i:=9) rfl (aq.cons (i:=10) rfl (aq.cons (i:=11) rfl (aq.cons (i:=12) rfl (aq.cons (i:=13) rfl (aq.cons (i:=14) rfl (aq.cons (i:=15) rfl (aq.cons (i:=16) rfl (aq.cons (i:=17) rfl (aq.cons (i:=18) rfl (aq.cons (i:=19) rfl (aq.cons (i:=20) rfl (aq.cons (i:=21) rfl (aq.cons (i:=22) rfl (aq.cons (i:=23) rfl (aq.cons (i:=24) rfl (aq.cons (i:=25) rfl (aq.cons (i:=26) rfl (aq.cons (i:=28) rfl (aq.nil rfl))))))))))))))))))))))))))) (fun T W b hT=>?_)
 ·have D:=Hp7.out.keep b;have k19:=Hp19.out.keep b;have k21:=Hp21.out.keep b;have k25:=Hp25.out.keep b;have k2:=d.out.q2.keep b;exact⟨D.c 0,D.c 1,D.c 2,D.c 3,k19.c 0,k19.c 1,k21.c 0,k21.c 1,k25.c 0,k25.c 1,k25.c 2,k25.c 3,k25.c 4,k2.c 0,k2.c 1,k2.c 2,k2.c 3,k2.c 4⟩
 ·have j:=hT.get 0 _;have HB:=Lq (bT d.out.bw b);clear hT b;go_wp2_with fail;exact bodyPost_ret (v:=.bool true) (by simp[results,Tryz.results19,j]) rfl ⟨rfl,HB.out⟩
theorem IW(z:Int)(d:World)(y:fe d)(u:d.cell? ⟨0,0,none⟩=some (iv z)):Cs 18 #[] d (Rt d (.bool true)):=by
 have s:=Lq y;have MC:=Lq u;clear y u;go_enter Tryz.func18,Tryz.ntmps18
 go_wp2_with fail;refine(lO 2 (by decide) d).mono ?_
 rintro e A ⟨H,rfl,b,a⟩;have B1:Hid (BW d A):=Lq a;have P1:=Lq B1.out;have Pv1:=Lq b;clear a b;go_wp2_with fail;refine(GR Pv1.out).mono ?_;rintro e w2 ⟨A1,c1,ms1,rfl,hps1,hsl1,a⟩;have B2:Hid (BW A w2):=Lq a;have P2:=Lq (bT P1.out B2.out);have PS1:=Lq hps1;have SL1:=Lq hsl1;clear a hps1 hsl1;obtain⟨Wa3,w3,hWa,hWn,hbn,hqa,hba,hqn⟩:=gg w2 24 (.slice none 0 0) (.slice A1 ms1.length c1);obtain⟨p1,hp1⟩:=ex w2.heap.size;rw[hp1]at hWn hqa hqn;have af0:=hqa.frozen 0;have ac0:=hqa.c 0;have al:=hqa.lt;have B3:Hid (BW w2 w3):=Lq hbn;have P3:=Lq (bT P2.out B3.out);have Qp1:=Lq hqn;have Gp1:Hid (w2.heap.size=p1):=Lq hp1;clear hbn hqa hba hqn;go_wp2_with fail;clear af0 ac0 al hWa hWn hp1;refine(lO 0 (by decide) w3).mono ?_
 rintro e B ⟨I,rfl,b,a⟩;have B4:Hid (BW w3 B):=Lq a;have P4:=Lq (bT P3.out B4.out);have Pv2:=Lq b;clear a b;go_wp2_with fail;refine(GS Pv2.out).mono ?_;rintro e w5 ⟨rfl,a⟩;have B5:Hid (BW B w5):=Lq a;have P5:=Lq (bT P4.out B5.out);clear a;obtain⟨Wa6,w6,hWa,hWn,hbn,hqa,hba,hqn⟩:=iq w5 33 (iv 0) (iv 0) (iv 5695) (iv 6440);obtain⟨p3,hp3⟩:=ex w5.heap.size;rw[hp3]at hWn hqa hqn;have af0:=hqa.frozen 0;have ac0:=hqa.c 0;have af1:=hqa.frozen 1;have ac1:=hqa.c 1;have al:=hqa.lt;have B6:Hid (BW w5 w6):=Lq hbn;have P6:=Lq (bT P5.out B6.out);have Qp3:=Lq hqn;have Gp3:Hid (w5.heap.size=p3):=Lq hp3;clear hbn hqa hba hqn;go_wp2_with fail;clear af0 ac0 af1 ac1 al hWa hWn hp3;refine(lO 2 (by decide) w6).mono ?_
 rintro e C ⟨J,rfl,b,a⟩;have B7:Hid (BW w6 C):=Lq a;have P7:=Lq (bT P6.out B7.out);have Pv3:=Lq b;clear a b;go_wp2_with fail;refine(GT Pv3.out).mono ?_;rintro e w8 ⟨A3,c3,rfl,hr3,a⟩;have B8:Hid (BW C w8):=Lq a;have P8:=Lq (bT P7.out B8.out);have RD3:=Lq hr3;clear a hr3;go_wp2_with fail;refine(lO 2 (by decide) w8).mono ?_
 rintro e r ⟨K,rfl,b,a⟩;have B9:Hid (BW w8 r):=Lq a;have P9:=Lq (bT P8.out B9.out);have Pv4:=Lq b;clear a b;go_wp2_with fail;refine(lO 0 (by decide) r).mono ?_
 rintro e k ⟨L,rfl,b,a⟩;have B10:Hid (BW r k):=Lq a;have P10:=Lq (bT P9.out B10.out);have Pv5:=Lq b;clear a b;go_wp2_with fail;refine(GY (Pv4.out.below B10.out) Pv5.out).mono ?_;rintro e w11 ⟨A4,c4,rfl,hr4,a⟩;have B11:Hid (BW k w11):=Lq a;have P11:=Lq (bT P10.out B11.out);have RD4:=Lq hr4;clear a hr4;go_wp2_with fail;refine(sO w11).mono ?_;rintro e w12 ⟨v6,rfl,hv6,a⟩;have B12:Hid (BW w11 w12):=Lq a;have P12:=Lq (bT P11.out B12.out);have Pv6:=Lq hv6;clear a hv6;obtain⟨w13,hwn,hbn⟩:=nA w12 (.cells #[.string tk1,iv 15,iv 4] 113);have hqn:aa w13 w12.heap.size 113 #[.string tk1,iv 15,iv 4]:=by rw[←hwn];exact aa.new w12 113 _
 obtain⟨G,j⟩:=ex w12.heap.size;rw[j]at hqn;have B13:Hid (BW w12 w13):=Lq hbn;have P13:=Lq (bT P12.out B13.out);have Qp5:=Lq hqn;clear hbn hqn;go_wp2_with fail;clear hwn j;obtain⟨bb6,pp6,qq6,hv6,ht6,hx6⟩:=Pv6.out;have PV6:Hid (oK w13 v6):=Lq ⟨bb6,pp6,qq6,hv6,ht6.below B13.out,hx6⟩;clear hv6 ht6 hx6;refine(G0 PV6.out Qp5.out).mono ?_;rintro e w14 ⟨A5,c5,rfl,hr5,a⟩;have B14:Hid (BW w13 w14):=Lq a;have P14:=Lq (bT P13.out B14.out);have RD5:=Lq hr5;clear a hr5;go_wp2_with fail;refine(sO w14).mono ?_;rintro e w15 ⟨v7,rfl,hv7,a⟩;have B15:Hid (BW w14 w15):=Lq a;have P15:=Lq (bT P14.out B15.out);have Pv7:=Lq hv7;clear a hv7;go_wp2_with fail;refine(G1 Pv7.out).mono ?_;rintro e w16 ⟨A6,A7,c6,c7,rfl,hr6,hr7,a⟩;have B16:Hid (BW w15 w16):=Lq a;have P16:=Lq (bT P15.out B16.out);have RD6:=Lq hr6;have RD7:=Lq hr7;clear a hr6 hr7;go_wp2_with fail;refine(sO w16).mono ?_;rintro e w17 ⟨v8,rfl,hv8,a⟩;have B17:Hid (BW w16 w17):=Lq a;have P17:=Lq (bT P16.out B17.out);have Pv8:=Lq hv8;clear a hv8;go_wp2_with fail;refine(G2 Pv8.out).mono ?_;rintro e w18 ⟨rfl,a⟩;have B18:Hid (BW w17 w18):=Lq a;have P18:=Lq (bT P17.out B18.out);clear a;rw[show aT=(⟨#[104,111,108,100,49]⟩:ByteArray)from rfl]
 go_wp2_with fail;refine(lO 2 (by decide) w18).mono ?_
 rintro e l ⟨M,rfl,b,a⟩;have B19:Hid (BW w18 l):=Lq a;have P19:=Lq (bT P18.out B19.out);have Pv9:=Lq b;clear a b;go_wp2_with fail;have PT5:=Lq (s.out.below P19.out (lr _));refine(G3 Pv9.out PT5.out).mono ?_;rintro e w20 ⟨rfl,a⟩;have B20:Hid (BW l w20):=Lq a;have P20:=Lq (bT P19.out B20.out);clear a;go_wp2_with fail;refine(vH w20).mono ?_;rintro e we ⟨rfl,rfl⟩;obtain⟨w20,hwe⟩:∃x,x=we:=⟨_,rfl⟩;subst hwe;go_wp2_with fail;have PT6:=Lq (s.out.below P20.out (lr _));have MC6:=Lq (kC P20.out MC.out);refine(G4 z PT6.out MC6.out).mono ?_;rintro e w21 ⟨v10,rfl,hv10,a⟩;have B21:Hid (BW w20 w21):=Lq a;have P21:=Lq (bT P20.out B21.out);have HV10:=Lq hv10;clear a hv10;obtain⟨A10,C10,cap10,capc10,ms10,cs10,hv,hp10,hx10,hy10⟩:=HV10.out;subst hv;have PV10:Hid (fo w21 2 (.agg #[.slice A10 ms10.length cap10,.slice C10 cs10.length capc10])):=Lq ⟨A10,C10,cap10,capc10,ms10,cs10,rfl,hp10,hx10,hy10⟩;clear hp10 hx10 hy10 HV10;obtain⟨Wa8,w22,hWa,hWn,hbn,hqa,hba,hqn⟩:=iq w21 27 (.slice none 0 0) (.slice none 0 0) (.slice A10 ms10.length cap10) (.slice C10 cs10.length capc10);obtain⟨p20,hp20⟩:=ex w21.heap.size;rw[hp20]at hWn hqa hqn;have af0:=hqa.frozen 0;have ac0:=hqa.c 0;have af1:=hqa.frozen 1;have ac1:=hqa.c 1;have al:=hqa.lt;have B22:Hid (BW w21 w22):=Lq hbn;have P22:=Lq (bT P21.out B22.out);have Qp20:=Lq hqn;have Gp20:Hid (w21.heap.size=p20):=Lq hp20;clear hbn hqa hba hqn;go_wp2_with fail;clear af0 ac0 af1 ac1 al hWa hWn hp20;refine(lO 2 (by decide) w22).mono ?_
 rintro e m ⟨D,rfl,b,a⟩;have B23:Hid (BW w22 m):=Lq a;have P23:=Lq (bT P22.out B23.out);have Pv11:=Lq b;clear a b;go_wp2_with fail;refine(GU Pv11.out).mono ?_;rintro e w24 ⟨u11,rfl,a⟩;have B24:Hid (BW m w24):=Lq a;have P24:=Lq (bT P23.out B24.out);clear a;go_wp2_with fail;refine(gu 9000 10000 w24).mono ?_;rintro e w25 ⟨rfl,a⟩;have B25:Hid (BW w24 w25):=Lq a;have P25:=Lq (bT P24.out B25.out);clear a;go_wp2_with fail;refine(iV ⟨#[107,101,101,108]⟩ 2 0 40 9000 10000 none 0 0 w25).mono ?_;rintro e w26 ⟨rfl,a⟩;have B26:Hid (BW w25 w26):=Lq a;have P26:=Lq (bT P25.out B26.out);clear a;go_wp2_with fail;refine(gu 800 900 w26).mono ?_;rintro e w27 ⟨rfl,a⟩;have B27:Hid (BW w26 w27):=Lq a;have P27:=Lq (bT P26.out B27.out);clear a;obtain⟨w28,hwn,hbn⟩:=nA w27 (.cells #[.string kL] 9);have hqn:aa w28 w27.heap.size 9 #[.string kL]:=by rw[←hwn];exact aa.new w27 9 _
 obtain⟨n,f⟩:=ex w27.heap.size;rw[f]at hqn;have B28:Hid (BW w27 w28):=Lq hbn;have P28:=Lq (bT P27.out B28.out);have Qga:=Lq hqn;clear hbn hqn;go_wp2_with fail;clear hwn f;refine(iV ⟨#[104,111,108,100,49]⟩ 1 10 29 800 900 (some ⟨n,0,none⟩) 1 1 w28).mono ?_;rintro e w29 ⟨rfl,a⟩;have B29:Hid (BW w28 w29):=Lq a;have P29:=Lq (bT P28.out B29.out);clear a;go_wp2_with fail;refine(gu 3000 3000 w29).mono ?_;rintro e w30 ⟨rfl,a⟩;have B30:Hid (BW w29 w30):=Lq a;have P30:=Lq (bT P29.out B30.out);clear a;obtain⟨w31,hwn,hbn⟩:=nA w30 (.cells #[.string hd1,.string kL] 9);have hqn:aa w31 w30.heap.size 9 #[.string hd1,.string kL]:=by rw[←hwn];exact aa.new w30 9 _
 obtain⟨o,g⟩:=ex w30.heap.size;rw[g]at hqn;have B31:Hid (BW w30 w31):=Lq hbn;have P31:=Lq (bT P30.out B31.out);have Qgb:=Lq hqn;clear hbn hqn;go_wp2_with fail;clear hwn g;refine(iV ⟨#[100,101,99,107]⟩ 1 5 24 3000 3000 (some ⟨o,0,none⟩) 2 2 w31).mono ?_;rintro e w32 ⟨rfl,a⟩;have B32:Hid (BW w31 w32):=Lq a;have P32:=Lq (bT P31.out B32.out);clear a;go_wp2_with fail;refine(gu 100 200 w32).mono ?_;rintro e w33 ⟨rfl,a⟩;have B33:Hid (BW w32 w33):=Lq a;have P33:=Lq (bT P32.out B33.out);clear a;obtain⟨w34,hwn,hbn⟩:=nA w33 (.cells #[.string hd1] 9);have hqn:aa w34 w33.heap.size 9 #[.string hd1]:=by rw[←hwn];exact aa.new w33 9 _
 obtain⟨p,h⟩:=ex w33.heap.size;rw[h]at hqn;have B34:Hid (BW w33 w34):=Lq hbn;have P34:=Lq (bT P33.out B34.out);have Qgc:=Lq hqn;clear hbn hqn;go_wp2_with fail;clear hwn h;refine(iV ⟨#[112,105,112,101,49]⟩ 5 12 30 100 200 (some ⟨p,0,none⟩) 1 1 w34).mono ?_;rintro e w35 ⟨rfl,a⟩;have B35:Hid (BW w34 w35):=Lq a;have P35:=Lq (bT P34.out B35.out);clear a;obtain⟨w36,hwn,hbn⟩:=nA w35 (.cells #[.string kL,iv 2,iv 0,iv 40,.slice none 0 0,iv 9000,iv 10000,.string hd1,iv 1,iv 10,iv 29,.slice (some ⟨n,0,none⟩) 1 1,iv 800,iv 900,.string dK,iv 1,iv 5,iv 24,.slice (some ⟨o,0,none⟩) 2 2,iv 3000,iv 3000,.string pp1,iv 5,iv 12,iv 30,.slice (some ⟨p,0,none⟩) 1 1,iv 100,iv 200] 50);have hqn:aa w36 w35.heap.size 50 #[.string kL,iv 2,iv 0,iv 40,.slice none 0 0,iv 9000,iv 10000,.string hd1,iv 1,iv 10,iv 29,.slice (some ⟨n,0,none⟩) 1 1,iv 800,iv 900,.string dK,iv 1,iv 5,iv 24,.slice (some ⟨o,0,none⟩) 2 2,iv 3000,iv 3000,.string pp1,iv 5,iv 12,iv 30,.slice (some ⟨p,0,none⟩) 1 1,iv 100,iv 200]:=by rw[←hwn];exact aa.new w35 50 _
 obtain⟨F,q⟩:=ex w35.heap.size;rw[q]at hqn;have B36:Hid (BW w35 w36):=Lq hbn;have P36:=Lq (bT P35.out B36.out);have Qgw:=Lq hqn;clear hbn hqn;have E35:=Lq B36.out;have E34:=Lq (bT B35.out E35.out);have E33:=Lq (bT B34.out E34.out);have E32:=Lq (bT B33.out E33.out);have E31:=Lq (bT B32.out E32.out);have E30:=Lq (bT B31.out E31.out);have E29:=Lq (bT B30.out E30.out);have E28:=Lq (bT B29.out E29.out);have E27:=Lq (bT B28.out E28.out);have E26:=Lq (bT B27.out E27.out);have E25:=Lq (bT B26.out E26.out);have E24:=Lq (bT B25.out E25.out);have E23:=Lq (bT B24.out E24.out);have E22:=Lq (bT B23.out E23.out);have E21:=Lq (bT B22.out E22.out);have E20:=Lq (bT B21.out E21.out);have E19:=Lq (bT B20.out E20.out);have E18:=Lq (bT B19.out E19.out);have E17:=Lq (bT B18.out E18.out);have E16:=Lq (bT B17.out E17.out);have E15:=Lq (bT B16.out E16.out);have E14:=Lq (bT B15.out E15.out);have E13:=Lq (bT B14.out E14.out);have E12:=Lq (bT B13.out E13.out);have E11:=Lq (bT B12.out E12.out);have E10:=Lq (bT B11.out E11.out);have E9:=Lq (bT B10.out E10.out);have E8:=Lq (bT B9.out E9.out);have E7:=Lq (bT B8.out E8.out);have E6:=Lq (bT B7.out E7.out);have E5:=Lq (bT B6.out E6.out);have E4:=Lq (bT B5.out E5.out);have E3:=Lq (bT B4.out E4.out);have E2:=Lq (bT B3.out E3.out);go_upto_region 12 with fail
 refine Hd (V:=w36) (p1:=p1) (p3:=p3) (p20:=p20) (by kernel_rfl) (Qp1.out.keep E3.out) (Qp3.out.keep E6.out) (Qp20.out.keep E22.out) PS1.out ((SL1.out.below E2.out (lr _)).more E2.out.size) (G9 (Qga.out.keep E28.out) (Qgb.out.keep E31.out) (Qgc.out.keep E34.out) Qgw.out) (PV10.out.below E21.out) ((RD3.out.below E8.out (lr _)).more E8.out.size) ((RD4.out.below E11.out (lr _)).more E11.out.size) ((RD5.out.below E14.out (lr _)).more E14.out.size) ((RD6.out.below E16.out (lr _)).more E16.out.size) ((RD7.out.below E16.out (lr _)).more E16.out.size) (aq.cons (i:=1) rfl (aq.cons (i:=2) rfl (aq.cons (i:=3) rfl (aq.cons (i:=4) rfl (aq.cons (i:=5) rfl (aq.cons (i:=6) rfl (aq.cons (i:=7) rfl (aq.cons (i:=8) rfl (aq.cons (i:=9) rfl (aq.cons (i:=10) rfl (aq.cons (i:=11) rfl (aq.cons (i:=12) rfl (aq.cons (i:=13) rfl (aq.cons (i:=14) rfl (aq.cons (i:=15) rfl (aq.cons (i:=16) rfl (aq.cons (i:=17) rfl (aq.cons (i:=18) rfl (aq.cons (i:=19) rfl (aq.cons (i:=20) rfl (aq.cons (i:=21) rfl (aq.cons (i:=23) rfl (aq.cons (i:=24) rfl (aq.nil rfl)))))))))))))))))))))))) (fun T W a t=>?_)
 have E:=t.get 0 _;have HB:=Lq (bT P36.out a);clear t a;go_wp2_with fail;exact bodyPost_ret (v:=.bool true) (by simp[results,Tryz.results18,E]) rfl ⟨rfl,HB.out⟩
section
variable{gone hi kg lo rest:Int}{i:Nat}
theorem IX(f:Int)(a:World)(d:fe a)(c:a.cell? ⟨0,0,none⟩=some (iv f)):Cs 6 #[] a (Rt a (.bool true)):=by
 have h:=Lq (IW f a d c);have HB:=Lq fun g (hb:BW a g)=>IV f g (d.below hb (lr _)) (kC hb c)
 clear d c;go_enter Tryz.func6,Tryz.ntmps6
 go_wp2_with fail;refine h.out.mono ?_;rintro e g ⟨rfl,(b:Hid _)⟩;go_wp2_with fail;refine(HB.out _ b.out).mono ?_;rintro e w2 ⟨rfl,hb2⟩;have HB2:=Lq (bT b.out hb2);clear hb2;go_wp2_with fail;go_ret
 exact⟨rfl,HB2.out⟩
abbrev jD:ByteArray:=⟨#[115,99,114,97,112]⟩
abbrev jE:ByteArray:=⟨#[98,101,97,99,104]⟩
abbrev ji(lo hi rest:Int)(ks:List Int):ar:=cW jD jE lo hi rest ks
theorem Bc{a:ByteArray}(b:a.size≤maxLen∧du a=true):ns [a]:=by
 intro i s hi
 match i,hi with
 | 0,hi=>injection hi with hi;subst hi;exact⟨b.1,b.2,rfl⟩
theorem IY{ks:List Int}(b:aw lo)(d:aw hi)(g:lo≤hi)(a:aw rest)(f:∀k∈ks,aw k)(j:ks.length≤10):dc (ji lo hi rest ks):=by
 unfold aw at b d a f;have l:(ji lo hi rest ks).papers.length=ks.length:=List.length_map _;refine⟨⟨lr 1,show(1:Nat)≤4 by decide⟩,⟨lr 1,show(1:Nat)≤4 by decide⟩,by rw[l];exact j,show(1:Nat)≤8 by decide,show(1:Nat)≤8 by decide,Bc ⟨by decide,by kernel_rfl⟩,Bc ⟨by decide,by kernel_rfl⟩,fun i c h=>?_,fun i c h=>?_,fun i p h=>?_⟩
 ·match i,h with
  | 0,h=>injection h with h;subst h;exact⟨⟨⟨Int.le_refl _,show(0:Int)<1 by decide⟩,⟨Int.le_refl _,show(0:Int)<1 by decide⟩,b,d,g⟩,by simp⟩
 ·match i,h with
  | 0,h=>injection h with h;subst h;exact⟨⟨⟨Int.le_refl _,show(0:Int)<1 by decide⟩,⟨Int.le_refl _,show(0:Int)<1 by decide⟩,a,a,Int.le_refl _⟩,by simp⟩
 ·have h:(ks.map fp)[i]?=some p:=h;rw[List.getElem?_map]at h;cases hks:ks[i]? with
  | none=>rw[hks]at h;cases h
  | some k =>
   rw[hks]at h;injection h with h
   subst h;exact⟨⟨Int.le_refl _,by show(0:Int)<1;decide⟩,⟨by show(-1:Int)≤0;decide,by show(0:Int)<1;decide⟩,⟨Int.le_refl _,by show(-1:Int)<1;decide⟩,by show(0:Int)≠-1;decide,f k (mG ⟨i,hks⟩),.inl rfl⟩
theorem Bd{ks l:List Int}{f:Int→Int×Int}(g:∀i k,ks[i]?=some k→dB (ji lo hi rest ks) l i (fp k)=f k)(b:aw lo)(c:aw hi)(d:aw rest)(a:∀k∈ks,0≤(f k).1∧(f k).1≤1000000∧0≤(f k).2∧(f k).2≤1000000)(o:ks.length≤10):cE (ji lo hi rest ks) l:=by
 intro m j;obtain rfl:m=0:=by have:m<1:=j;omega
 have n:=qt jD jE lo hi rest ks l f g;have h0:((0:Nat):Int)=0:=rfl;rw[h0,show ce (ji lo hi rest ks) 0 l=_ from n]
 refine⟨lU _ _ _ _ _ _ b c b d (by unfold aw;omega) ?_, ?_⟩
 ·refine List.all_eq_true.2 fun x hx=>?_
  obtain⟨k,h,rfl⟩:=List.mem_map.1 hx;have:=a k h;simp[bP];omega
 ·unfold aD;simp;omega
theorem IZ{ks:List Int}(a:aw lo)(b:aw hi)(c:aw rest)(d:∀k∈ks,aw k)(f:ks.length≤10):cE (ji lo hi rest ks) [] :=
 Bd (sZ jD jE lo hi rest ks) a b c (fun k h=>by have:=d k h;unfold aw at this;exact⟨this.1,this.2,this.1,this.2⟩) f
theorem I0{ks:List Int}(a:aw lo)(b:aw hi)(c:aw rest)(d:ks.length≤10):cE (ji lo hi rest ks) (bC (-1) ks.length) :=
 Bd (f:=fun _=>(0,1000000)) (AM jD jE lo hi rest ks) a b c (fun _ _=>by decide) d
theorem I1(n:Nat):∃R,jg n=[]++[]::R:=by
 refine⟨(List.range n).flatMap fun k=>gD n (k+1) [] 0, ?_⟩
 unfold jg jB;rw[List.range_succ_eq_map];simp[gD,List.flatMap_map]
structure kv(ps:List ah)(i:Nat)(sent ks:List Int)(rest gone:Int):Prop where
 lt:∀x∈sent,x<(i:Int)
 len:ks.length=sent.length∧sent.length≤10
 inK:∀k∈ks,aw k
 sum:ks.sum=gone
 pos:0≤rest∧0≤gone
 all:((ps.take i).map ah.wlo).sum≤rest+gone∧rest+gone≤((ps.take i).map ah.whi).sum
 own:dh ah.wlo sent ps i≤gone∧gone≤dh ah.whi sent ps i
theorem kv.start(a:List ah):kv a 0 [] [] 0 0:=⟨by simp,by simp,by simp,rfl,by simp,by simp,by simp[dh]⟩
theorem Be{f:ah→Int}{a:List Int}{c:List ah}{x:Int}:∀j:Nat,(j:Int)≤x→dh f (a++[x]) c j=dh f a c j:=fun j d=>by
 unfold dh
 congr 1
 refine List.map_congr_left fun n b=>?_
 have b:=List.mem_range.1 b;have:(a++[x]).contains (n:Int)=a.contains (n:Int):=by rw[List.contains_eq_mem,List.contains_eq_mem,decide_eq_decide,List.mem_append,List.mem_singleton];exact⟨fun h=>h.elim id fun h=>by omega,.inl⟩
 rw[this]
theorem oS{f:ah→Int}{a:List ah}{p:ah}(h:a[i]?=some p):((a.take (i+1)).map f).sum=((a.take i).map f).sum+f p:=by rw[List.take_add_one,h];simp
theorem kv.put{c:List ah}{a ks:List Int}{p:ah}(h:kv c i a ks rest gone)(b:c[i]?=some p)(g:p.wlo≤kg∧kg≤p.whi)(f:0≤p.wlo∧p.whi≤1000000)(j:a.length<10):kv c (i+1) (a++[(i:Int)]) (ks++[kg]) rest (gone+kg):=by
 have hi:(a++[(i:Int)]).contains (i:Int)=true:=List.contains_iff_mem.2 (by simp)
 have d:=h.all;have a2:=h.own;have a3:=h.pos;refine⟨fun x hx=>?_, ?_,fun k hk'=>?_, ?_,by omega, ?_, ?_⟩
 ·rcases List.mem_append.1 hx with hx | hx
  ·have:=h.lt x hx;omega
  ·rw[List.mem_singleton.1 hx];omega
 ·have:=h.len;simp;omega
 ·rcases List.mem_append.1 hk' with hk' | hk'
  ·exact h.inK k hk'
  ·rw[List.mem_singleton.1 hk'];unfold aw;omega
 ·rw[List.sum_append,h.sum];simp
 ·rw[oS b,oS b];omega
 ·rw[mu b,mu b,hi,Be i (Int.le_refl _),Be i (Int.le_refl _)];simp only[if_true];omega
theorem kv.leave{c:List ah}{a ks:List Int}{p:ah}(h:kv c i a ks rest gone)(b:c[i]?=some p)(g:p.wlo≤kg∧kg≤p.whi)(f:0≤p.wlo):kv c (i+1) a ks (rest+kg) gone:=by
 have hi:a.contains (i:Int)=false:=by rw[List.contains_eq_mem];exact decide_eq_false fun h2=>by have:=h.lt _ h2;omega
 have d:=h.all;have a2:=h.own;have a3:=h.pos;refine⟨fun x hx=>by have:=h.lt x hx;omega,h.len,h.inK,h.sum,by omega, ?_, ?_⟩
 ·rw[oS b,oS b];omega
 ·rw[mu b,mu b,hi];simp only[Bool.false_eq_true,if_false];omega
theorem I2{a:List ah}(h:aE a):fN 0 40 a=(a.map ah.wlo).sum∧fO 0 40 a=(a.map ah.whi).sum:=by
 have c:∀p∈a,lv 0 40 p=p.wlo∧lw 0 40 p=p.whi:=fun p b=>by
  obtain⟨i,hi⟩:=List.mem_iff_getElem?.1 b;have hf:=(h.part i p hi).fr;have e:kG 0 40 p=fE p:=by unfold kG fE;omega
  have d:1≤fE p:=by unfold fE;omega
  unfold lv lw;rw[e];refine⟨Int.mul_tdiv_cancel _ (by omega), ?_⟩
  have f:=(h.part i p hi).wt;rw[Int.tdiv_eq_ediv_of_nonneg (by have:0≤p.whi*fE p:=Int.mul_nonneg (by omega) (by omega);omega)]
  rw[show p.whi*fE p+fE p-1=(fE p-1)+p.whi*fE p by omega,Int.add_mul_ediv_right _ _ (by omega),Int.ediv_eq_zero_of_lt (by omega) (by omega)]
  omega
 unfold fN fO;exact⟨by rw[List.map_congr_left fun p b=>(c p b).1],by rw[List.map_congr_left fun p b=>(c p b).2]⟩
end
attribute [local go_sem] Oper.semAt_some
noncomputable def I3:Array Oper:=aU (aF Tryz.f3 18)
theorem az.only{w W:World}{A:Option Addr}{cap g:Nat}{ms:List aj}(h:az w w.heap.size A cap ms)(d:ai w W g)(f:∀(o:Nat) s,w.cell? ⟨g,o,none⟩≠some (.string s)):az W W.heap.size A cap ms:=by
 have n:∀(b o:Nat) v,b≠g→b<w.heap.size→cA w b o v→cA W b o v:=fun b o v hb c hc=>(World.cell?_of_block (w:=w) (a:=⟨b,o,none⟩) (d.block b c hb)).trans hc
 have p:∀{A:Option Addr} {l:List ByteArray},am .string w w.heap.size A l→am .string W W.heap.size A l:=fun{A l} h i x hx=>by obtain⟨b,o,e,c,hc⟩:=h i x hx;exact⟨b,o,e,lz c d.size,n b _ _ (fun eb=>by subst eb;exact f _ _ hc) c hc⟩
 refine⟨⟨fun i x hx=>?_,fun m hm=>?_⟩,h.le,h.max,h.nil0,fun a ha=>⟨(h.off a ha).1,lz (h.off a ha).2 d.size⟩⟩
 ·obtain⟨b,o,e,c,hc⟩:=h.rd.rd i x hx;have h0:=hc 0 _ rfl;exact⟨b,o,e,lz c d.size,fun j v hv=>n b _ _ (fun eb=>by subst eb;exact f _ _ h0) c (hc j v hv)⟩
 ·have k:=h.rd.ok m hm;exact⟨p k.on,k.le,k.cm,k.nm,k.ons,k.sz⟩
theorem I4{l:List Int}(h:∀x∈l,0≤x):0≤l.sum:=by
 induction l with
 | nil=>exact Int.le_refl 0
 | cons x l ih =>
  rw[List.sum_cons];have a:=h x (List.mem_cons_self ..);have h2:=ih fun y hy=>h y (List.mem_cons_of_mem _ hy)
  omega
theorem Bg{a:List ah}(h:aE a):∀i:Nat,i≤a.length→((a.take i).map ah.whi).sum≤1000000*(i:Int)
 | 0,_=>by simp
 | i+1,hi=>by
  obtain⟨p,b⟩:=gX (l:=a) (i:=i) (by omega)
  have c:=Bg h i (by omega)
  have d:=(h.part i p b).wt;rw[oS b];omega
theorem I5(A C AT:Option Addr)(ms:List aj)(cs:List ao)(ts:List Int)(cap E I:Nat)(xd xb mm:Int)(w:World)(HM:az w w.heap.size A cap ms)(HC:de w w.heap.size C E cs)(HW:∀c∈cs,Lit.wf (.int .i64 c.what)=true)(bg:am (Value.int .u32) w w.heap.size AT ts)(aJ:ts.length≤maxLen)(bf:∀t∈ts,0≤t∧t≤4294967295)(bE:0≤xd∧xd≤65535)(hP:fe w)(hL:w.cell? ⟨0,0,none⟩=some (iv mm)) :
  Cs 3 #[.agg #[.slice A ms.length cap,.slice C cs.length E],.agg #[.int .u16 xd,.int .u16 xb,.slice AT ts.length I]] w (Rt w (.bool true)):=by
 obtain⟨W1,a7,b1⟩:=nA w (.cells #[.slice A ms.length cap,.slice C cs.length E] 27);obtain⟨gp,hgp⟩:=ex w.heap.size;obtain⟨W2,hW2,b2⟩:=nA W1 (.cells #[.int .u16 xd,.int .u16 xb,.slice AT ts.length I] 31);obtain⟨gx,hgx⟩:=ex W1.heap.size;have q1:=hgp▸bB a7 b2;have q2:=hgx▸bB hW2 (bR W2);have HB2:=Lq (bT b1 b2);have HQP:Hid (∀W,BW W2 W→aa W gp 27 #[.slice A ms.length cap,.slice C cs.length E]):=Lq fun W D=>q1.keep D
 have a3:Hid (∀W,BW W2 W→aa W gx 31 #[.int .u16 xd,.int .u16 xb,.slice AT ts.length I]):=Lq fun W D=>q2.keep D
 have aQ:Hid (∀W,BW w W→Cs 6 #[] W (Rt W (.bool true))):=Lq fun W D=>IX mm W (hP.below D (lr _)) (kC D hL)
 have ae:Hid (∀W,BW w W→az W w.heap.size A cap ms∧de W w.heap.size C E cs):=Lq fun W D=>⟨HM.below D (lr _),HC.below D (lr _)⟩
 have bs:Hid (∀W,BW w W→am (Value.int .u32) W w.heap.size AT ts):=Lq fun W D=>bg.below D (lr _)
 have br:=Lq bf;have HTL:=Lq aJ;have HWW:=Lq HW;obtain⟨x0,x1⟩:=q1.c2;obtain⟨y0,y1,y2⟩:=q2.c3;obtain⟨dy,hdy⟩:=ex (xd%40001);have hdm:xd.tmod 40001=dy:=by rw[←hdy];exact Int.tmod_eq_emod_of_nonneg bE.1
 have a8:0≤dy∧dy≤40000:=by omega
 have bm:Hid (inB 0 40000 dy=true∧0≤dy):=Lq ⟨by unfold inB;simp;omega,a8.1⟩
 have a6:Hid (Cs 4 #[.agg #[.slice A ms.length cap,.slice C cs.length E],iv dy,iv 0,iv 40] W2 (uH ms cs dy 0 40 W2)):=Lq (uI A C ms cs w.heap.size cap E dy 0 40 W2 HB2.out.size (ae.out _ HB2.out).1 (ae.out _ HB2.out).2 HW);clear HM HC HW bg aJ bf hP hL b1 b2 q1 q2;go_enter Tryz.func3,Tryz.ntmps3
 go_wp2_with fail;clear a7 hW2 hgp hgx y0 y1 y2 hdm hdy x0 x1;refine a6.out.mono ?_;rintro e w3 ⟨R,L,r,rfl,D,N,aM⟩;obtain⟨Wa,V3,hWa,hWb,hbb,qa,hba,qb⟩:=fm w3 33 (iv 0) (iv 0) (iv R) (iv L);obtain⟨g6,hg6⟩:=ex w3.heap.size;rw[hg6]at hWb qa qb;obtain⟨f0,f1⟩:=qa.f2;obtain⟨e0,e1⟩:=qa.c2;have el:=qa.lt;have HB3:Hid (BW W2 V3):=Lq (bT D hbb);have HQ6:=Lq qb;have HR:=Lq (And.intro N aM);have q1:=HQP.out _ HB3.out;obtain⟨x0,x1⟩:=q1.c2;have HCK:=Lq (Cq A C ms cs w.heap.size cap E V3 (bT HB2.out HB3.out).size (ae.out _ (bT HB2.out HB3.out)).1 (ae.out _ (bT HB2.out HB3.out)).2);clear D hbb qa hba qb N aM q1 a6;go_wp2_with fail;clear f0 f1 e0 e1 el hWa hWb hg6 x0 x1;refine HCK.out.mono ?_;rintro e w4 ⟨p1,i1,r2,rfl,N,D⟩;have HB4:=Lq (bT HB3.out D);have HY4:=Lq (bT HB2.out HB4.out);have HQ64:=Lq (HQ6.out.keep D);obtain⟨x0,x1⟩:=HQ64.out.c2;have HRI:=Lq N;clear D N HCK;have hrr:(r=0↔r2=0):=by rw[HR.out.1,HRI.out];exact⟨fun h=>h.1.1,fun h=>⟨⟨h,bm.out.1⟩,by decide,by decide⟩⟩
 by_cases h1:r2=0
 case neg =>
  have aS:¬r=0:=fun h=>h1 (hrr.1 h)
  have bO:(r2 != 0)=true:=by simpa using h1
  have bP:decide (r2=0)=false:=decide_eq_false h1;have aG:decide (r=0)=false:=decide_eq_false aS;have h1bb:(r2==0)=false:=by simpa using h1
  have bI:(r==0)=false:=by simpa using aS
  clear hrr;go_wp2_with fail;refine(aQ.out _ HY4.out).mono ?_;rintro e v9 ⟨rfl,D⟩;have Y9:=Lq (bT HY4.out D);clear D;go_wp2_with fail;go_ret
  exact⟨rfl,Y9.out⟩
 subst h1;obtain rfl:r=0:=hrr.2 rfl;clear hrr;by_cases hbig:1000000<L
 case pos =>
  go_wp2_with fail;refine(aQ.out _ HY4.out).mono ?_;rintro e v9 ⟨rfl,D⟩;have Y9:=Lq (bT HY4.out D);clear D;go_wp2_with fail;go_ret
  exact⟨rfl,Y9.out⟩
 have a2:=Lq (HRI.out.1 rfl);obtain⟨hlo,hhi⟩:=HR.out.2 rfl;have hso:=kT a2.out dy;obtain⟨ps,hps⟩:=ex (aA dy (ab ms) (an cs));rw[hps]at hlo hhi hso;have hww:=I2 hso;rw[hww.1]at hlo;rw[hww.2]at hhi;have HLH:=Lq (And.intro hlo hhi);have HSO:=Lq hso;have HPS:=Lq hps;have hbd:¬(1000000<L):=hbig;have hbdd:decide (1000000<L)=false:=decide_eq_false hbig;obtain⟨V5,hV5,b5⟩:=nA w4 (.cells #[.string jD] 9);obtain⟨gk,hgk⟩:=ex w4.heap.size;obtain⟨V6,hV6,b6⟩:=nA V5 (.cells #[.string jE] 9);obtain⟨gl,hgl⟩:=ex V5.heap.size;obtain⟨V7,hV7,b7⟩:=nA V6 (.cells #[iv 0,iv 0,iv R,iv L] 42);obtain⟨gf,hgf⟩:=ex V6.heap.size;have HQK:Hid (aa V7 gk 9 #[.string jD]):=Lq (hgk▸bB hV5 (bT b6 b7));have HQL:Hid (aa V7 gl 9 #[.string jE]):=Lq (hgl▸bB hV6 b7);have HQF:Hid (aa V7 gf 42 #[iv 0,iv 0,iv R,iv L]):=Lq (hgf▸bB hV7 (bR V7));have HB7:=Lq (bT HB4.out (bT b5 (bT b6 b7)));have zA:=kC b5 (kC (bR w4) x0);obtain⟨c60,c61⟩:V6.cell? ⟨g6,0,none⟩=some (iv R)∧cA V6 g6 1 (iv L):=⟨kC (bT b5 b6) x0,kC (bT b5 b6) x1⟩;obtain⟨Wa,V8,hWa,hWb,hbb,qa,hba,qb⟩:=fh V7 46 (.slice none 0 0) (.slice none 0 0) (.slice none 0 0) (.slice none 0 0) (.slice none 0 0) (.slice (some ⟨gk,0,none⟩) 1 1) (.slice (some ⟨gl,0,none⟩) 1 1) (.slice (some ⟨gf,0,none⟩) 1 1) (.slice none 0 0) (.slice none 0 0);obtain⟨g11,hg11⟩:=ex V7.heap.size;rw[hg11]at hWb qa qb;obtain⟨f0,f1,f2,f3,f4⟩:=qa.f5;obtain⟨e0,e1,e2,e3,e4⟩:=qa.c5;have el:=qa.lt;have HQ8:=Lq qb;have HB78:=Lq hbb;have HG11:Hid (V7.heap.size≤g11):=Lq (Nat.le_of_eq hg11);have HB8:=Lq (bT HB7.out hbb);have q1:=HQP.out _ HB8.out;obtain⟨p0,p1'⟩:_∧_:=⟨q1.c 0,q1.c 1⟩;have HPT:=Lq (DD A C ms cs w.heap.size cap E dy V8 (bT HB2.out HB8.out).size (ae.out _ (bT HB2.out HB8.out)).1 (ae.out _ (bT HB2.out HB8.out)).2 a2.out);clear b5 b6 b7 hbb qa hba qb q1 zA hlo hhi hso hps hww;go_wp2_with fail;clear f0 f1 f2 f3 f4 e0 e1 e2 e3 e4 el hWa hWb hg11 hV5 hV6 hV7 hgk hgl hgf c60 c61 p0 p1' x0 x1;refine HPT.out.mono ?_;rintro e W9 ⟨out,AO,co,rfl,hpo,hsl,D⟩;rw[HPS.out]at hpo;have HPO:=Lq hpo;have HSL:=Lq hsl;have HQ9:=Lq (HQ8.out.keep D);have HB79:=Lq (bT HB78.out D);have HB9:=Lq (bT HB8.out D);have hlen:out.length=ps.length:=by rw[←hpo];simp
 have bU:out.length≤12:=by have:=HSO.out.len;omega
 have aK:=Lq (kv.start ps);have HLEN:=Lq hlen;have hgg:g11<W9.heap.size:=HQ9.out.lt;clear hpo hsl D hlen HPT;go_wp2_with fail;go_loopw [13,14,15,16] (fun vs vr vg vi wr=>∃(i:Nat) (vS vP:Value) (a ks:List Int) (rest d:Int),i≤out.length∧vs=vS∧vr=iv rest∧vg=iv d∧vi=iv i∧Hid (wr.ownsRow W9.heap.size 3 1 vS a.length (a.map iv))∧Hid (wr.ownsRow W9.heap.size 53 5 vP ks.length ((ks.map fp).flatMap iS))∧Hid (aa wr g11 46 #[.slice (some ⟨gk,0,none⟩) 1 1,.slice (some ⟨gl,0,none⟩) 1 1,.slice (some ⟨gf,0,none⟩) 1 1,vP,.slice none 0 0])∧Hid (ai W9 wr g11)∧Hid (kv ps i a ks rest d)) (fun _ _ _ vi _=>out.length-(intOf vi).toNat)
 case atStart=>exact⟨0,_,_,[],[],0,0,Nat.zero_le _,rfl,rfl,rfl,rfl,Lq (World.ownsRow_nil _ _ _ _),Lq (World.ownsRow_nil _ _ _ _),HQ9,Lq (ai.of_below (bR W9) g11),aK⟩
 case round =>
  clear aK;obtain⟨i,vS,vP,a,ks,rest,d,bx,rfl,rfl,rfl,rfl,ar,aq,KB,HO,F⟩:=hrel;have hi0:=nn i;have hbr:BW V7 wr:=HO.out.below HB79.out HG11.out;have HBR:=Lq (bT HB7.out hbr);have HB7R:=Lq hbr;have hslw:az wr wr.heap.size AO co out:=HSL.out.only HO.out (fun o s hc=>by have hq:=HQ9.out;rw[hq.cell]at hc;rcases o with _ | _ | _ | _ | _ | o<;>cases hc)
  have a5:=Lq hslw;by_cases hlt:i<out.length
  case neg =>
   obtain rfl:i=out.length:=by omega
   obtain⟨AS,cS,rfl⟩:=gK ar.out;obtain⟨AP,cP,rfl⟩:=gK aq.out;have hse:=F.out;rw[HLEN.out]at hse;have hall:=hse.all;rw[List.take_of_length_le (lr _),←HLH.out.1,←HLH.out.2]at hall;obtain⟨r0,g0⟩:=hse.pos;have hi1:L≤1000000:=by omega
   have ba:0≤R:=by
    rw[HLH.out.1];exact I4 (fun x hx=>by obtain⟨p,hp,rfl⟩:=List.mem_map.1 hx;obtain⟨j,hj⟩:=List.mem_iff_getElem?.1 hp;have:=(HSO.out.part j p hj).wt;omega)
   have Z:aw R:=by unfold aw;omega
   have Y:aw L:=by unfold aw;omega
   have ac:aw rest:=by unfold aw;omega
   have aW:aw ks.sum:=by rw[hse.sum];unfold aw;omega
   have aF:ks.length≤10:=by have:=hse.len;omega
   have bd:a.length≤10:=hse.len.2;have hOk:=IY (rest:=rest) Z Y (by omega) ac hse.inK aF
   have aC:=IZ (rest:=rest) Z Y ac hse.inK aF;have hWA:=I0 (ks:=ks) (rest:=rest) Z Y ac aF;have hC0:=Io jD jE R L rest ks hse.inK aW.1 Z Y ac (by rw[hse.sum];omega) (by rw[hse.sum];omega)
   have av:=Ip jD jE R L rest ks (fun h=>by have h2:=List.length_eq_zero_iff.1 h;have h3:=hse.sum;rw[h2]at h3;simp at h3;omega) Z Y ac (by omega)
   obtain⟨es,aB,es2,af⟩:=Ir jD jE R L rest ks hse.inK aW Z Y ac (by rw[hse.sum];omega) (by rw[hse.sum];omega)
   rw[hse.sum]at af;have aL:=hse.own;have hpn:(ji R L rest ks).papers.length=ks.length:=List.length_map _;rw[←hpn]at hWA av;obtain⟨RL,hRL⟩:=I1 (ji R L rest ks).papers.length;obtain⟨V20,hV20,b20⟩:=nA wr (.cells #[iv 0,iv 0,iv rest,iv rest] 42);obtain⟨gz,hgz⟩:=ex wr.heap.size;have q20:=hgz▸bB hV20 (bR V20);have kb20:=KB.out.keep b20;obtain⟨V21,hV21⟩:=ex (V20.setCell ⟨g11,4,none⟩ (.slice (some ⟨gz,0,none⟩) 1 1));have kb21:aa V21 g11 46 #[.slice (some ⟨gk,0,none⟩) 1 1,.slice (some ⟨gl,0,none⟩) 1 1,.slice (some ⟨gf,0,none⟩) 1 1,.slice AP ks.length cP,.slice (some ⟨gz,0,none⟩) 1 1]:=by
    rw[←hV21];have h:=kb20.set_ 4 (.slice (some ⟨gz,0,none⟩) 1 1)
    simpa using h
   have X:∀{b:Nat} {t:TypeId} {cs:Array Value},aa V20 b t cs→t≠46→aa V21 b t cs:=fun{b t cs} h ht=>by rw[←hV21];exact h.far (p:=⟨g11,4,none⟩) (bF h kb20 ht) _
   have aE:BW V7 V20:=bT HB7R.out b20;have row:V21.ownsRow W9.heap.size 53 5 (.slice AP ks.length cP) (ks.map fp).length ((ks.map fp).flatMap iS):=by rw[List.length_map];exact jW (aN aq.out b20) fun k cur _ hB=>(X hB (by decide)).trans hB.symm
   obtain⟨bj,bu,eP,bh, -,aX,aP⟩:=jp (encs:=iS) (fun _=>rfl) row
   obtain⟨rfl,rfl⟩:AP=bj∧cP=bu:=by
    injection eP with e1 e2 e3
    exact⟨e1,e3⟩
   rw[List.length_map]at aX;have ag:ak (ji R L rest ks) ⟨some ⟨gk,0,none⟩,some ⟨gl,0,none⟩,some ⟨gf,0,none⟩,AP,some ⟨gz,0,none⟩,1,1,1,cP,1⟩=#[.slice (some ⟨gk,0,none⟩) 1 1,.slice (some ⟨gl,0,none⟩) 1 1,.slice (some ⟨gf,0,none⟩) 1 1,.slice AP ks.length cP,.slice (some ⟨gz,0,none⟩) 1 1]:=by simp[ak,cW]
   have m1:(1:Nat)≤maxLen:=by unfold maxLen;omega
   have aG:aO V21 V21.heap.size (ji R L rest ks) ⟨some ⟨gk,0,none⟩,some ⟨gl,0,none⟩,some ⟨gf,0,none⟩,AP,some ⟨gz,0,none⟩,1,1,1,cP,1⟩ :=
    ⟨aa.rd1 (xs:=[jD]) (X (HQK.out.keep aE) (by decide)),aa.rd1 (xs:=[jE]) (X (HQL.out.keep aE) (by decide)),aa.rdN (k:=4) (enc:=dq) (fun _=>rfl) (xs:=[⟨0,0,R,L⟩]) (X (HQF.out.keep aE) (by decide)),bh,aa.rdN (k:=4) (enc:=dq) (fun _=>rfl) (xs:=[⟨0,0,rest,rest⟩]) (X q20 (by decide)),⟨lr 1,m1⟩,⟨lr 1,m1⟩,⟨lr 1,m1⟩,⟨by rw[hpn];exact aX,aP⟩,⟨lr 1,m1⟩,by intro s hs;rw[List.mem_singleton.1 hs];decide,by intro s hs;rw[List.mem_singleton.1 hs];decide⟩
   obtain⟨y,hy⟩:=ex (ji R L rest ks);obtain⟨YA,hYA⟩:=ex (⟨some ⟨gk,0,none⟩,some ⟨gl,0,none⟩,some ⟨gf,0,none⟩,AP,some ⟨gz,0,none⟩,1,1,1,cP,1⟩:aI);have hpl:y.places.length+2=3:=by rw[←hy];rfl
   have a9:(0:Int)≤0∧(0:Int)<y.kinds.length:=by rw[←hy];exact⟨Int.le_refl _,show(0:Int)<1 by decide⟩
   rw[hy,hYA]at ag aG;rw[hy]at hOk aC hWA hRL av;rw[show cW jD jE R L rest ks=y from hy]at hC0 av aB af
   have aB:dW (y.places.length+2) 3 (ce y 0 [])=some (true,es):=by rw[hpl];exact aB
   have af:jC (y.places.length+2) ((ce y 0 []).length-1) 1 es=some ((d,d),es2):=by rw[hpl];exact af
   have bM:=Lq ag;have hnl:∀W:World,am iv W W.heap.size none []:=fun W i x h=>by simp at h
   have aV:jb y.papers.length []:=fun k x h=>by simp at h
   have bn:Hid (∀W,aO W W.heap.size y YA→Cs 8 #[.agg #[.slice (some ⟨gk,0,none⟩) 1 1,.slice (some ⟨gl,0,none⟩) 1 1,.slice (some ⟨gf,0,none⟩) 1 1,.slice AP ks.length cP,.slice (some ⟨gz,0,none⟩) 1 1],.slice none 0 0] W (Rt W (.tuple #[.bool true,iv 0]))):=Lq fun W h=>ag▸sK y YA W.heap.size none [] 0 3 true W h (lr _) hOk (Nat.zero_le _) (hnl W) aV aC hC0
   have bp:Hid (∀W,aO W W.heap.size y YA→Cs 9 #[.agg #[.slice (some ⟨gk,0,none⟩) 1 1,.slice (some ⟨gl,0,none⟩) 1 1,.slice (some ⟨gf,0,none⟩) 1 1,.slice AP ks.length cP,.slice (some ⟨gz,0,none⟩) 1 1]] W fun e w'=>∃v,e=.returned (.tuple #[v,iv 0])∧BW W w'∧w'.ownsRow W.heap.size 3 1 v 0 []):=Lq fun W h=>ag▸Ar y YA W.heap.size 3 W h (lr _) hOk hWA av [] [] RL hRL (fun s hs=>by simp at hs) ⟨Nat.zero_le _,aC,hC0⟩
   have aZ:Hid (∀W,aO W W.heap.size y YA→Cs 10 #[.agg #[.slice (some ⟨gk,0,none⟩) 1 1,.slice (some ⟨gl,0,none⟩) 1 1,.slice (some ⟨gf,0,none⟩) 1 1,.slice AP ks.length cP,.slice (some ⟨gz,0,none⟩) 1 1],.slice none 0 0,iv 0] W (Rt W (.tuple #[.agg #[iv d,iv d],iv 0]))):=Lq fun W h=>ag▸AU y YA W.heap.size none [] 0 3 0 d d true es es2 W h (lr _) hOk (Nat.zero_le _) (hnl W) aV aC hC0 a9 aB 1 af
   obtain⟨s1,aT⟩:=ex (dh ah.wlo a ps out.length);obtain⟨s2,hs2⟩:=ex (dh ah.whi a ps out.length);rw[←HLEN.out,aT,hs2]at aL;obtain⟨hge,hle⟩:=aL;have rowS:V21.ownsRow W9.heap.size 3 1 (.slice AS a.length cS) a.length (a.map iv):=jW (aN ar.out b20) fun k cur _ hB=>(X hB (by decide)).trans hB.symm
   obtain⟨bk,bv,eS,bi, -, -⟩:=fS rowS;obtain⟨rfl,rfl⟩:AS=bk∧cS=bv:=by
    injection eS with e1 e2 e3
    exact⟨e1,e3⟩
   have bc:ai wr V21 g11:=by rw[←hV21];exact(ai.of_below b20 g11).set 4 _
   have aD:az V21 V21.heap.size AO co out:=HSL.out.only (HO.out.join bc) (fun o s hc=>by have hq:=HQ9.out;rw[hq.cell]at hc;rcases o with _ | _ | _ | _ | _ | o<;>cases hc)
   have a0:Hid (∀W,BW V21 W→Cs 11 #[.slice AO out.length co,.slice AS a.length cS,.bool true] W (Rt W (.agg #[iv s1,iv s2]))):=Lq fun W h=>by
    have k:=Fe AO AS out a V21.heap.size co cS W h.size (aD.below h (lr _)) (bi.below h (lr _)) (by unfold maxLen;omega) (by rw[HPO.out];exact HSO.out)
    rw[HPO.out,aT,hs2]at k;exact k
   have al:Hid (∀W,BW V21 W→aO W W.heap.size y YA):=Lq fun W h=>(aG.below h (lr _)).more h.size
   have aY:Hid (BW w V21):=Lq (by rw[←hV21];exact aH (bT HB2.out (bT HBR.out b20)) (by have h1:=HG11.out;have h2:=(bT HB2.out HB7.out).size;show w.heap.size≤g11;omega) (p:=⟨g11,4,none⟩) _)
   have a1:=Lq kb21;have kf:=kb20.frozen 4;have kc:=kb20.c 4;have kl:=kb20.lt;obtain⟨x0,x1,x2,x3,x4⟩:=kb21.c5;clear hslw hbr hse hall hi1 ba Z Y ac aW aF bd hOk aC hWA hC0 av aB af hpn hRL q20 kb20 kb21 X aE row eP bh aX aP m1 aG hpl a9 ag hnl aV rowS eS bi bc aD aT hs2 b20 hy hYA;have hge':s1≤d:=hge;go_wp2_with fail;refine(bn.out _ (al.out _ (bR _))).mono ?_;rintro e u1 ⟨rfl,(HU1:Hid _)⟩;clear x0 x1 x2 x3 x4 kf kc kl hV20 hV21 hgz;have q:=a1.out.keep HU1.out;obtain⟨x0,x1,x2,x3,x4⟩:=q.c5;clear q;go_wp2_with fail;refine(bp.out _ (al.out _ HU1.out)).mono ?_;rintro e u2 ⟨v2,rfl,hb2,hown2⟩;obtain⟨A2,c2,rfl⟩:=gK hown2;have HU2:=Lq (bT HU1.out hb2);clear hb2 hown2 x0 x1 x2 x3 x4;have q:=a1.out.keep HU2.out;obtain⟨x0,x1,x2,x3,x4⟩:=q.c5;clear q;go_wp2_with fail;refine(aZ.out _ (al.out _ HU2.out)).mono ?_;rintro e u3 ⟨rfl,hb3⟩;clear x0 x1 x2 x3 x4;obtain⟨Wa,V22,hWa,hWb,hbb,qa,hba,qb⟩:=fm u3 33 (iv 0) (iv 0) (iv d) (iv d);obtain⟨g23,hg23⟩:=ex u3.heap.size;rw[hg23]at hWb qa qb;obtain⟨f0,f1⟩:=qa.f2;obtain⟨e0,e1⟩:=qa.c2;have el:=qa.lt;have HU3:=Lq (bT HU2.out (bT hb3 hbb));have HQ23:=Lq qb;have HFB:=Lq (a0.out _ HU3.out);clear hb3 hbb qa hba qb;go_wp2_with fail;refine HFB.out.mono ?_;rintro e u4 ⟨rfl,hb4⟩;clear f0 f1 e0 e1 el hWa hWb hg23;obtain⟨Wa,V23,hWa,hWb,hbb,qa,hba,qb⟩:=fm u4 33 (iv 0) (iv 0) (iv s1) (iv s2);obtain⟨g25,hg25⟩:=ex u4.heap.size;rw[hg25]at hWb qa qb;obtain⟨f0,f1⟩:=qa.f2;obtain⟨e0,e1⟩:=qa.c2;have el:=qa.lt;obtain⟨d0,d1⟩:=qb.c2;have q:=HQ23.out.keep (bT hb4 hbb);obtain⟨j0,j1⟩:=q.c2;have HU4:=Lq (bT aY.out (bT HU3.out (bT hb4 hbb)));clear hb4 hbb qa hba qb q HFB;go_wp2_with fail;clear f0 f1 e0 e1 el hWa hWb hg25 d0 d1 j0 j1;refine(aQ.out _ HU4.out).mono ?_;rintro e v9 ⟨rfl,D⟩;have Y9:=Lq (bT HU4.out D);clear D;go_wp2_with fail;go_ret
   exact⟨rfl,Y9.out⟩
  obtain⟨m,hm⟩:=gX (l:=out) (i:=i) hlt;have hpi:ps[i]?=some m.p:=by rw[←HPO.out];exact bN hm
  obtain⟨bo,oo,bw, -, -, -, -, -, -, -,c5,c6⟩:=hslw.rd.at hm;obtain⟨⟨yn,yk,yf,yl,yon,yw,yz⟩,yA,yc⟩:=m;subst bw;simp only at c5 c6 hpi;have hwt:=(HSO.out.part i _ hpi).wt;simp only at hwt;have HPI:=Lq hpi;have HWT:Hid (0≤yw∧yz≤1000000):=Lq (by omega)
  have bb:=a5.out.max;have hle:=a5.out.le;unfold maxLen at bb;obtain⟨AS,cS,rfl⟩:=gK ar.out;obtain⟨AP,cP,rfl⟩:=gK aq.out;obtain⟨Wa,V10,hWa,hWb,hbb,qa,hba,qb⟩:=fm wr 33 (iv 0) (iv 0) (iv yw) (iv yz);obtain⟨g17,hg17⟩:=ex wr.heap.size;rw[hg17]at hWb qa qb;obtain⟨f0,f1⟩:=qa.f2;obtain⟨e0,e1⟩:=qa.c2;have el:=qa.lt;obtain⟨d0,d1⟩:=qb.c2;have HQ17:=Lq qb;have HB10:=Lq hbb;have qx:=a3.out _ (bT HBR.out hbb);obtain⟨y0,y1,y2⟩:=qx.c3;obtain⟨aS,hg0⟩:=F.out.pos;have hsa:=F.out.all;have hwl:=Bg HSO.out i (by rw[←HLEN.out];exact bx)
  have bV:rest≤12000000:=by omega
  have bQ:d≤12000000:=by omega
  clear hm hslw hbr hbb qa hba qb qx hpi hsa hwl;obtain⟨T,aR⟩:=ex ts.length;have hn0:=nn T;have hntm:T≤9223372036854775807:=by have:=HTL.out;unfold maxLen at this;omega
  rw[aR]at y2;have bq:=Lq aR;clear aR;obtain⟨i3,hi3,hz30,hz31,hz32⟩:=info_parts Tryz.info3;obtain⟨i5,hi5,hz50,hz51,hz52⟩:=info_parts Tryz.info53;by_cases ht0:T=0
  case pos =>
   subst ht0;have U:Hid (yw≤yw∧yw≤yz):=Lq (by omega)
   have bl:=Lq (bT HBR.out HB10.out);have OWX:=Lq (aN ar.out HB10.out);have OPX:=Lq (aN aq.out HB10.out);have KBX:=Lq (KB.out.keep HB10.out);have HOX:=Lq (HO.out.join (ai.of_below HB10.out g11));by_cases hz:(xb/2^i).tmod 2=1
   case neg =>
    have G:=Lq (F.out.leave HPI.out (kg:=yw) U.out HWT.out.1);go_wp2_with fail;go_roundw
    case measure=>simp[intOf];omega
    case rel=>exact⟨i+1,.slice AS a.length cS,.slice AP ks.length cP,a,ks,rest+yw,d,by omega,rfl,rfl,rfl,by go_num,OWX,OPX,KBX,HOX,G⟩
   by_cases hs9:a.length<10
   case neg =>
    have bz:¬((a.length:Int)<10):=by omega
    have G:=Lq (F.out.leave HPI.out (kg:=yw) U.out HWT.out.1);go_wp2_with fail;go_roundw
    case measure=>simp[intOf];omega
    case rel=>exact⟨i+1,.slice AS a.length cS,.slice AP ks.length cP,a,ks,rest+yw,d,by omega,rfl,rfl,rfl,by go_num,OWX,OPX,KBX,HOX,G⟩
   have bC:((a.length:Int)<10):=by omega
   have G:=Lq (F.out.put HPI.out (kg:=yw) U.out HWT.out hs9);have HAL:=Lq (OWX.out.alloc (.cells #[iv i] 3));have HKL:=Lq F.out.len;have hozz:=HOX.out.size;go_wp2_with (at_builtin;refine wpList_append_own _ rfl _ _ 48 rfl W9.heap.size 3 i3 (iv 0) 1 8 Tryz.underlying48 hi3 hz30 hz31 hz32 rfl (by decide) _ _ _ rfl HAL.out ⟨V10.heap.size,0,none⟩ 1 1 [iv i] rfl rfl (fK _ _ _) ?f2 ?f3 ?f4 ?f5 ?_)
   case f2=>simp[Value.oneCell']
   case f3=>have:=HKL.out;unfold maxLen;omega
   case f4=>have:=HKL.out;omega
   case f5=>simp only[World.size_alloc];omega
   intro bG au B g _;obtain⟨A11,c11,rfl⟩:=gK B;have OW11:=Lq B;have OP11:=Lq (kA (OPX.out.alloc _) HAL.out (by decide) g)
   have H:=Lq ((KBX.out.alloc _).grown g (ax HAL.out (KBX.out.alloc _) (by decide)))
   have M:=Lq (mZ HAL.out g (lr _) (HOX.out.join (ai.of_below (bA (bR _) _) g11)));have hoz1:=M.out.size;have k1:=H.out.c 3;have HAL2:=Lq (OP11.out.alloc (.cells #[iv 0,iv 0,iv (-1),iv yw,iv (-1)] 53));clear B g;go_wp2_with (at_builtin;refine wpList_append_own _ rfl _ _ 44 rfl W9.heap.size 53 i5 _ 5 40 Tryz.underlying44 hi5 hz50 hz51 hz52 rfl (by decide) _ _ _ rfl HAL2.out ⟨au.heap.size,0,none⟩ 1 1 [iv 0,iv 0,iv (-1),iv yw,iv (-1)] rfl rfl (fun j u hu=>by rw[kW,(aa.new au 53 _).cell];simpa using hu) ?f6 ?f7 ?f8 ?f9 ?_)
   case f6=>simp[Value.oneCell']
   case f7=>have:=HKL.out;unfold maxLen;omega
   case f8=>have:=HKL.out;omega
   case f9=>simp only[World.size_alloc];omega
   intro bH V f z _;obtain⟨A12,c12,rfl⟩:=gK f;have kb12:=(H.out.alloc (.cells #[iv 0,iv 0,iv (-1),iv yw,iv (-1)] 53)).grown z (ax HAL2.out (H.out.alloc _) (by decide))
   have K:=kA (OW11.out.alloc (.cells #[iv 0,iv 0,iv (-1),iv yw,iv (-1)] 53)) HAL2.out (by decide) z
   have O:=mZ HAL2.out z (lr _) (M.out.join (ai.of_below (bA (bR _) _) g11));have k2:=kb12.frozen 3;have k3:=kb12.c 3;have k4:=kb12.lt;have hst:ai V (V.setCell ⟨g11,3,none⟩ (.slice A12 (ks.length+1) c12)) g11:=ai.of_set (bR V) g11 3 _;have OW13:=Lq (hst.own K (fun e=>ax K kb12 (by decide) e.symm))
   have ap:=Lq (hst.own f (fun e=>ax f kb12 (by decide) e.symm))
   have J:=kb12.set_ 3 (.slice A12 (ks.length+1) c12);simp only[List.setIfInBounds_toArray,List.set_cons_zero,List.set_cons_succ]at J;have KB13:=Lq J;have HO13:=Lq (O.join hst);clear f z kb12 K O hst J;go_wp2_with fail;go_roundw
   case measure=>simp[intOf];omega
   case rel =>
    refine⟨i+1,.slice A11 (a.length+1) c11,.slice A12 (ks.length+1) c12,a++[(i:Int)],ks++[yw],rest,d+yw,by omega,rfl,rfl,rfl,by go_num,Lq ?_,Lq ?_,KB13,HO13,G⟩
    ·rw[List.length_append,List.map_append];exact OW13.out
    ·rw[List.length_append,List.map_append,List.flatMap_append];exact ap.out
  obtain⟨tn,be⟩:∃n:Nat,(i:Int)%(T:Int)=(n:Int):=⟨((i:Int)%(T:Int)).toNat,(Int.toNat_of_nonneg (Int.emod_nonneg _ (by omega))).symm⟩
  have aJ:tn<T:=by have:=Int.emod_lt_of_pos (i:Int) (show 0<(T:Int)by omega);omega
  have kt:(i:Int).tmod (T:Int)=(tn:Int):=by rw[←be];exact Int.tmod_eq_emod_of_nonneg hi0
  obtain⟨tv,aU⟩:=gX (l:=ts) (i:=tn) (by rw[bq.out];exact aJ)
  obtain⟨bD,bW⟩:=br.out tv (mG ⟨tn,aU⟩);obtain⟨bt,ot,rfl,hbt,hct⟩:=bs.out wr (bT HB2.out HBR.out) tn tv aU;have hct:wr.cell? ⟨bt,ot+tn,none⟩=some (.int .u32 tv):=hct;obtain⟨rm,hrm⟩:=ex (tv%(yz-yw+1));have hrm2:tv.tmod (yz-yw+1)=rm:=by rw[←hrm];exact Int.tmod_eq_emod_of_nonneg bD
  have bJ:0≤rm:=by rw[←hrm];exact Int.emod_nonneg _ (by omega)
  have bK:rm<yz-yw+1:=by rw[←hrm];exact Int.emod_lt_of_pos _ (by omega)
  have bX:IntKind.i64.wrap tv=tv:=by rw[IntKind.wrap_i64];omega
  have bY:IntKind.i64.wrap (yz-yw)=yz-yw:=by rw[IntKind.wrap_i64];omega
  have bZ:IntKind.i64.wrap (yz-yw+1)=yz-yw+1:=by rw[IntKind.wrap_i64];omega
  have b0:IntKind.i64.wrap (yw+rm)=yw+rm:=by rw[IntKind.wrap_i64];omega
  have b3:((T:Int)=0)=False:=eq_false (by omega)
  have b4:((yz-yw+1:Int)=0)=False:=eq_false (by omega)
  have bS:(0:Int)<(T:Int):=by omega
  have bL:=nn tn;have htnl:(tn:Int)<(T:Int):=by omega
  have a4:Hid (∀W,BW V10 W→cA W g17 0 (iv yw)∧cA W g17 1 (iv yz)∧cA W gx 2 (.slice (some ⟨bt,ot,none⟩) T I)∧cA W bt (ot+tn) (.int .u32 tv)):=Lq fun W D=>⟨kC D d0,kC D d1,kC D y2,kC (bT HB10.out D) hct⟩
  clear be aU hrm;go_upto_region 18 with fail
  refine gd (ops:=I3) (r:=18) (n:=21) (S:=fun W=>cA W g17 0 (iv yw)∧cA W g17 1 (iv yz)∧cA W gx 2 (.slice (some ⟨bt,ot,none⟩) T I)∧cA W bt (ot+tn) (.int .u32 tv)) a4.out fun V0 HB0 hHeld=>?_
  refine tk 0 (pT g17 0) ?_;refine tk 1 (iv yw) ?_;refine tk 2 (pT gx 2) ?_;refine tk 3 (.slice (some ⟨bt,ot,none⟩) T I) ?_;refine tk 4 (iv i) ?_;refine tk 5 (pT gx 2) ?_;refine tk 6 (.slice (some ⟨bt,ot,none⟩) T I) ?_;refine tk 7 (iv T) ?_;refine tk 8 (iv tn) ?_;refine tk 9 (pT bt (ot+tn)) ?_;refine tk 10 (.int .u32 tv) ?_;refine tk 11 (iv tv) ?_;refine tk 12 (pT g17 1) ?_;refine tk 13 (iv yz) ?_;refine tk 14 (pT g17 0) ?_;refine tk 15 (iv yw) ?_;refine tk 16 (iv (yz-yw)) ?_;refine tk 17 (iv (yz-yw+1)) ?_;refine tk 18 (iv rm) ?_;refine tk 19 (iv (yw+rm)) ?_;refine tk 20 (iv (yw+rm)) ?_;refine dn ?_;clear hHeld f0 f1 e0 e1 el d0 d1 y0 y1 y2 hWa hWb hg17 a4;have U:Hid (yw≤yw+rm∧yw+rm≤yz):=Lq (by omega)
  have ad:=Lq (bT HB10.out HB0.out);have qx:=a3.out _ (bT HBR.out ad.out);have y1:=qx.c 1;clear qx;have bl:=Lq (bT HBR.out ad.out);have OWX:=Lq (aN ar.out ad.out);have OPX:=Lq (aN aq.out ad.out);have KBX:=Lq (KB.out.keep ad.out);have HOX:=Lq (HO.out.join (ai.of_below ad.out g11));by_cases hz:(xb/2^i).tmod 2=1
  case neg =>
   have G:=Lq (F.out.leave HPI.out (kg:=yw+rm) U.out HWT.out.1);go_wp2_with fail;go_roundw
   case measure=>simp[intOf];omega
   case rel=>exact⟨i+1,.slice AS a.length cS,.slice AP ks.length cP,a,ks,rest+(yw+rm),d,by omega,rfl,rfl,rfl,by go_num,OWX,OPX,KBX,HOX,G⟩
  by_cases hs9:a.length<10
  case neg =>
   have bz:¬((a.length:Int)<10):=by omega
   have G:=Lq (F.out.leave HPI.out (kg:=yw+rm) U.out HWT.out.1);go_wp2_with fail;go_roundw
   case measure=>simp[intOf];omega
   case rel=>exact⟨i+1,.slice AS a.length cS,.slice AP ks.length cP,a,ks,rest+(yw+rm),d,by omega,rfl,rfl,rfl,by go_num,OWX,OPX,KBX,HOX,G⟩
  have bC:((a.length:Int)<10):=by omega
  have G:=Lq (F.out.put HPI.out (kg:=yw+rm) U.out HWT.out hs9);have HAL:=Lq (OWX.out.alloc (.cells #[iv i] 3));have HKL:=Lq F.out.len;have hozz:=HOX.out.size;go_wp2_with (at_builtin;refine wpList_append_own _ rfl _ _ 48 rfl W9.heap.size 3 i3 (iv 0) 1 8 Tryz.underlying48 hi3 hz30 hz31 hz32 rfl (by decide) _ _ _ rfl HAL.out ⟨V0.heap.size,0,none⟩ 1 1 [iv i] rfl rfl (fK _ _ _) ?f2 ?f3 ?f4 ?f5 ?_)
  case f2=>simp[Value.oneCell']
  case f3=>have:=HKL.out;unfold maxLen;omega
  case f4=>have:=HKL.out;omega
  case f5=>simp only[World.size_alloc];omega
  intro bG au B g _;obtain⟨A11,c11,rfl⟩:=gK B;have OW11:=Lq B;have OP11:=Lq (kA (OPX.out.alloc _) HAL.out (by decide) g)
  have H:=Lq ((KBX.out.alloc _).grown g (ax HAL.out (KBX.out.alloc _) (by decide)))
  have M:=Lq (mZ HAL.out g (lr _) (HOX.out.join (ai.of_below (bA (bR _) _) g11)));have hoz1:=M.out.size;have k1:=H.out.c 3;have HAL2:=Lq (OP11.out.alloc (.cells #[iv 0,iv 0,iv (-1),iv (yw+rm),iv (-1)] 53));clear B g;go_wp2_with (at_builtin;refine wpList_append_own _ rfl _ _ 44 rfl W9.heap.size 53 i5 _ 5 40 Tryz.underlying44 hi5 hz50 hz51 hz52 rfl (by decide) _ _ _ rfl HAL2.out ⟨au.heap.size,0,none⟩ 1 1 [iv 0,iv 0,iv (-1),iv (yw+rm),iv (-1)] rfl rfl (fun j u hu=>by rw[kW,(aa.new au 53 _).cell];simpa using hu) ?f6 ?f7 ?f8 ?f9 ?_)
  case f6=>simp[Value.oneCell']
  case f7=>have:=HKL.out;unfold maxLen;omega
  case f8=>have:=HKL.out;omega
  case f9=>simp only[World.size_alloc];omega
  intro bH V f z _;obtain⟨A12,c12,rfl⟩:=gK f;have kb12:=(H.out.alloc (.cells #[iv 0,iv 0,iv (-1),iv (yw+rm),iv (-1)] 53)).grown z (ax HAL2.out (H.out.alloc _) (by decide))
  have K:=kA (OW11.out.alloc (.cells #[iv 0,iv 0,iv (-1),iv (yw+rm),iv (-1)] 53)) HAL2.out (by decide) z
  have O:=mZ HAL2.out z (lr _) (M.out.join (ai.of_below (bA (bR _) _) g11));have k2:=kb12.frozen 3;have k3:=kb12.c 3;have k4:=kb12.lt;have hst:ai V (V.setCell ⟨g11,3,none⟩ (.slice A12 (ks.length+1) c12)) g11:=ai.of_set (bR V) g11 3 _;have OW13:=Lq (hst.own K (fun e=>ax K kb12 (by decide) e.symm))
  have ap:=Lq (hst.own f (fun e=>ax f kb12 (by decide) e.symm))
  have J:=kb12.set_ 3 (.slice A12 (ks.length+1) c12);simp only[List.setIfInBounds_toArray,List.set_cons_zero,List.set_cons_succ]at J;have KB13:=Lq J;have HO13:=Lq (O.join hst);clear f z kb12 K O hst J;go_wp2_with fail;go_roundw
  case measure=>simp[intOf];omega
  case rel =>
   refine⟨i+1,.slice A11 (a.length+1) c11,.slice A12 (ks.length+1) c12,a++[(i:Int)],ks++[yw+rm],rest,d+(yw+rm),by omega,rfl,rfl,rfl,by go_num,Lq ?_,Lq ?_,KB13,HO13,G⟩
   ·rw[List.length_append,List.map_append];exact OW13.out
   ·rw[List.length_append,List.map_append,List.flatMap_append];exact ap.out
end Go.Proofs.YtbillnhcmkpohaaGreatDoor
