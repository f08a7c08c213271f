/- The iterator over the cuts: the function that calls itself. The iterator over the cuts: .. -/
import Derived.Scope
import Derived.Test.YtigcophcpboanaaGreatDoorM2
import Derived.Test.YtigcophcpboanaaGreatDoorM6
set_option maxRecDepth 1000000
set_option maxHeartbeats 0
namespace Go.Proofs.YtigcophcpboanaaGreatDoor
open Go.RowKit Go.Shelf
attribute [local go_sem] Oper.semAt_some
def Rounds(m bw l:Nat)(M:Nat→Prop)(all:List (List Nat))(J Jx:List (List Nat)→World→Prop):Prop :=
 ∀(pre:List (List Nat)) (s:List Nat) (W:World),J pre W→pre++[s] <+: all→bw<W.heap.size→YieldAt Fence.wide m Tryz.prog l #[cutV s] W fun e W' =>
  KeepMB M W W'∧((e=.returned (.bool true)∧J (pre++[s]) W')∨(e=.returned (.bool false)∧Jx (pre++[s]) W'))
def FillPost(M:Nat→Prop)(bw pb cb db yb qb fb l g n b B0 capJ:Nat)(Ja:Option Addr)(js:List (Int×Int))(all:List (List Nat))(J Jx:List (List Nat)→World→Prop)(p:List Nat)(more:List (List Nat))(e:Ending)(W':World):Prop :=
 (∃C,CutOk n C p∧FillInv M bw pb cb db yb qb fb l g n b B0 capJ Ja js W' C)∧((e=.returned (.bool true)∧J more W')∨(e=.returned (.bool false)∧∃pre,pre <+: all∧Jx pre W'))
section
variable (M:Nat→Prop) (bw pb cb db yb qb fb l g n b B0 capJ:Nat) (Ja:Option Addr) (js:List (Int×Int)) (all:List (List Nat)) (J Jx:List (List Nat)→World→Prop)
theorem fill_zero(A:FillAt M bw pb cb db yb qb fb g n b B0 js)(hJb:∀s W1 W2,J s W1→Below bw W1 W2→J s W2)(m:Nat)(hY:∀m,Rounds m bw l M all J Jx)(p:List Nat)(hpn:p.length=n)(next:Nat)(done:List (List Nat))(W:World)(C:List Nat)(hI:FillInv M bw pb cb db yb qb fb l g n b B0 capJ Ja js W C)(hC:CutOk n C p)(hJ:J done W)(hall:done++cutsF js n b 0 p next <+: all) :
  CallsIn Fence.wide m Tryz.prog 131 #[iv n,iv next,ptr pb,ptr cb,ptr db,ptr yb,ptr qb,ptr fb] W
   (FillPost M bw pb cb db yb qb fb l g n b B0 capJ Ja js all J Jx p (done++cutsF js n b 0 p next)):=by
 have hCp:=hC.pad hpn;have q1:W.cell? ⟨pb,0,none⟩=some (nv n):=hI.hp.cell 0;have n8:=A.n8;have hblk:=blocks_any C n W hC.len hC.lt n8;have hcv:cutV C=.agg (C.map nv).toArray:=rfl;obtain⟨c0,c1,c2,c3,c4,c5,c6,c7,hce⟩:=eight hC.len;have hcv2:cutV C=.agg #[nv c0,nv c1,nv c2,nv c3,nv c4,nv c5,nv c6,nv c7]:=by rw[hce];rfl
 have hIc:=hI.hc;rw[hce]at hIc;have r0:W.cell? ⟨cb,0,none⟩=some (nv c0):=hIc.nat rfl;have r1:W.cell? ⟨cb,1,none⟩=some (nv c1):=hIc.nat rfl;have r2:W.cell? ⟨cb,2,none⟩=some (nv c2):=hIc.nat rfl;have r3:W.cell? ⟨cb,3,none⟩=some (nv c3):=hIc.nat rfl;have r4:W.cell? ⟨cb,4,none⟩=some (nv c4):=hIc.nat rfl;have r5:W.cell? ⟨cb,5,none⟩=some (nv c5):=hIc.nat rfl;have r6:W.cell? ⟨cb,6,none⟩=some (nv c6):=hIc.nat rfl;have r7:W.cell? ⟨cb,7,none⟩=some (nv c7):=hIc.nat rfl;obtain⟨S,hS⟩:=ex (blkTo C n);obtain⟨K,hK⟩:=ex (manyTo C n);have hSl:S.length=8:=by rw[←hS];exact blkTo_len _ _
 have hS256:∀x∈S,x<256:=by rw[←hS];exact blkTo_lt _ _ n8
 have hK8:K≤8:=by rw[←hK];exact manyTo_le hC.lt n
 have hcuts:cutsF js n b 0 p next=if anyToB (fun s=>!hangsB js s) S K=true then[]else[C]:=by unfold cutsF hangCut;rw[←hCp,hS,hK];cases anyToB (fun s=>!hangsB js s) S K<;>rfl
 obtain⟨s0,s1,s2,s3,s4,s5,s6,s7,hse⟩:=eight hSl;have hsv:cutV S=.agg #[nv s0,nv s1,nv s2,nv s3,nv s4,nv s5,nv s6,nv s7]:=by rw[hse];rfl
 unfold BlocksPost at hblk;rw[hcv2,hS,hK,hsv]at hblk;obtain⟨X,hX⟩:=ex (cutsF js n b 0 p next);rw[hX]at hcuts hall ⊢;have HBLK:=Lq hblk;have HI:=Lq hI;have HCO:=Lq hC;have HJ:=Lq hJ;have HALL:=Lq hall;have HJB:=Lq hJb;have HY:=Lq hY;have HCUTS:=Lq hcuts;have HAT:=Lq A;have HCV:=Lq hcv2;have HSE:=Lq hse;have HCE:=Lq hce;have hsl:=fun W gg=>slice122 W gg K hK8
 clear hblk hI hC hJ hall hJb hY hcuts A hcv hcv2 hce hX hS hK hIc hCp hpn hsv hse;refine callsIn_of_wp Tryz.func131 rfl trivial ?_ rfl;simp only[Tryz.ntmps131,List.size_toArray,List.length_cons,List.length_nil,Nat.reduceAdd,Nat.reduceSub,Array.replicate_succ,Array.replicate_zero,List.push_toArray,List.append_toArray,List.nil_append,List.cons_append]
 gi_wp2_with fail
 refine⟨trivial,hdd _,(callsIn_wide.2 HBLK.out).mono ?_⟩;rintro e w1 ⟨rfl,hb1⟩;have HB1:=Lq hb1;clear hb1;have hI1:=HI.out.below HAT.out HB1.out;have HI1:=Lq hI1;obtain⟨w2,hw2⟩:=ex (w1.alloc (.cells #[nv s0,nv s1,nv s2,nv s3,nv s4,nv s5,nv s6,nv s7] 168));have b2:Blk w2 w1.heap.size 168 (S.map nv).toArray:=by rw[←hw2,HSE.out];exact Blk.new w1 168 _
 have hb12:BW w1 w2:=by rw[←hw2];exact bA (bR _) _
 have hb2:BW W w2:=bT HB1.out hb12;have hI2:=HI.out.below HAT.out hb2;have hcon:=contains115_any (ptr db) (fun s=>!hangsB js s) (fun X=>BW w2 X) w1.heap.size K S w2 (by omega) (by omega) (bR _) (fun X hX i x hx=>(b2.same (hX.block _ b2.lt)).nat hx) (fun X x hX hx=>(((hI2.below HAT.out hX).nohang HAT.out (hS256 x hx)).mono fun e w' ⟨h1,h2⟩=>⟨h1,bT hX h2⟩))
 obtain⟨q,hq⟩:=ex (anyToB (fun s=>!hangsB js s) S K)
 have hct:=HCUTS.out;rw[hq]at hcon hct;have HCON:=Lq hcon;have HCT:=Lq hct;have HB2:=Lq hb2;have HI2:=Lq hI2;clear hcon hct hb2 hI2 hq b2 hb12 hI1 HCUTS HSE
 gi_wp2_with fail
 refine⟨trivial,hdd _,(callsIn_wide.2 HCON.out).mono ?_⟩;rintro e w3 ⟨rfl,hb3⟩;have hb3:=bT HB2.out hb3;have HB3:=Lq hb3;have hI3:=HI.out.below HAT.out hb3;have HI3:=Lq hI3;have hJ3:=HJB.out done W w3 HJ.out (hb3.mono HI.out.size);have HJ3:=Lq hJ3;clear hb3 hI3 hJ3 HCON hw2 hsl r0 r1 r2 r3 r4 r5 r6 r7;cases q
 ·have hx:X=[C]:=by rw[HCT.out];rfl
  have HX:=Lq hx;have hI3c:=HI3.out.hc;rw[HCE.out]at hI3c;have r0:w3.cell? ⟨cb,0,none⟩=some (nv c0):=hI3c.nat rfl;have r1:w3.cell? ⟨cb,1,none⟩=some (nv c1):=hI3c.nat rfl;have r2:w3.cell? ⟨cb,2,none⟩=some (nv c2):=hI3c.nat rfl;have r3:w3.cell? ⟨cb,3,none⟩=some (nv c3):=hI3c.nat rfl;have r4:w3.cell? ⟨cb,4,none⟩=some (nv c4):=hI3c.nat rfl;have r5:w3.cell? ⟨cb,5,none⟩=some (nv c5):=hI3c.nat rfl;have r6:w3.cell? ⟨cb,6,none⟩=some (nv c6):=hI3c.nat rfl;have r7:w3.cell? ⟨cb,7,none⟩=some (nv c7):=hI3c.nat rfl;have ry:w3.cell? ⟨yb,0,none⟩=some (.func (.yield l) #[] #[]):=HI3.out.hy.cell 0;obtain⟨fn,tmps,assign,body,hy,hR⟩:=HY.out (m-1) done C w3 HJ3.out (by rw[←HX.out];exact HALL.out) (by have:=HAT.out.y0;have:=HI3.out.hy.lt;omega)
  rw[HCV.out]at hy;clear hx hI3c HCT HY HJ HJ3
  gi_wp2_with (((try refine⟨hdd _, ?_⟩);refine hR.mono ?_;clear hR;rintro e W2 ⟨hk,(⟨rfl,hJ2⟩ | ⟨rfl,hx2⟩)⟩))
  ·go_ret
   exact⟨⟨C,HCO.out,HI3.out.kept HAT.out hk⟩,.inl ⟨rfl,by rw[HX.out];exact hJ2⟩⟩
  ·go_ret
   exact⟨⟨C,HCO.out,HI3.out.kept HAT.out hk⟩,.inr ⟨rfl,_,by have:=HALL.out;rw[HX.out]at this;exact this,hx2⟩⟩
 ·gi_wp2_with fail
  go_ret
  refine⟨⟨C,HCO.out,HI3.out⟩,.inl ⟨rfl, ?_⟩⟩;rw[HCT.out]
  simpa using HJ3.out
end
attribute [local go_sem] Oper.semAt_some
section
variable (M:Nat→Prop) (bw pb cb db yb qb fb l g n b B0 capJ:Nat) (Ja:Option Addr) (js:List (Int×Int)) (all:List (List Nat)) (J Jx:List (List Nat)→World→Prop)
theorem fill_in(A:FillAt M bw pb cb db yb qb fb g n b B0 js)(hb8:b≤8)(hJb:∀s W1 W2,J s W1→Below bw W1 W2→J s W2)(hY:∀m,Rounds m bw l M all J Jx):∀(k m:Nat) (p:List Nat) (next:Nat) (done:List (List Nat)) (W:World) (C:List Nat),p.length+k=n→next≤8 →
   FillInv M bw pb cb db yb qb fb l g n b B0 capJ Ja js W C→CutOk n C p→J done W→done++cutsF js n b k p next <+: all →
  CallsIn Fence.wide m Tryz.prog 131 #[iv p.length,iv next,ptr pb,ptr cb,ptr db,ptr yb,ptr qb,ptr fb] W
   (FillPost M bw pb cb db yb qb fb l g n b B0 capJ Ja js all J Jx p (done++cutsF js n b k p next)):=by
 intro k;induction k with
 | zero =>
  intro m p next done W C hpk hnx hI hC hJ hall;have hpn:p.length=n:=by omega
  rw[hpn];exact fill_zero M bw pb cb db yb qb fb l g n b B0 capJ Ja js all J Jx A hJb m hY p hpn next done W C hI hC hJ hall
 | succ k ih =>
  intro m p next done W C hpk hnx hI hC hJ hall;have he:((p.length:Int)==(n:Int))=false:=beq_eq_false_iff_ne.2 (by omega)
  have q1:W.cell? ⟨pb,0,none⟩=some (nv n):=hI.hp.cell 0;have q2:W.cell? ⟨qb,0,none⟩=some (nv b):=hI.hq.cell 0;have n8:=A.n8;have hcm:cutsTo js n b k p next (min (next+1) b)=cutsF js n b (k+1) p next:=rfl;rw[←hcm]at hall ⊢;have hmz:min ((next:Int)+1) (b:Int)=((min (next+1) b:Nat):Int):=by omega
  obtain⟨T,hT⟩:=ex (min (next+1) b);rw[hT]at hall hmz ⊢;have hT8:T≤8:=by omega
  have HI:=Lq hI;have HCO:=Lq hC;have HJ:=Lq hJ;have HALL:=Lq hall;have IH:=Lq ih;have HY:=Lq hY;have HJB:=Lq hJb;have HAT:=Lq A;clear hI hC hJ hall ih hY hJb A hcm hT;refine callsIn_of_wp Tryz.func131 rfl trivial ?_ rfl;simp only[Tryz.ntmps131,List.size_toArray,List.length_cons,List.length_nil,Nat.reduceAdd,Nat.reduceSub,Array.replicate_succ,Array.replicate_zero,List.push_toArray,List.append_toArray,List.nil_append,List.cons_append]
  gi_wp2
  gi_loopw [34] (fun vi wr=>∃(i:Nat) (C2:List Nat),vi=iv i∧i≤T∧Hid (CutOk n C2 p)∧Hid (FillInv M bw pb cb db yb qb fb l g n b B0 capJ Ja js wr C2)∧Hid (J (done++cutsTo js n b k p next i) wr)) (fun vi _=>T-(intOf vi).toNat)
  case atStart=>exact⟨0,C,rfl,Nat.zero_le _,HCO,HI,by rw[cutsTo_zero];simpa[Hid]using HJ.out⟩
  case round =>
   clear HI HJ HCO q1 q2;obtain⟨i,C2,rfl,hiT,HCO,HI,HJ⟩:=hrel;by_cases hlt:i<T
   ·obtain⟨x0,hx0⟩:∃x,C2[p.length]?=some x:=⟨_,gE (by rw[HCO.out.len];omega)⟩
    have e0:wr.cell? ⟨cb,p.length,none⟩=some (nv x0):=HI.out.hc.nat hx0;have ef:=HI.out.hc.frozen p.length;have hI1:=HI.out.put HAT.out p.length i;have hC1:=HCO.out.push (by omega) n8 (i:=i) (by omega)
    have hb1:Below bw wr (wr.setCell ⟨cb,p.length,none⟩ (nv i)):=(Below.refl _ _).setCell HAT.out.c0 _;have hJ1:=HJB.out _ _ _ HJ.out hb1;have hcall:=IH.out (m-1) (p++[i]) (max next (i+1)) (done++cutsTo js n b k p next i) _ _ (by simp;omega) (by omega) hI1 hC1 hJ1 (by
     refine List.IsPrefix.trans ?_ HALL.out;have:=cutsTo_prefix (js:=js) (n:=n) (b:=b) (k:=k) (p:=p) (next:=next) (T-(i+1)) (i+1);rw[show i+1+(T-(i+1))=T from by omega,cutsTo_succ]at this
     obtain⟨r,hr⟩:=this;refine⟨r, ?_⟩;rw[←hr];simp[List.append_assoc])
    have hmore:(done++cutsTo js n b k p next i)++cutsF js n b k (p++[i]) (max next (i+1))=done++cutsTo js n b k p next (i+1):=by rw[cutsTo_succ];simp[List.append_assoc]
    have q3:(wr.setCell ⟨cb,p.length,none⟩ (nv i)).cell? ⟨fb,0,none⟩=some (.func (.func 131) #[] #[ptr pb,ptr cb,ptr db,ptr yb,ptr qb,ptr fb]):=hI1.hf.cell 0;rw[hmore,show(((p++[i]).length:Nat):Int)=(p.length:Int)+1 from by simp,show((max next (i+1):Nat):Int)=max (next:Int) ((i:Int)+1)from by omega]at hcall
    have HC:=Lq hcall;clear hcall hI1 hC1 hJ1 hmore hb1 hx0
    gi_wp2_with fail
    refine⟨trivial,hdd _,HC.out.mono ?_⟩;clear HC IH q3 e0 ef HI HCO;rintro e w3 ⟨⟨C3,hC3,hI3⟩,hout⟩;have HC3:=Lq hC3.pop;have HI3:=Lq hI3;clear hC3 hI3;rcases hout with⟨rfl,hJ3⟩ | ⟨rfl,pre,hpre,hx3⟩
    ·have HJ3:=Lq hJ3;clear hJ3
     gi_wp2
     go_roundw
     case rel=>exact⟨i+1,C3,by go_num,by omega,HC3,HI3,HJ3⟩
     case measure=>simp[intOf];omega
    ·have HPRE:=Lq hpre;have HX3:=Lq hx3;clear hpre hx3
     gi_wp2
     go_ret
     exact⟨⟨C3,HC3.out,HI3.out⟩,.inr ⟨rfl,pre,HPRE.out,HX3.out⟩⟩
   ·obtain rfl:i=T:=by omega
    gi_wp2
    go_ret
    exact⟨⟨C2,HCO.out,HI.out⟩,.inl ⟨rfl,HJ.out⟩⟩
end
attribute [local go_sem] Oper.semAt_some
def cutsL(js:List (Int×Int))(n b:Nat):List (List Nat):=cutsF js n b n [] 0
theorem cuts_in(M:Nat→Prop)(pb db qb l g n b B0 capJ:Nat)(Ja:Option Addr)(js:List (Int×Int))(J Jx:List (List Nat)→World→Prop)(m:Nat)(W:World)(hp:Blk W pb 3 #[nv n])(hd:Blk W db 113 #[ptr g])(hq:Blk W qb 3 #[nv b])(c1:W.cell? ⟨g,1,none⟩=some (.slice Ja js.length capJ))(rj:RdN 2 encSp W B0 Ja js)(hB0:B0≤W.heap.size)(hM:∀k,M k→k<W.heap.size)(mp:¬M pb)(md:¬M db)(mq:¬M qb)(mg:¬M g)(m0:∀k,k<B0→¬M k)(n1:1≤n)(n8:n≤8)(hb8:b≤8)(jo:JsOk n js)(jl:js.length≤12)(hJb:∀s W1 W2,J s W1→Below W.heap.size W1 W2→J s W2)(hY:∀m,Rounds m W.heap.size l M (cutsL js n b) J Jx)(h0:J [] W) :
  CallsIn Fence.wide m Tryz.prog 130 #[.func (.yield l) #[] #[],ptr pb,ptr db,ptr qb] W fun e W'=>(∃v,e=.returned v) ∧
   (J (cutsL js n b) W'∨∃pre,pre <+: cutsL js n b∧Jx pre W'):=by
 have plt:=hp.lt;have dlt:=hd.lt;have qlt:=hq.lt;have glt:=lt_of_cell c1;obtain⟨W4,hW4⟩:=ex (((W.alloc (.cells #[.func (.yield l) #[] #[]] 216)).alloc (.cells #[iv 0,iv 0,iv 0,iv 0,iv 0,iv 0,iv 0,iv 0] 169)).alloc (.cells #[.func (.func 131) #[] #[ptr pb,ptr (W.heap.size+1),ptr db,ptr W.heap.size,ptr qb,ptr (W.heap.size+2)]] 217));have hz4:W4.heap.size=W.heap.size+3:=by rw[←hW4];simp
 have hb4:BW W W4:=by rw[←hW4];exact bA (bA (bA (bR _) _) _) _
 have b4y:Blk W4 W.heap.size 216 #[.func (.yield l) #[] #[]]:=by rw[←hW4];exact((Blk.new W 216 _).alloc _).alloc _
 have b4c:Blk W4 (W.heap.size+1) 169 ((List.replicate 8 0).map nv).toArray:=by rw[←hW4];have:=(Blk.new (W.alloc (.cells #[.func (.yield l) #[] #[]] 216)) 169 #[iv 0,iv 0,iv 0,iv 0,iv 0,iv 0,iv 0,iv 0]).alloc (.cells #[.func (.func 131) #[] #[ptr pb,ptr (W.heap.size+1),ptr db,ptr W.heap.size,ptr qb,ptr (W.heap.size+2)]] 217);rw[World.size_alloc]at this;exact this
 have b4f:Blk W4 (W.heap.size+2) 217 #[.func (.func 131) #[] #[ptr pb,ptr (W.heap.size+1),ptr db,ptr W.heap.size,ptr qb,ptr (W.heap.size+2)]]:=by rw[←hW4];have:=Blk.new ((W.alloc (.cells #[.func (.yield l) #[] #[]] 216)).alloc (.cells #[iv 0,iv 0,iv 0,iv 0,iv 0,iv 0,iv 0,iv 0] 169)) 217 #[.func (.func 131) #[] #[ptr pb,ptr (W.heap.size+1),ptr db,ptr W.heap.size,ptr qb,ptr (W.heap.size+2)]];rw[World.size_alloc,World.size_alloc]at this;exact this
 have hA:FillAt M W.heap.size pb (W.heap.size+1) db W.heap.size qb (W.heap.size+2) g n b B0 js :=
  ⟨hM,mp,md,mq,mg,m0,by omega,lr _,by omega,plt,dlt,qlt,by omega,by omega,n1,n8,jo,jl⟩
 have hI:FillInv M W.heap.size pb (W.heap.size+1) db W.heap.size qb (W.heap.size+2) l g n b B0 capJ Ja js W4 (List.replicate 8 0) :=
  ⟨hp.same (hb4.block _ plt),b4c,hd.same (hb4.block _ dlt),b4y,hq.same (hb4.block _ qlt),b4f,kC hb4 c1,rj.below hb4 hB0,hb4.size,hB0,glt⟩
 have hC:CutOk n (List.replicate 8 0) []:=⟨by simp,fun x hx=>by rw[List.mem_replicate]at hx;omega,by simp,by rw[List.drop_replicate]⟩
 have hcall:=fill_in M W.heap.size pb (W.heap.size+1) db W.heap.size qb (W.heap.size+2) l g n b B0 capJ Ja js (cutsL js n b) J Jx hA hb8 hJb hY n (m-1) [] 0 [] W4 (List.replicate 8 0) (by simp) (by omega) hI hC (hJb _ _ _ h0 hb4) (by simp[cutsL])
 rw[show([]:List (List Nat))++cutsF js n b n [] 0=cutsL js n b from by simp[cutsL]]at hcall
 have q3:W4.cell? ⟨W.heap.size+2,0,none⟩=some (.func (.func 131) #[] #[ptr pb,ptr (W.heap.size+1),ptr db,ptr W.heap.size,ptr qb,ptr (W.heap.size+2)]):=b4f.cell 0;have HC:=Lq hcall;clear hcall hI hC hA b4y b4c b4f hb4 hz4 hY hJb h0 hp hd hq c1 rj;refine callsIn_of_wp Tryz.func130 rfl trivial ?_ rfl;simp only[Tryz.ntmps130,List.size_toArray,List.length_cons,List.length_nil,Nat.reduceAdd,Nat.reduceSub,Array.replicate_succ,Array.replicate_zero,List.push_toArray,List.append_toArray,List.nil_append,List.cons_append]
 gi_wp2_with fail
 refine⟨trivial,hdd _,HC.out.mono ?_⟩;rintro e w3 ⟨_,(⟨rfl,hJ3⟩ | ⟨rfl,pre,hpre,hx3⟩)⟩
 ·have HJ3:=Lq hJ3;clear hJ3 HC q3
  gi_wp2
  go_end0
  exact⟨⟨_,rfl⟩,.inl HJ3.out⟩
 ·have HX3:=Lq hx3;have HPRE:=Lq hpre;clear hx3 hpre HC q3
  gi_wp2
  go_end0
  exact⟨⟨_,rfl⟩,.inr ⟨pre,HPRE.out,HX3.out⟩⟩
attribute [local go_sem] Oper.semAt_some
theorem cuts_any(g:Nat)(A:Option Addr)(n cap b:Nat)(w:World)(c0:w.cell? ⟨g,0,none⟩=some (.slice A n cap)) :
  Cs 94 #[ptr g,iv b] w fun e w' =>
   e=.returned (.func (.func 130) #[] #[ptr (w.heap.size+2),ptr w.heap.size,ptr (w.heap.size+1)])∧w'=((w.alloc (.cells #[ptr g] 113)).alloc (.cells #[nv b] 3)).alloc (.cells #[nv n] 3):=by
 have hg:=lt_of_cell c0;go_enter Tryz.func94,Tryz.ntmps94
 go_wp2
 go_ret
 exact⟨rfl,rfl⟩
def roundOut(M:Nat→Prop)(I:List (List Nat)→World→Prop)(Ix:List (List Nat)→World→Prop)(xs:List (List Nat))(W:World):Exit→Act→World→Prop
 | .normal,_,W'=>KeepMB M W W'∧I xs W'
 | .ret,_,W'=>KeepMB M W W'∧Ix xs W'
 | _,_,_=>False
theorem grownPutB(W:World)(k:Nat)(o:Obj):W.grownBy (W.putObj k o) (some k):=⟨rfl,rfl,rfl,by simp[World.putObj],fun i _ hne=>World.putObj_heap_other (fun e=>hne (by rw[e]))⟩
theorem rangeFunc_cuts{p:Tmp}{gf:Operand}{assign body:Code}{Q:Exit→Act→World→Prop}{a:Act}{w:World}(nn:Nat)(M:Nat→Prop)(pb db qb g n b B0 capJ:Nat)(Ja:Option Addr)(js:List (Int×Int))(hg:a.eval gf=.func (.func 130) #[] #[ptr pb,ptr db,ptr qb])(hp:Blk w pb 3 #[nv n])(hd:Blk w db 113 #[ptr g])(hq:Blk w qb 3 #[nv b])(c1:w.cell? ⟨g,1,none⟩=some (.slice Ja js.length capJ))(rj:RdN 2 encSp w B0 Ja js)(hB0:B0≤w.heap.size)(hM:∀k,M k→k<w.heap.size)(mp:¬M pb)(md:¬M db)(mq:¬M qb)(mg:¬M g)(m0:∀k,k<B0→¬M k)(n1:1≤n)(n8:n≤8)(hb8:b≤8)(jo:JsOk n js)(jl:js.length≤12)(I Ix:List (List Nat)→World→Prop)(hI:∀s W1 W2,I s W1→Below w.heap.size W1 W2→I s W2)(hIx:∀s W1 W2,Ix s W1→Below w.heap.size W1 W2→Ix s W2)(h0:I [] w)(hbody:∀(m l:Nat) (pre:List (List Nat)) (s:List Nat) (W:World),I pre W→pre++[s] <+: cutsL js n b→w.heap.size+2<W.heap.size →
   assign.wpIn (Fence.wide.inRound l) m Tryz.prog (Exit.then (fun a1 W1=>BW W W1∧∀W2,I pre W2→W1.grownBy W2 (some (w.heap.size+1))→W2.heap.size=W1.heap.size→body.wpIn (Fence.wide.inRound l) m Tryz.prog (roundOut M I Ix (pre++[s]) W2) a1 W2) (fun _ _ _=>False)) { tmps:=a.tmps.setIfInBounds p (cutV s),defers:=[] } W)(hdone:∀(W:World),I (cutsL js n b) W→w.heap.size+2≤W.heap.size→W.heap[w.heap.size]?=some (.deferred (some []))→Q .normal { a with defers:={ target:=.collected w.heap.size,args:=#[] }::a.defers } W)(hstop:∀(pre:List (List Nat)) (W:World),pre <+: cutsL js n b→Ix pre W→w.heap.size+2≤W.heap.size→W.heap[w.heap.size]?=some (.deferred (some []))→Code.ret.wpIn Fence.wide nn Tryz.prog Q { a with defers:={ target:=.collected w.heap.size,args:=#[] }::a.defers } W) :
  (Code.rangeFunc gf #[p] assign body).wpIn Fence.wide nn Tryz.prog Q a w:=by
 have plt:=hp.lt;have dlt:=hd.lt;have qlt:=hq.lt;have glt:=lt_of_cell c1;refine wpIn_rangeFunc ?_;intro fn hfn;obtain⟨rec,hrec⟩:∃rec:LoopState→Option Code→Loop,rec=fun st pe=>{ state:=st,pending:=pe,fn,tmps:=a.tmps,params:=#[p],assign,body,defers:=w.heap.size }:=⟨_,rfl⟩
 obtain⟨W1,hW1⟩:=ex ((w.alloc (.deferred (some []))).alloc (.loop (rec .ready none)));have hL1:W1.heap[w.heap.size+1]?=some (.loop (rec .ready none)):=by rw[←hW1];have:=World.alloc_heap_new (w.alloc (.deferred (some []))) (.loop (rec .ready none));rwa [World.size_alloc]at this
 have hK1:W1.heap[w.heap.size]?=some (.deferred (some [])):=by rw[←hW1];exact(Below.heap_alloc _ _ _ (by simp)).trans (World.alloc_heap_new w _)
 have hb1:BW w W1:=by rw[←hW1];exact((Below.refl _ w).alloc (lr _) _).alloc (by simp) _
 have hs1:W1.heap.size=w.heap.size+2:=by rw[←hW1];simp
 have hI1:I [] W1:=hI _ _ _ h0 hb1;refine⟨w.heap.size+1,[{ target:=.collected w.heap.size,args:=#[] }],W1,{ target:=.fn (.func 130) #[ptr pb,ptr db,ptr qb],args:=#[.func (.yield (w.heap.size+1)) #[] #[]] },W1,130,
  #[.func (.yield (w.heap.size+1)) #[] #[]]++#[ptr pb,ptr db,ptr qb],W1, ?_, ?_, ?_, ?_,hdd _, ?_⟩
 ·rw[←hW1,hrec];exact run_enterLoop_outer _ _ _ _ _
 ·simp only[resolve,hg];simp[go_sem]
 ·intro f' hf';trivial
 ·simp[invoke,go_sem]
 ·have ready:∀{B:Nat} {X Y:World} {k:Nat} {o:Obj},Below B X Y→k<B→X.heap[k]?=some o→Y.heap[k]?=some o:=fun hb hk ho=>(hb.block _ hk).trans ho
  have hlM:∀k,k<w.heap.size→k≠w.heap.size+1:=fun k hk=>by omega
  refine(cuts_in (fun k=>M k∨k=w.heap.size+1) pb db qb (w.heap.size+1) g n b B0 capJ Ja js
   (fun pre W=>I pre W∧W.heap[w.heap.size+1]?=some (.loop (rec .ready none))∧W.heap[w.heap.size]?=some (.deferred (some [])))
   (fun pre W=>Ix pre W∧W.heap[w.heap.size+1]?=some (.loop (rec .done (some .ret)))∧W.heap[w.heap.size]?=some (.deferred (some [])))
   (nn-1) W1 (hp.same (hb1.block _ plt)) (hd.same (hb1.block _ dlt)) (hq.same (hb1.block _ qlt)) (kC hb1 c1) (rj.below hb1 hB0) (by omega)
   (fun k hk=>by rcases hk with hk | hk;(have:=hM k hk;omega);omega) (fun h=>h.elim mp (hlM _ plt)) (fun h=>h.elim md (hlM _ dlt)) (fun h=>h.elim mq (hlM _ qlt)) (fun h=>h.elim mg (hlM _ glt)) (fun k hk h=>h.elim (m0 k hk) (hlM _ (by omega))) n1 n8 hb8 jo jl
   (fun s A B h hb=>⟨hI s A B h.1 (hb.mono (by omega)),ready hb (by omega) h.2.1,ready hb (by omega) h.2.2⟩) ?_ ⟨hI1,hL1,hK1⟩).mono ?_
  ·rintro m pre x W ⟨hi,hl,hk⟩ hpre hbw;have hlt:w.heap.size+1<W.heap.size:=(Array.getElem?_eq_some_iff.1 hl).1;have hy:(Instr.yield (w.heap.size+1) #[cutV x]).run Tryz.prog W=.ok (.round (w.heap.size+1) fn (a.tmps.setIfInBounds p (cutV x)) assign body) W:=by
    have:=run_yield (P:=Tryz.prog) (args:=#[cutV x]) hl (by rw[hrec];rfl)
    rw[hrec]at this
    simpa using this
   refine⟨fn,_,assign,body,hy,roundIn_of_wpIn hfn ?_⟩;refine wpIn_mono (hbody m (w.heap.size+1) pre x W hi hpre (by omega)) ?_
   rintro e a1 W1' hp;cases e with
   | normal =>
    obtain⟨hbW,hp⟩:=hp;have hl':W1'.heap[w.heap.size+1]?=some (.loop (rec .ready none)):=ready hbW hlt hl;have hk':W1'.heap[w.heap.size]?=some (.deferred (some [])):=ready hbW (by omega) hk
    have hlt':w.heap.size+1<W1'.heap.size:=(Array.getElem?_eq_some_iff.1 hl').1;have hi':I pre W1':=hI _ _ _ hi (hbW.mono (by omega))
    refine⟨_,run_beginRound hl' (by rw[hrec]), ?_⟩
    have hl2:(W1'.putObj (w.heap.size+1) (.loop { rec .ready none with state:=.busy })).heap[w.heap.size+1]?=some (.loop { rec .ready none with state:=.busy }):=World.putObj_heap_same hlt'
    have hk2:(W1'.putObj (w.heap.size+1) (.loop { rec .ready none with state:=.busy })).heap[w.heap.size]?=some (.deferred (some [])):=(World.putObj_heap_other (by omega)).trans hk'
    refine wpIn_mono (hp _ (hI _ _ _ hi' (below_putObj _ (by omega) _)) (grownPutB _ _ _) (by simp[World.putObj])) ?_
    have fin:∀(jump:Option Code) (W3:World),KeepMB M (W1'.putObj (w.heap.size+1) (.loop { rec .ready none with state:=.busy })) W3 →
      (Instr.endRound (w.heap.size+1) jump).run Tryz.prog W3=.ok (.bool jump.isNone) (W3.putObj (w.heap.size+1) (.loop (rec (if jump.isNone then .ready else .done) jump))) ∧
      (W3.putObj (w.heap.size+1) (.loop (rec (if jump.isNone then .ready else .done) jump))).heap[w.heap.size+1]?=some (.loop (rec (if jump.isNone then .ready else .done) jump)) ∧
      (W3.putObj (w.heap.size+1) (.loop (rec (if jump.isNone then .ready else .done) jump))).heap[w.heap.size]?=some (.deferred (some [])) ∧
      KeepMB (fun k=>M k∨k=w.heap.size+1) W (W3.putObj (w.heap.size+1) (.loop (rec (if jump.isNone then .ready else .done) jump))):=fun jump W3 hk3=>by
     have nM:∀k,w.heap.size≤k→¬M k:=fun k hk hm=>by have:=hM k hm;omega
     have hl3:W3.heap[w.heap.size+1]?=some (.loop { rec .ready none with state:=.busy }):=(hk3.same _ (nM _ (by omega)) (by simp[World.putObj];omega)).trans hl2
     have hd3:W3.heap[w.heap.size]?=some (.deferred (some [])):=(hk3.same _ (nM _ (by omega)) (by simp[World.putObj];omega)).trans hk2
     have:=run_endRound (P:=Tryz.prog) jump hl3;rw[hrec]at this ⊢;have put:∀(X:World) (o:Obj),KeepMB (fun k=>M k∨k=w.heap.size+1) X (X.putObj (w.heap.size+1) o):=fun X o =>
      ⟨by simp[World.putObj],fun k hk _=>World.putObj_heap_other (fun e=>hk (.inr e))⟩
     refine⟨this,World.putObj_heap_same (Array.getElem?_eq_some_iff.1 hl3).1,(World.putObj_heap_other (by omega)).trans hd3, ?_⟩
     exact(((KeepMB.of_below hbW).trans (put _ _)).trans ⟨hk3.size,fun k hk=>hk3.same k (fun hm=>hk (.inl hm))⟩).trans (put _ _)
    rintro e a3 W3 hp3;cases e with
    | normal =>
     obtain⟨hk3,hi3⟩:=hp3;obtain⟨hr,hl4,hk4,hkb⟩:=fin none W3 hk3;exact⟨_,_,hr,hkb,.inl ⟨rfl,hI _ _ _ hi3 (below_putObj _ (by omega) _),hl4,hk4⟩⟩
    | ret =>
     obtain⟨hk3,hi3⟩:=hp3;obtain⟨hr,hl4,hk4,hkb⟩:=fin (some .ret) W3 hk3;exact⟨_,_,hr,hkb,.inr ⟨rfl,hIx _ _ _ hi3 (below_putObj _ (by omega) _),hl4,hk4⟩⟩
    | exit id=>exact hp3.elim
    | goto t=>exact hp3.elim
    | panic ch=>exact hp3.elim
    | outgrown=>exact hp3.elim
   | ret=>exact hp.elim
   | exit id=>exact hp.elim
   | goto t=>exact hp.elim
   | panic ch=>exact hp.elim
   | outgrown=>exact hp.elim
  ·rintro e W2 ⟨⟨v,rfl⟩,(⟨hi,hl,hk⟩ | ⟨pre,hpre,hi,hl,hk⟩)⟩
   ·have hlt2:=(Array.getElem?_eq_some_iff.1 hl).1;exact⟨none,_,by have:=run_endLoop (P:=Tryz.prog) hl (by rw[hrec];simp);rw[hrec]at this;exact this,
     hdone _ (hI _ _ _ hi (below_putObj _ (by omega) _)) (by simp[World.putObj];omega) ((World.putObj_heap_other (by omega)).trans hk)⟩
   ·have hlt2:=(Array.getElem?_eq_some_iff.1 hl).1;exact⟨some .ret,_,by have:=run_endLoop (P:=Tryz.prog) hl (by rw[hrec];simp);rw[hrec]at this;exact this,
     hstop pre _ hpre (hIx _ _ _ hi (below_putObj _ (by omega) _)) (by simp[World.putObj];omega) ((World.putObj_heap_other (by omega)).trans hk)⟩
def encN(n:Nat):List Value:=[nv n]
theorem encN_len:∀x,(encN x).length=1:=fun _=>rfl
theorem encPrt_len:∀x,(encPrt x).length=3:=fun _=>rfl
theorem Tryz.info45:(Tryz.prog.info? 45).map (fun i=>(i.zero,i.size,i.bytes))=some (some (.agg #[.string ⟨#[]⟩,iv 0,iv 0]),3,32):=by kernel_rfl
def Tryz.laysC84_ren:Go.Shelf.Ren:=⟨fun | 41=>95 | n=>n,fun | 22=>65 | 23=>3 | 4=>4 | n=>n,fun | n=>n⟩
theorem Tryz.laysC84:Go.Proofs.SlLaysE0.n41 Tryz.prog Tryz.laysC84_ren:={
 mixed:=by kernel_rfl
 f41:=⟨Tryz.f95.name,by decide,Tryz.func95.trans (congrArg some (by kernel_rfl))⟩
 t4:=Tryz.underlying4
 a4:=Tryz.isAgg4
 z4:=Tryz.sizeOf4
 v4:=Tryz.zeroValue4
 t22:=Tryz.underlying65
 a22:=Tryz.isAgg65
 z22:=Tryz.sizeOf65
 v22:=Tryz.zeroValue65 }
theorem clone0N_any(ad:Addr)(cap:Nat)(w:World) :
  Cs 95 #[.slice (some ad) 0 cap] w fun e w'=>∃v',e=.returned v'∧w'.ownsRow w.heap.size 3 1 v' 0 []∧BW w w':=by
 obtain⟨i0,hi,hz0,hz1,hz2⟩:=info_parts Tryz.info3b;have hlit:=World.ownsRow_lit (e:=3) (size:=1) (base:=w.heap.size) w #[] 0 (lr _) (by decide) (by simp)
 have HL:=Lq hlit;clear hlit;have q28:∀(w:World) (a:Option Addr) (n c n' c':Nat),(binOp .eql 65 (.slice a n c) (.slice none n' c')).run Tryz.prog w=.ok (.bool a.isNone) w:=fun w a n c n' c'=>Lib.run_eql_slice_nil w _ _ a n c n' c' Tryz.underlying65
 go_enter Tryz.func95,Tryz.ntmps95
 go_wp2_with (at_builtin;refine wpList_append_own _ rfl _ _ 65 rfl w.heap.size 3 i0 (iv 0) 1 8 Tryz.underlying65 hi hz0 hz1 hz2 rfl (by decide) _ _ _ rfl HL.out ad 0 cap [] rfl rfl ?d1 ?d2 ?d3 ?d4 ?d5 ?_)
 intro v' w3 hown hg _;have hb:=grownB HL.out hg (lr _) (bA (bR w) _);have HO:=Lq hown;have HB:=Lq hb;clear hown hg hb HL;go_wp2
 go_ret
 exact⟨v',rfl,HO.out,HB.out⟩
theorem cloneN_any(A:Option Addr)(l:List Nat)(B cap:Nat)(w:World)(hm:l.length≤8)(hR:RdN 1 encN w B A l) :
  Cs 95 #[.slice A l.length cap] w fun e w'=>∃v',e=.returned v'∧w'.ownsRow w.heap.size 3 1 v' l.length (l.flatMap encN)∧BW w w':=by
 rcases Nat.eq_zero_or_pos l.length with h0 | h0
 ·have:l=[]:=List.length_eq_zero_iff.1 h0;subst this;cases A with
  | none =>
   refine(AnyE.slices_Clone_nil Tryz.laysC84 0 cap w).mono ?_;rintro e w' ⟨rfl,rfl⟩;exact⟨_,rfl,World.ownsRow_nil _ _ _ _,bR _⟩
  | some ad=>exact clone0N_any ad cap w
 ·obtain⟨i0,hi,hz0,hz1,hz2⟩:=info_parts Tryz.info3b;obtain⟨b,off,rfl,_,_⟩:=hR 0 _ (gE h0);refine(AnyE.slices_Clone Tryz.laysC84 i0 _ 1 8 hi hz0 hz1 hz2 rfl (by decide) Tryz.sizeOf3 b off l.length cap (l.flatMap encN) w (flat_len encN_len l) (by unfold maxLen;omega) (by omega) (flat_cellsB (by decide) encN_len hR) ?_).mono ?_
  ·intro u hu;obtain⟨c,_,hc⟩:=List.mem_flatMap.1 hu;simp[encN]at hc;subst hc;rfl
  ·rintro e w' ⟨v',rfl,h1,_,h3⟩;exact⟨v',rfl,h1,h3⟩
def Tryz.laysC73_ren:Go.Shelf.Ren:=⟨fun | 41=>87 | n=>n,fun | 22=>37 | 23=>45 | 4=>4 | n=>n,fun | n=>n⟩
theorem Tryz.laysC73:Go.Proofs.SlLaysE0.n41 Tryz.prog Tryz.laysC73_ren:={
 mixed:=by kernel_rfl
 f41:=⟨Tryz.f87.name,by decide,Tryz.func87.trans (congrArg some (by kernel_rfl))⟩
 t4:=Tryz.underlying4
 a4:=Tryz.isAgg4
 z4:=Tryz.sizeOf4
 v4:=Tryz.zeroValue4
 t22:=Tryz.underlying37
 a22:=Tryz.isAgg37
 z22:=Tryz.sizeOf37
 v22:=Tryz.zeroValue37 }
theorem clone0P_any(ad:Addr)(cap:Nat)(w:World) :
  Cs 87 #[.slice (some ad) 0 cap] w fun e w'=>∃v',e=.returned v'∧w'.ownsRow w.heap.size 45 3 v' 0 []∧BW w w':=by
 obtain⟨i0,hi,hz0,hz1,hz2⟩:=info_parts Tryz.info45;have hlit:=World.ownsRow_lit (e:=45) (size:=3) (base:=w.heap.size) w #[] 0 (lr _) (by decide) (by simp)
 have HL:=Lq hlit;clear hlit;have q28:∀(w:World) (a:Option Addr) (n c n' c':Nat),(binOp .eql 37 (.slice a n c) (.slice none n' c')).run Tryz.prog w=.ok (.bool a.isNone) w:=fun w a n c n' c'=>Lib.run_eql_slice_nil w _ _ a n c n' c' Tryz.underlying37
 go_enter Tryz.func87,Tryz.ntmps87
 go_wp2_with (at_builtin;refine wpList_append_own _ rfl _ _ 37 rfl w.heap.size 45 i0 (.agg #[.string ⟨#[]⟩,iv 0,iv 0]) 3 32 Tryz.underlying37 hi hz0 hz1 hz2 rfl (by decide) _ _ _ rfl HL.out ad 0 cap [] rfl rfl ?d1 ?d2 ?d3 ?d4 ?d5 ?_)
 intro v' w3 hown hg _;have hb:=grownB HL.out hg (lr _) (bA (bR w) _);have HO:=Lq hown;have HB:=Lq hb;clear hown hg hb HL;go_wp2
 go_ret
 exact⟨v',rfl,HO.out,HB.out⟩
theorem cloneP_any(A:Option Addr)(l:List Prt)(B cap:Nat)(w:World)(hm:l.length≤8)(hR:RdN 3 encPrt w B A l) :
  Cs 87 #[.slice A l.length cap] w fun e w'=>∃v',e=.returned v'∧w'.ownsRow w.heap.size 45 3 v' l.length (l.flatMap encPrt)∧BW w w':=by
 rcases Nat.eq_zero_or_pos l.length with h0 | h0
 ·have:l=[]:=List.length_eq_zero_iff.1 h0;subst this;cases A with
  | none =>
   refine(AnyE.slices_Clone_nil Tryz.laysC73 0 cap w).mono ?_;rintro e w' ⟨rfl,rfl⟩;exact⟨_,rfl,World.ownsRow_nil _ _ _ _,bR _⟩
  | some ad=>exact clone0P_any ad cap w
 ·obtain⟨i0,hi,hz0,hz1,hz2⟩:=info_parts Tryz.info45;obtain⟨b,off,rfl,_,_⟩:=hR 0 _ (gE h0);refine(AnyE.slices_Clone Tryz.laysC73 i0 _ 3 32 hi hz0 hz1 hz2 rfl (by decide) Tryz.sizeOf45 b off l.length cap (l.flatMap encPrt) w (flat_len encPrt_len l) (by unfold maxLen;omega) (by omega) (flat_cellsB (by decide) encPrt_len hR) ?_).mono ?_
  ·intro u hu;obtain⟨c,_,hc⟩:=List.mem_flatMap.1 hu;simp[encPrt]at hc;rcases hc with rfl | rfl | rfl<;>rfl
  ·rintro e w' ⟨v',rfl,h1,_,h3⟩;exact⟨v',rfl,h1,h3⟩
section
variable{b n:Nat}{w:World}
attribute [local go_sem] Oper.semAt_some
/-! A scope without a goto,within a fence. -/
theorem stepR_scope{P:Program}{b:Frame}{a:Act}{k:List Item}{cs:List Frame}{c:Code}:step P (lone (b.atR a (.code (.scope c)::k)) cs w)=.next (lone (b.atR a (.code c::.inScope c::k)) cs w) :=
 step_lone_go (by simp[stepG,stepG.exec,Frame.atR])
theorem stepR_inScope{P:Program}{b:Frame}{a:Act}{k:List Item}{cs:List Frame}{c:Code}:step P (lone (b.atR a (.inScope c::k)) cs w)=.next (lone (b.atR a k) cs w) :=
 step_lone_go (by simp[stepG,stepG.exec,Frame.atR])
theorem wpIn_scope{F:Fence}{P:Program}{Q:Exit→Act→World→Prop}{a:Act}{c:Code}(h:c.wpIn F n P (Exit.noGoto Q) a w):(Code.scope c).wpIn F n P Q a w:=by
 intro b k cs hro hb hr;have h0:(lone (b.atR a (.code (.scope c)::k)) cs w).fenced P F:=fenced_calm hb hr rfl;obtain⟨e,a₁,w₁,hq,harr⟩:=h b (.inScope c::k) cs hro hb hr;cases e with
 | normal=>exact⟨.normal,a₁,w₁,hq,.head h0 stepR_scope (StepsIn.trans harr (.one (fenced_calm hb hr rfl) stepR_inScope))⟩
 | exit id =>
  have hx:exitTo id (.inScope c::k)=exitTo id k:=by simp[exitTo]
  exact⟨.exit id,a₁,w₁,hq,fun k' hk=>.head h0 stepR_scope (harr.1 k' (by rw[hx];exact hk)),
   fun hr' hk=>let ⟨k₁,h1,h2⟩:=harr.2 hr' (by rw[hx];exact hk);⟨k₁,h1,.head h0 stepR_scope h2⟩⟩
 | goto l=>exact hq.elim
 | ret=>exact⟨_,a₁,w₁,hq,.of_steps (.one h0 stepR_scope) harr⟩
 | panic ch=>exact⟨_,a₁,w₁,hq,.of_steps (.one h0 stepR_scope) harr⟩
 | outgrown=>exact⟨_,a₁,w₁,hq,.of_steps (.one h0 stepR_scope) harr⟩
section
variable {w w':World} {B g:Nat} {h:Hul} {A:Option Addr} {cap:Nat} {J:Option Addr} {capJ:Nat} {N:List Nd} {bs:List Nat} {br km:Nat}
theorem DeckSt.keepM(H:DeckSt w B g h A cap J capJ N bs br km)(hs:w.heap.size≤w'.heap.size)(hc:∀k,k<B→k≠km→w'.heap[k]?=w.heap[k]?):DeckSt w' B g h A cap J capJ N bs br km:=by
 have hg:=hc g H.gB H.gk;obtain⟨B0,r1,r2,r3,r4⟩:=H.rd;refine⟨cell_same H.c0 hg,cell_same H.c1 hg,cell_same H.c2 hg,cell_same H.c3 hg,cell_same H.c4 hg,cell_same H.c5 hg,cell_same H.c6 hg,fun i nd hi=>?_,fun i nd hi b hb=>?_,H.root,⟨B0,r1,r2,r3.same (fun b hb=>hc b (by omega) (by omega)),r4.same (fun b hb=>hc b (by omega) (by omega))⟩,H.gB,H.gk,lT H.hB hs⟩
 ·obtain⟨b,h1,h2,c0,c1,c2,c3,A',cap',c4,hk⟩:=H.tab i nd hi;obtain⟨hbg,hss⟩:=H.off i nd hi b h1;have hb:=hc b h2 hbg;refine⟨b,h1,h2,cell_same c0 hb,cell_same c1 hb,cell_same c2 hb,cell_same c3 hb,A',cap',cell_same c4 hb,fun k j hkj=>?_⟩
  obtain⟨bb,off,bj,e,hbb,hj,hcc⟩:=hk k j hkj;subst e;exact⟨bb,off,bj,rfl,hbb,hj,cell_same hcc (hc bb hbb (hss _ _ _ c4))⟩
 ·obtain⟨b',h1,h2,_,_,_,_,A',cap',c4,_⟩:=H.tab i nd hi;rw[hb]at h1;injection h1 with h1
  subst h1;obtain⟨hbg,hss⟩:=H.off i nd hi b hb;refine⟨hbg,fun ad n cp hcc=>?_⟩
  rw[cell_same c4 (hc b h2 hbg)]at hcc;injection hcc with hcc
  rw[hcc]at c4;exact hss ad n cp c4
theorem KnownAt.same{f:Nat→Int}(hk:KnownAt w km f)(hs:w'.heap[km]?=w.heap[km]?):KnownAt w' km f:=by obtain⟨D,n,ho,h⟩:=hk;obtain⟨es,clock,hb',F,hs',hD⟩:=ho;exact⟨D,n,⟨es,clock,hs.trans hb',F,hs',hD⟩,h⟩
end
theorem flatN(l:List Nat):l.flatMap encN=l.map nv:=by
 induction l with
 | nil=>rfl
 | cons x l ih=>rw[List.flatMap_cons,ih];rfl
def lightS(h:Hul)(N:List Nd)(s:Nat):Bool:=decide (mostV h N s*h.shi≤1000*h.winch)
def lightCut(h:Hul)(N:List Nd)(C:List Nat):Bool:=!anyToB (fun s=>!lightS h N s) (blkTo C h.ps.length) (manyTo C h.ps.length)
def fewStep(h:Hul)(N:List Nd)(r:Nat×List Nat)(C:List Nat):Nat×List Nat:=if manyTo C h.ps.length<r.1&&lightCut h N C then(manyTo C h.ps.length,C)else r
def fewTo(h:Hul)(N:List Nd)(pre:List (List Nat)):Nat×List Nat:=pre.foldl (fewStep h N) (h.ps.length+1,List.replicate 8 0)
def fewOf(h:Hul)(N:List Nd):Nat×List Nat:=fewTo h N (cutsL h.js h.ps.length h.ps.length)
def FewestPost(h:Hul)(l:List Wgh)(w:World)(e:Ending)(w':World):Prop :=
 BW w w'∧((openE h l≠0∧e=.returned (.tuple #[.slice none 0 0,iv (openE h l)]))∨(openE h l=0∧openPre h l=0∧Feas h l∧∃N,IsTree h l N ∧
  ((h.ps.length<(fewOf h N).1∧e=.returned (.tuple #[.slice none 0 0,iv 9])) ∨
   ((fewOf h N).1≤h.ps.length∧∃A cap,e=.returned (.tuple #[.slice A h.ps.length cap,iv 0])∧w'.ownsRow w.heap.size 3 1 (.slice A h.ps.length cap) h.ps.length (((fewOf h N).2.take h.ps.length).map nv)))))
structure FewI(W0:World)(f9 f10 km:Nat)(f:Nat→Int)(r:Nat×List Nat)(W:World):Prop where
 os:W.os=W0.os
 tape:W.tape=W0.tape
 out:W.output=W0.output
 keep:KeepMB (fun k=>k=km∨k=f9∨k=f10) W0 W
 kn:KnownAt W km f
 b9:Blk W f9 3 #[nv r.1]
 b10:Blk W f10 169 (r.2.map nv).toArray
theorem FewI.below{W0 W W':World}{f9 f10 km:Nat}{f:Nat→Int}{r:Nat×List Nat}(h:FewI W0 f9 f10 km f r W)(hb:Below W0.heap.size W W')(h9:f9<W0.heap.size)(h10:f10<W0.heap.size)(hk:km<W0.heap.size):FewI W0 f9 f10 km f r W' :=
 ⟨hb.os.trans h.os,hb.tape.trans h.tape,hb.output.trans h.out,⟨lT h.keep.size hb.size,fun k hm hlt=>(hb.block k hlt).trans (h.keep.same k hm hlt)⟩,h.kn.same (hb.block _ hk),h.b9.same (hb.block _ h9),h.b10.same (hb.block _ h10)⟩
theorem cutsF_mem{js:List (Int×Int)}(hb:b≤8)(hn:n≤8):∀(k:Nat) (p:List Nat) (next:Nat),p.length+k=n→(∀x∈p,x<8)→∀C∈cutsF js n b k p next,C.length=8∧∀x∈C,x<8:=by
 intro k;induction k with
 | zero =>
  intro p next hp hx C hC;unfold cutsF at hC;split at hC
  ·rw[List.mem_singleton]at hC;subst hC;refine⟨by simp[pad];omega,fun x hx'=>?_⟩
   rcases List.mem_append.1 hx' with h | h
   ·exact hx x h
   ·rw[List.mem_replicate]at h;omega
  ·cases hC
 | succ k ih =>
  intro p next hp hx C hC;unfold cutsF at hC;rw[List.mem_flatMap]at hC;obtain⟨i,hi,hC⟩:=hC;rw[List.mem_range]at hi;refine ih (p++[i]) _ (by simp;omega) (fun x hx'=>?_) C hC
  rcases List.mem_append.1 hx' with h | h
  ·exact hx x h
  ·rw[List.mem_singleton.1 h];omega
theorem cutsL_mem{js:List (Int×Int)}(hb:b≤8)(hn:n≤8):∀C∈cutsL js n b,C.length=8∧∀x∈C,x<8:=fun C hC=>cutsF_mem hb hn n [] 0 (by simp) (by simp) C hC
theorem fewTo_len{h:Hul}{N:List Nd}:∀(pre:List (List Nat)) (r:Nat×List Nat),(∀C∈pre,C.length=8)→r.2.length=8→(pre.foldl (fewStep h N) r).2.length=8:=by
 intro pre;induction pre with
 | nil=>intro r _ h;exact h
 | cons C pre ih =>
  intro r hp hr;refine ih _ (fun D hD=>hp D (List.mem_cons_of_mem _ hD)) ?_
  unfold fewStep;split
  ·exact hp C (by simp)
  ·exact hr
theorem fewest_any(h:Hul)(A J:Option Addr)(B cap capJ:Nat)(AL:Option Addr)(l:List Wgh)(capL:Nat)(w:World)(hH:HulRd w B h A cap J capJ)(hL:RdN 3 encWgh w B AL l)(hlc:l.length≤capL)(hB:B≤w.heap.size) :
  Cs 39 #[hv h A cap J capJ,.slice AL l.length capL] w (FewestPost h l w):=by
 obtain⟨W1,hW1,hb0,hz1,p0,p1,p2,p3,p4⟩:=hulBox w h A cap J capJ;have hop:=open_any h A J B cap capJ AL l capL W1 (hH.below hb0 hB) (hL.below hb0 hB) hlc (lT hB hb0.size);have HOP:=Lq hop;have HB0:=Lq hb0;have hz1:w.heap.size≤W1.heap.size:=hb0.size;clear hop hb0 hH hL;refine(callsIn_wide (n:=0)).1 ?_;refine callsIn_of_wp_marks Tryz.func39 rfl trivial ?_ rfl;simp only[Tryz.ntmps39,List.size_toArray,List.length_cons,List.length_nil,Nat.reduceAdd,Nat.reduceSub,Array.replicate_succ,Array.replicate_zero,List.push_toArray,List.append_toArray,List.nil_append,List.cons_append]
 gi_wp2_with (refine wpIn_scope ?_)
 refine⟨trivial,rfl,(callsIn_wide.2 HOP.out).mono ?_⟩;intro e w1 hpost;obtain⟨hb1,hpost⟩:=openPost_cases hpost;have HB1:=Lq (bT HB0.out hb1);have hz2:=hb1.size;clear hb1 HOP hW1 HB0 p0 p1 p2 p3 p4;rcases hpost with⟨hne,rfl⟩ | ⟨h0,hp,hf,N,g,bs,br,km,BD,hN,rfl,HD⟩
 ·obtain⟨E,hE⟩:=ex (openE h l);have HE:=Lq hE;rw[hE]at hne ⊢;have hcb:(E==0)=false:=by simpa using hne
  clear hE
  gi_wp2_with fail
  exact⟨.tuple #[.slice none 0 0,iv E],by simp[results,Tryz.results39,go_sem],bA HB1.out _,.inl ⟨by rw[HE.out];exact hne,by rw[HE.out]⟩⟩
 ·have hk:=hulOk (openPre_zero hp).1;have hn8:=hk.n8;have hT:=treeOk_isTree hp hN;have hkm:=HD.kn.lt;have hk0:=HD.k0;have hg0:=HD.g0;have hgS:g<w1.heap.size:=lz HD.st.gB HD.st.hB;have c0:=HD.st.c0;have HD0:=Lq HD;have HFC:Hid (∀e w',BW w w'→((h.ps.length<(fewOf h N).1∧e=.returned (.tuple #[.slice none 0 0,iv 9]))∨((fewOf h N).1≤h.ps.length∧∃A cap,e=.returned (.tuple #[.slice A h.ps.length cap,iv 0])∧w'.ownsRow w.heap.size 3 1 (.slice A h.ps.length cap) h.ps.length (((fewOf h N).2.take h.ps.length).map nv)))→FewestPost h l w e w'):=Lq fun e w' a b=>⟨a,.inr ⟨h0,hp,hf,N,hN,b⟩⟩
  have HBD:Hid (∀s,s<2^h.ps.length→0≤mostV h N s∧mostV h N s≤42949672960):=Lq fun s hs=>by have:=mostV_bd hp hN hf hs;omega
  clear HD hf h0
  gi_wp2_with fail
  obtain⟨s0,hs0⟩:=ex w1.heap.size;obtain⟨W4,hW4⟩:=ex ((((w1.alloc (.cells #[ptr g] 113)).alloc (.cells #[nv h.ps.length] 3)).alloc (.cells #[iv ((h.ps.length:Int)+1)] 3)).alloc (.cells #[iv 0,iv 0,iv 0,iv 0,iv 0,iv 0,iv 0,iv 0] 169));have hz4:W4.heap.size=s0+4:=by rw[←hW4,←hs0];simp
  have hb4:BW w1 W4:=by rw[←hW4];exact bA (bA (bA (bA (bR _) _) _) _) _
  have b6:Blk W4 s0 113 #[ptr g]:=by rw[←hW4,←hs0];exact(((Blk.new w1 113 _).alloc _).alloc _).alloc _
  have b8:Blk W4 (s0+1) 3 #[nv h.ps.length]:=by
   rw[←hW4,←hs0];have:=((Blk.new (w1.alloc (.cells #[ptr g] 113)) 3 #[nv h.ps.length]).alloc (.cells #[iv ((h.ps.length:Int)+1)] 3)).alloc (.cells #[iv 0,iv 0,iv 0,iv 0,iv 0,iv 0,iv 0,iv 0] 169)
   rwa [World.size_alloc]at this
  have b9:Blk W4 (s0+2) 3 #[nv (h.ps.length+1)]:=by
   rw[←hW4,←hs0];have:=(Blk.new ((w1.alloc (.cells #[ptr g] 113)).alloc (.cells #[nv h.ps.length] 3)) 3 #[nv (h.ps.length+1)]).alloc (.cells #[iv 0,iv 0,iv 0,iv 0,iv 0,iv 0,iv 0,iv 0] 169)
   rwa [World.size_alloc,World.size_alloc]at this
  have b10:Blk W4 (s0+3) 169 ((List.replicate 8 0).map nv).toArray:=by rw[←hW4,←hs0];have:=Blk.new (((w1.alloc (.cells #[ptr g] 113)).alloc (.cells #[nv h.ps.length] 3)).alloc (.cells #[nv (h.ps.length+1)] 3)) 169 #[iv 0,iv 0,iv 0,iv 0,iv 0,iv 0,iv 0,iv 0];rw[World.size_alloc,World.size_alloc,World.size_alloc]at this;exact this
  obtain⟨f8,hf8⟩:=ex (s0+1);obtain⟨f9,hf9⟩:=ex (f8+1);obtain⟨f10,hf10⟩:=ex (f9+1);have e9:s0+2=f9:=by omega
  have e10:s0+3=f10:=by omega
  rw[hf8]at b8;rw[e9]at b9;rw[e10]at b10;have hcu:=cuts_any g A h.ps.length cap h.ps.length W4 (kC hb4 c0);have r6:=b6.cell 0;have r8:=b8.cell 0;rw[hs0,hf8,hf9,hf10];have hgk:km<s0∧g<s0∧s0<f8∧f8<f9∧f9<f10∧f10<W4.heap.size∧w.heap.size≤km∧w.heap.size≤s0∧w.heap.size≤g:=by omega
  have HGK:=Lq hgk
  -- the world in which the loop begins
  obtain⟨W0,hW0⟩:=ex (((W4.alloc (.cells #[ptr g] 113)).alloc (.cells #[nv h.ps.length] 3)).alloc (.cells #[nv h.ps.length] 3));obtain⟨db,hdb⟩:=ex W4.heap.size;have hz0:W0.heap.size=db+3:=by rw[←hW0,←hdb];simp
  have hb0:BW W4 W0:=by rw[←hW0];exact bA (bA (bA (bR _) _) _) _
  have d1:Blk W0 db 113 #[ptr g]:=by rw[←hW0,←hdb];exact((Blk.new W4 113 _).alloc _).alloc _
  have d2:Blk W0 (db+1) 3 #[nv h.ps.length]:=by
   rw[←hW0,←hdb];have:=(Blk.new (W4.alloc (.cells #[ptr g] 113)) 3 #[nv h.ps.length]).alloc (.cells #[nv h.ps.length] 3)
   rwa [World.size_alloc]at this
  have d3:Blk W0 (db+2) 3 #[nv h.ps.length]:=by
   rw[←hW0,←hdb];have:=Blk.new ((W4.alloc (.cells #[ptr g] 113)).alloc (.cells #[nv h.ps.length] 3)) 3 #[nv h.ps.length]
   rwa [World.size_alloc,World.size_alloc]at this
  have hb10:BW w1 W0:=bT hb4 hb0;have hbw:BW w W0:=bT HB1.out hb10;have hds:=HD0.out.st.below hb10;have hkn:=HD0.out.kn.below hb10;have b6':=b6.same (hb0.block _ b6.lt);have b8':=b8.same (hb0.block _ b8.lt);have b9':=b9.same (hb0.block _ b9.lt);have b10':=b10.same (hb0.block _ b10.lt);have hBD:BD≤s0:=by rw[←hs0];exact HD0.out.st.hB
  obtain⟨B0,hB0a,hB0b,rp,rj⟩:=hds.rd;have HI0:Hid (FewI W0 f9 f10 km (mostV h N) (fewTo h N []) W0):=Lq ⟨rfl,rfl,rfl,KeepMB.refl _ _,hkn,b9',b10'⟩;have HCU:=Lq hcu;have HLOOP:Hid (Blk W0 (db+2) 3 #[nv h.ps.length]∧Blk W0 db 113 #[ptr g]∧Blk W0 (db+1) 3 #[nv h.ps.length]∧W0.cell? ⟨g,1,none⟩=some (.slice J h.js.length capJ)∧RdN 2 encSp W0 B0 J h.js):=Lq ⟨d3,d1,d2,hds.c1,rj⟩;have HDS:=Lq hds;have HBW:=Lq hbw;have HB6:Hid (Blk W0 s0 113 #[ptr g]∧Blk W0 f8 3 #[nv h.ps.length]):=Lq ⟨b6',b8'⟩;have hz0':db+3≤W0.heap.size:=by omega
  have hdb':f10<db:=by omega
  rw[hdb]at HCU;clear hcu b6 b8 b9 b10 hb4 hz4 hb0 d1 d2 d3 hb10 hbw hds hkn b6' b8' b9' b10' rj rp e9 e10 hf8 hf9 hf10 hz0 hs0 HD0 hgk
  gi_wp2_with (refine wpIn_label ?_)
  refine⟨trivial,rfl,(callsIn_wide.2 HCU.out).mono ?_⟩;rintro e w5 ⟨rfl,rfl⟩;rw[hW0];clear hW4 hW0 HCU r6 r8 hdb;obtain⟨g1,g2,g3,g4,g5,g6,g7,g8,g9⟩:=HGK.out
  gi_wp2_with fail
  refine rangeFunc_cuts 0 (fun k=>k=km∨k=f9∨k=f10) (db+2) db (db+1) g h.ps.length h.ps.length B0 capJ J h.js rfl HLOOP.out.1 HLOOP.out.2.1 HLOOP.out.2.2.1 HLOOP.out.2.2.2.1 HLOOP.out.2.2.2.2 (by omega) (fun k hk=>by omega) (by omega) (by omega) (by omega) (by have:=HDS.out.gk;omega) (fun k hk=>by omega) hk.n1 hn8 hn8 hk.js hk.j12
   (fun pre W=>FewI W0 f9 f10 km (mostV h N) (fewTo h N pre) W) (fun _ _=>False) ?_ ?_ HI0.out ?_ ?_ ?_
  ·exact fun s X Y hX hb=>hX.below hb (by omega) (by omega) (by omega)
  ·exact fun s X Y hX _=>hX.elim
  ·intro m l2 pre C W hI hpre hsz;obtain⟨hcl,hc8⟩:=cutsL_mem hn8 hn8 C (hpre.subset (List.mem_append_right pre (List.mem_singleton.2 rfl)));have hcv:cutV C=.agg (C.map nv).toArray:=rfl;obtain⟨c0,c1,c2,c3,c4,c5,c6,c7,hce⟩:=eight hcl;have hcv2:cutV C=.agg #[nv c0,nv c1,nv c2,nv c3,nv c4,nv c5,nv c6,nv c7]:=by rw[hce];rfl
   rw[hcv2]
   gi_wp2
   refine⟨bA (bR _) _, ?_⟩;intro W2 hI2 hg2 hs2;obtain⟨f11,hf11⟩:=ex W.heap.size;have b11:Blk W2 f11 169 (C.map nv).toArray:=by rw[←hf11,hce];exact(Blk.new W 169 #[nv c0,nv c1,nv c2,nv c3,nv c4,nv c5,nv c6,nv c7]).grown hg2 (fun e=>by injection e with e;omega)
   have hs2':f11<W2.heap.size:=b11.lt;have hf11':W0.heap.size+2<f11:=by omega
   have hsn:fewTo h N (pre++[C])=fewStep h N (fewTo h N pre) C:=by unfold fewTo;rw[List.foldl_append];rfl
   obtain⟨r,hr⟩:=ex (fewTo h N pre);rw[hr]at hI2 hsn;rw[hf11];have hbl8:r.2.length=8:=by rw[←hr];exact fewTo_len pre _ (fun D hD=>(cutsL_mem hn8 hn8 D (hpre.subset (List.mem_append_left _ hD))).1) (by simp)
   have HBL:=Lq hbl8;clear hbl8;obtain⟨few,best⟩:=r;have nM:∀k,k<W0.heap.size→k≠km→k≠f9→k≠f10→W2.heap[k]?=W0.heap[k]?:=fun k hk h1 h2 h3=>hI2.keep.same k (by omega) hk
   have b6:=HB6.out.1.same (nM s0 (by omega) (by omega) (by omega) (by omega))
   have b8:=HB6.out.2.same (nM f8 (by omega) (by omega) (by omega) (by omega))
   have hds:=HDS.out.keepM hI2.keep.size (fun k hk hne=>nM k (by omega) hne (by omega) (by omega))
   have hblk:=blocks_any C h.ps.length W2 hcl hc8 hn8;obtain⟨S,hS⟩:=ex (blkTo C h.ps.length);obtain⟨K,hK⟩:=ex (manyTo C h.ps.length);have hSl:S.length=8:=by rw[←hS];exact blkTo_len _ _
   have hS256:∀x∈S,x<256:=by rw[←hS];exact blkTo_lt _ _ hn8
   have hS2:∀x∈S,x<2^h.ps.length:=by rw[←hS];exact blkTo_lt2 _ _
   have hK8:K≤8:=by rw[←hK];exact manyTo_le hc8 _
   have hst:fewStep h N (few,best) C=if K<few&&!anyToB (fun s=>!lightS h N s) S K then(K,C)else(few,best):=by unfold fewStep lightCut;rw[hS,hK]
   obtain⟨s0',s1,s2,s3,s4,s5,s6,s7,hse⟩:=eight hSl;have hsv:cutV S=.agg #[nv s0',nv s1,nv s2,nv s3,nv s4,nv s5,nv s6,nv s7]:=by rw[hse];rfl
   unfold BlocksPost at hblk;rw[hcv2,hS,hK,hsv]at hblk;have hcl2:∀i x,C[i]?=some x→W2.cell? ⟨f11,i,none⟩=some (nv x):=fun i x hx=>b11.nat hx
   rw[hce]at hcl2;have r0:W2.cell? ⟨f11,0,none⟩=some (nv c0):=hcl2 0 _ rfl;have r1:W2.cell? ⟨f11,1,none⟩=some (nv c1):=hcl2 1 _ rfl;have r2:W2.cell? ⟨f11,2,none⟩=some (nv c2):=hcl2 2 _ rfl;have r3:W2.cell? ⟨f11,3,none⟩=some (nv c3):=hcl2 3 _ rfl;have r4:W2.cell? ⟨f11,4,none⟩=some (nv c4):=hcl2 4 _ rfl;have r5:W2.cell? ⟨f11,5,none⟩=some (nv c5):=hcl2 5 _ rfl;have r6:W2.cell? ⟨f11,6,none⟩=some (nv c6):=hcl2 6 _ rfl;have r7:W2.cell? ⟨f11,7,none⟩=some (nv c7):=hcl2 7 _ rfl;have r8:W2.cell? ⟨f8,0,none⟩=some (nv h.ps.length):=b8.cell 0;have HBLK:=Lq hblk;have HI2:=Lq hI2;have HSN:=Lq hsn;have HST:=Lq hst;have HSE:=Lq hse;have HCE:=Lq hce;have HDS2:=Lq hds;have B6:=Lq b6;have B11:=Lq b11;have hsl:=fun W gg=>slice122 W gg K hK8
   have hz20:=hI2.keep.size;clear hblk hI2 hsn hst hse hds b6 b8 b11 hS hK hsv hcv hcv2 hce hcl2 nM hI hg2 hs2 hr hf11 hpre hsz W
   gi_wp2_with fail
   refine⟨trivial,hdd _,(CallsIn.inRound l2 (callsIn_wide.2 HBLK.out)).mono ?_⟩;rintro e w3 ⟨rfl,hb3⟩;obtain⟨w4,hw4⟩:=ex (w3.alloc (.cells #[nv s0',nv s1,nv s2,nv s3,nv s4,nv s5,nv s6,nv s7] 168));have b12:Blk w4 w3.heap.size 168 (S.map nv).toArray:=by rw[←hw4,HSE.out];exact Blk.new w3 168 _
   have hb4:BW W2 w4:=bT hb3 (by rw[←hw4];exact bA (bR _) _)
   have hI4:=HI2.out.below (hb4.mono hz20) (by omega) (by omega) (by omega)
   have hds4:=HDS2.out.below hb4;have b6':=B6.out.same (hb4.block _ B6.out.lt);have b11':=B11.out.same (hb4.block _ B11.out.lt);have r9:w4.cell? ⟨f9,0,none⟩=some (nv few):=hI4.b9.cell 0;have hz3:=hb3.size;have hz4:=hb4.size;obtain⟨f12,hf12⟩:=ex w3.heap.size;rw[hf12]at b12 hz3;have hb12:=b12.lt;have HB4:=Lq hb4;have HI4:=Lq hI4;have HDS4:=Lq hds4;have B6:=Lq b6';have B11:=Lq b11';have B12:=Lq b12;clear hb3 hb4 hI4 hds4 b6' b11' b12 HDS2 r0 r1 r2 r3 r4 r5 r6 r7 r8 HBLK;have HW4:=Lq hw4;by_cases hkf:K<few
   case neg =>
    have hr:fewTo h N (pre++[C])=(few,best):=by rw[HSN.out,HST.out];simp[hkf]
    have HR:=Lq hr;clear hr
    gi_wp2_with fail
    exact⟨KeepMB.of_below HB4.out,by show FewI W0 f9 f10 km (mostV h N) (fewTo h N (pre++[C])) w4;rw[HR.out];exact HI4.out⟩
   case pos =>
   have hkz:decide ((few:Int)≤(K:Int))=false:=by simp;omega
   have hkn':decide (few≤K)=false:=by simp;omega
   gi_wp2_with fail
   clear hf12 hw4 hsl hkz hkn'
   gi_loopw [49] (fun vi wr=>∃i:Nat,i≤K∧vi=iv i∧Hid (OnlyAt w4 wr km)∧Hid (KnownAt wr km (mostV h N))∧Hid (∀j,j<i→lightS h N (S[j]?.getD 0)=true)) (fun vi _=>K-(intOf vi).toNat)
   case atStart=>exact⟨0,Nat.zero_le _,rfl,Lq (OnlyAt.refl w4 km),Lq HI4.out.kn,Lq (fun j hj=>by omega)⟩
   case round =>
    obtain⟨i,hi,rfl,HO,HK,HG⟩:=hrel;have HIr:Hid (FewI W0 f9 f10 km (mostV h N) (few,best) wr):=Lq
     ⟨HO.out.os.trans HI4.out.os,HO.out.tape.trans HI4.out.tape,HO.out.output.trans HI4.out.out,HI4.out.keep.trans ⟨HO.out.size,fun k hk hlt=>HO.out.block k hlt (fun e=>hk (.inl e))⟩,HK.out,HI4.out.b9.same (HO.out.block _ HI4.out.b9.lt (by omega)),HI4.out.b10.same (HO.out.block _ HI4.out.b10.lt (by omega))⟩
    have HKr:Hid (KeepMB (fun k=>k=km∨k=f9∨k=f10) W2 wr):=Lq ((KeepMB.of_below HB4.out).trans (KeepMB.of_only HO.out (.inl rfl)))
    have hzr:=HO.out.size;by_cases hlt2:i<K
    ·obtain⟨s,hs⟩:=gX (l:=S) (i:=i) (by omega)
     have hsm:=List.mem_of_getElem? hs;have hs256:=hS256 s hsm;have e0:wr.cell? ⟨f12,i,none⟩=some (nv s):=HO.out.cell (B12.out.nat hs) (by omega)
     have e6:wr.cell? ⟨s0,0,none⟩=some (ptr g):=HO.out.cell (B6.out.cell 0) (by omega)
     have hli:=light_any (HDS4.out.only HO.out (.inl rfl)) hT HK.out s hs256 (by have:=hk.s1;have:=hk.s2;have:=hk.s3;omega) (by have:=hk.w1;have:=hk.w2;omega) (HBD.out s (hS2 s hsm))
     have hgs:lightS h N (S[i]?.getD 0)=decide (mostV h N s*h.shi≤1000*h.winch):=by rw[hs];rfl
     obtain⟨q2,hq2⟩:=ex (decide (mostV h N s*h.shi≤1000*h.winch));rw[hq2]at hli hgs;have HGS:=Lq hgs;have HLI:=Lq hli;clear hli hgs hq2 hs
     gi_wp2_with fail
     refine⟨trivial,hdd _,(CallsIn.inRound l2 (callsIn_wide.2 HLI.out)).mono ?_⟩;rintro e w7 ⟨rfl,ho7,hk7⟩;have HO7:=Lq ho7;have HK7:=Lq hk7;clear ho7 hk7 e0 e6;cases q2
     ·have hr:fewTo h N (pre++[C])=(few,best):=by
       have ha:anyToB (fun s=>!lightS h N s) S K=true:=by unfold anyToB;rw[List.any_eq_true];exact⟨i,by simpa using hlt2,by show(!lightS h N (S[i]?.getD 0))=true;rw[HGS.out];rfl⟩
       rw[HSN.out,HST.out,ha];simp
      have HR:=Lq hr;clear hr
      gi_wp2_with fail
      refine⟨HKr.out.trans (KeepMB.of_only HO7.out (.inl rfl)), ?_⟩;simp only[HR.out];have hI:=HIr.out;exact⟨HO7.out.os.trans hI.os,HO7.out.tape.trans hI.tape,HO7.out.output.trans hI.out,hI.keep.trans ⟨HO7.out.size,fun k hk hlt=>HO7.out.block k hlt (fun e=>hk (.inl e))⟩,HK7.out,hI.b9.same (HO7.out.block _ hI.b9.lt (by omega)),hI.b10.same (HO7.out.block _ hI.b10.lt (by omega))⟩
     ·gi_wp2_with fail
      go_roundw
      case rel=>exact⟨i+1,by omega,by go_num,Lq (HO.out.trans HO7.out),HK7,Lq fun j hj=>by
       rcases Nat.lt_or_ge j i with hji | hji
       ·exact HG.out j hji
       ·obtain rfl:j=i:=by omega
        exact HGS.out⟩
      case measure=>simp[intOf];omega
    ·obtain rfl:i=K:=by omega
     have hr:fewTo h N (pre++[C])=(i,C):=by
      have ha:anyToB (fun s=>!lightS h N s) S i=false:=by
       unfold anyToB;rw[List.any_eq_false];intro j hj;show ¬(!lightS h N (S[j]?.getD 0))=true
       rw[HG.out j (by simpa using hj)]
       simp
      rw[HSN.out,HST.out,ha];simp[hkf]
     have HR:=Lq hr;clear hr;have hb11:Blk wr f11 169 (C.map nv).toArray:=B11.out.same (HO.out.block _ B11.out.lt (by omega))
     rw[HCE.out]at hb11;have hb9:=HIr.out.b9;have hb10:=HIr.out.b10;have hbl:best.length=8:=HBL.out;have hmx:Tryz.prog.follows .mixedOrders=true:=by kernel_rfl
     obtain⟨g0',g1',g2',g3',g4',g5',g6',g7',hge⟩:=eight hbl;simp only at hb9 hb10;rw[hge]at hb10;have y9:wr.cell? ⟨f9,0,none⟩=some (nv few):=hb9.cell 0;have zJ:=hb9.frozen 0;have d0:wr.cell? ⟨f10,0,none⟩=some (nv g0'):=hb10.nat rfl;have x0:=hb10.frozen 0;have r0:wr.cell? ⟨f11,0,none⟩=some (nv c0):=hb11.nat rfl;have d1:wr.cell? ⟨f10,1,none⟩=some (nv g1'):=hb10.nat rfl;have x1:=hb10.frozen 1;have r1:wr.cell? ⟨f11,1,none⟩=some (nv c1):=hb11.nat rfl;have d2:wr.cell? ⟨f10,2,none⟩=some (nv g2'):=hb10.nat rfl;have x2:=hb10.frozen 2;have r2:wr.cell? ⟨f11,2,none⟩=some (nv c2):=hb11.nat rfl;have d3:wr.cell? ⟨f10,3,none⟩=some (nv g3'):=hb10.nat rfl;have x3:=hb10.frozen 3;have r3:wr.cell? ⟨f11,3,none⟩=some (nv c3):=hb11.nat rfl;have d4:wr.cell? ⟨f10,4,none⟩=some (nv g4'):=hb10.nat rfl;have x4:=hb10.frozen 4;have r4:wr.cell? ⟨f11,4,none⟩=some (nv c4):=hb11.nat rfl;have d5:wr.cell? ⟨f10,5,none⟩=some (nv g5'):=hb10.nat rfl;have x5:=hb10.frozen 5;have r5:wr.cell? ⟨f11,5,none⟩=some (nv c5):=hb11.nat rfl;have d6:wr.cell? ⟨f10,6,none⟩=some (nv g6'):=hb10.nat rfl;have x6:=hb10.frozen 6;have r6:wr.cell? ⟨f11,6,none⟩=some (nv c6):=hb11.nat rfl;have d7:wr.cell? ⟨f10,7,none⟩=some (nv g7'):=hb10.nat rfl;have x7:=hb10.frozen 7;have r7:wr.cell? ⟨f11,7,none⟩=some (nv c7):=hb11.nat rfl;have HB9:=Lq hb9;have HB10:=Lq hb10;clear hb9 hb10 hb11;have hfin:KeepMB (fun k=>k=km∨k=f9∨k=f10) W2 (((((((((wr.setCell ⟨f9,0,none⟩ (nv i)).setCell ⟨f10,0,none⟩ (nv c0)).setCell ⟨f10,1,none⟩ (nv c1)).setCell ⟨f10,2,none⟩ (nv c2)).setCell ⟨f10,3,none⟩ (nv c3)).setCell ⟨f10,4,none⟩ (nv c4)).setCell ⟨f10,5,none⟩ (nv c5)).setCell ⟨f10,6,none⟩ (nv c6)).setCell ⟨f10,7,none⟩ (nv c7)).drew∧FewI W0 f9 f10 km (mostV h N) (fewTo h N (pre++[C])) (((((((((wr.setCell ⟨f9,0,none⟩ (nv i)).setCell ⟨f10,0,none⟩ (nv c0)).setCell ⟨f10,1,none⟩ (nv c1)).setCell ⟨f10,2,none⟩ (nv c2)).setCell ⟨f10,3,none⟩ (nv c3)).setCell ⟨f10,4,none⟩ (nv c4)).setCell ⟨f10,5,none⟩ (nv c5)).setCell ⟨f10,6,none⟩ (nv c6)).setCell ⟨f10,7,none⟩ (nv c7)).drew:=by
      obtain⟨X9,hX9⟩:=ex (wr.setCell ⟨f9,0,none⟩ (nv i));have k9:KeepMB (fun k=>k=km∨k=f9∨k=f10) wr X9:=by rw[←hX9];exact KeepMB.set_ _ _ (.inr (.inl rfl))
      have b10:Blk X9 f10 169 #[nv g0',nv g1',nv g2',nv g3',nv g4',nv g5',nv g6',nv g7']:=by rw[←hX9];exact HB10.out.far (by simp only;omega) _
      have b9:Blk X9 f9 3 #[nv i]:=by rw[←hX9];have:=HB9.out.set_ 0 (nv i);simpa using this
      have o9:X9.os=wr.os∧X9.tape=wr.tape∧X9.output=wr.output:=by rw[←hX9];exact⟨rfl,rfl,rfl⟩
      have kn9:KnownAt X9 km (mostV h N):=HK.out.same (by rw[←hX9];exact Below.heap_setCell _ _ _ _ (by simp only;omega))
      have hz9:X9.heap.size=wr.heap.size:=by rw[←hX9];simp
      rw[hX9];obtain⟨Y,hY⟩:=ex ((((((((X9.setCell ⟨f10,0,none⟩ (nv c0)).setCell ⟨f10,1,none⟩ (nv c1)).setCell ⟨f10,2,none⟩ (nv c2)).setCell ⟨f10,3,none⟩ (nv c3)).setCell ⟨f10,4,none⟩ (nv c4)).setCell ⟨f10,5,none⟩ (nv c5)).setCell ⟨f10,6,none⟩ (nv c6)).setCell ⟨f10,7,none⟩ (nv c7));have y10:Blk Y f10 169 #[nv c0,nv c1,nv c2,nv c3,nv c4,nv c5,nv c6,nv c7]:=by rw[←hY];exact b10.set8 _ _ _ _ _ _ _ _
      have by0:Below f10 X9 Y:=by
       rw[←hY];have hle:∀o,f10≤(⟨f10,o,none⟩:Addr).block:=fun _=>lr _
       exact(((((((((Below.refl f10 X9).setCell (hle 0) _).setCell (hle 1) _).setCell (hle 2) _).setCell (hle 3) _).setCell (hle 4) _).setCell (hle 5) _).setCell (hle 6) _).setCell (hle 7) _)
      have hys:∀k,k≠f10→Y.heap[k]?=X9.heap[k]?:=fun k hk=>by
       rw[←hY];have hne:∀o,k≠(⟨f10,o,none⟩:Addr).block:=fun _=>hk
       exact(Below.heap_setCell _ _ _ _ (hne 7)).trans ((Below.heap_setCell _ _ _ _ (hne 6)).trans ((Below.heap_setCell _ _ _ _ (hne 5)).trans ((Below.heap_setCell _ _ _ _ (hne 4)).trans ((Below.heap_setCell _ _ _ _ (hne 3)).trans ((Below.heap_setCell _ _ _ _ (hne 2)).trans ((Below.heap_setCell _ _ _ _ (hne 1)).trans (Below.heap_setCell _ _ _ _ (hne 0))))))))
      have ky:KeepMB (fun k=>k=km∨k=f9∨k=f10) X9 Y:=⟨by0.size,fun k hk _=>hys k (fun e=>hk (.inr (.inr e)))⟩
      have kall:=(HKr.out.trans k9).trans ky;rw[hY];rw[HR.out];refine⟨⟨kall.size,kall.same⟩, ?_⟩;have hI:=HIr.out;have kI:=(hI.keep.trans k9).trans ky;exact⟨by0.os.trans (o9.1.trans hI.os),by0.tape.trans (o9.2.1.trans hI.tape),by0.output.trans (o9.2.2.trans hI.out),⟨kI.size,kI.same⟩,(kn9.same (hys km (by omega))).drew,b9.same (hys f9 (by omega)),by rw[HCE.out];exact y10⟩
     have HFIN:=Lq hfin;clear hfin
     gi_wp2_with fail
     gi_region_with_o (fail)
     all_goals exact HFIN.out
  ·intro W hI hsz hD;have HF:Hid (fewOf h N=fewTo h N (cutsL h.js h.ps.length h.ps.length)):=Lq rfl;have hbl8:(fewTo h N (cutsL h.js h.ps.length h.ps.length)).2.length=8:=fewTo_len _ _ (fun D hD=>(cutsL_mem hn8 hn8 D hD).1) (by simp)
   obtain⟨r,hr⟩:=ex (fewTo h N (cutsL h.js h.ps.length h.ps.length));rw[hr]at hI HF hbl8;have HFC2:=HFC.out;rw[HF.out]at HFC2;have HFC:=Lq HFC2;obtain⟨few,best⟩:=r;simp only at hbl8;have hbS:BW w W:=⟨hI.os.trans HBW.out.os,hI.tape.trans HBW.out.tape,hI.out.trans HBW.out.output,lT HBW.out.size hI.keep.size,fun k hk=>(hI.keep.same k (by omega) (lz hk HBW.out.size)).trans (HBW.out.block k hk)⟩
   have b8:=HB6.out.2.same (hI.keep.same f8 (by omega) (by omega))
   have y8:W.cell? ⟨f8,0,none⟩=some (nv h.ps.length):=b8.cell 0;have y9:W.cell? ⟨f9,0,none⟩=some (nv few):=hI.b9.cell 0;have HBS:=Lq hbS;have HD:=Lq hD;have B10:=Lq hI.b10;have hlt0:W0.heap.size<W.heap.size:=by omega
   clear hbS hD hI b8 HFC2 hr HF HI0 HLOOP HDS HBW HB6;by_cases hfn:h.ps.length<few
   ·gi_wp2_with fail
    refine⟨by simp,.inl ⟨_,_,rfl,run_takeDeferred HD.out, ?_⟩⟩
    refine⟨.tuple #[.slice none 0 0,iv 9],by simp[results,Tryz.results39,go_sem],HFC.out _ _ (HBS.out.trans (below_putObj _ (by omega) _)) (.inl ⟨hfn,rfl⟩)⟩
   ·have hsl:=fun W=>slice123 W f10 h.ps.length hn8
    have hcl:=cloneN_any (some ⟨f10,0,none⟩) (best.take h.ps.length) W.heap.size 8 W (by simp;omega) (fun i x hx=>⟨f10,0,rfl,B10.out.lt,fun j u hu=>by
     have hil:=(lG hx);rw[List.length_take]at hil;rw[List.getElem?_take_of_lt (by omega)]at hx
     have hj:j=0:=by have:=(lG hu);simp[encN]at this;omega
     subst hj;simp only[encN,List.getElem?_cons_zero,Option.some.injEq]at hu;subst hu;have:=B10.out.nat hx
     simpa using this⟩)
    have hl:(best.take h.ps.length).length=h.ps.length:=by rw[List.length_take];omega
    rw[hl]at hcl;have HCL:=Lq hcl;clear hcl
    gi_wp2_with fail
    refine⟨trivial,rfl,(callsIn_wide.2 HCL.out).mono ?_⟩;rintro e w8 ⟨v8,rfl,hown,hb8⟩;obtain⟨g8',cap8,rfl,hg81,hg82,_⟩:=own_form hown (by have:=hk.n1;omega)
    have HB8:=Lq hb8;have HO8:=Lq hown;have hD8:Hid (w8.heap[W0.heap.size]?=some (.deferred (some []))):=Lq ((hb8.block _ hlt0).trans HD.out);have hz8:=hb8.size;clear hb8 hown hsl y8 y9
    gi_wp2_with fail
    refine⟨by simp,.inl ⟨_,_,rfl,run_takeDeferred hD8.out, ?_⟩⟩
    have hown2:=HO8.out.kept (grownPutB w8 W0.heap.size (.deferred none)) (.inr (fun e=>by have:=(HO8.out.lt _ e).1;omega))
    refine⟨.tuple #[.slice (some ⟨g8',0,none⟩) h.ps.length cap8,iv 0],by simp[results,Tryz.results39,go_sem],HFC.out _ _ ((bT HBS.out HB8.out).trans (below_putObj _ (by have:=HBS.out.size;omega) _)) (.inr ⟨by omega,_,cap8,rfl, ?_⟩)⟩
    rw[flatN]at hown2;exact own_baseB hown2 (by have:=HBS.out.size;omega)
  ·exact fun pre W _ hX=>hX.elim
end
section
variable{Q:Exit→Act→World→Prop}{K c0 c1 c2 c3 c4 c5 c6 c7 cap g gc gg gt n s0 s1 s2 s3 s4 s5 s6 s7:Nat}{A:Option Addr}{zA zB zK zL zM zN zO zX zY zZ za zb zc zd zD ze zE zG zH zI zJ:Value}{V w:World}
def regionNo2B(n:Nat):Code→Option Code
 | .region id ops d=>if id=n then some (.region id ops d)else none
 | .seq a b=>match regionNo2B n a with
  | some c=>some c
  | none=>regionNo2B n b
 | .cond _ a b=>match regionNo2B n a with
  | some c=>some c
  | none=>regionNo2B n b
 | .block _ c=>regionNo2B n c
 | .loop c=>regionNo2B n c
 | .scope c=>regionNo2B n c
 | .rangeFunc _ _ a b=>match regionNo2B n a with
  | some c=>some c
  | none=>regionNo2B n b
 | _=>none
noncomputable def regionOf2B(f:Func)(n:Nat):Code:=(f.body.bind (regionNo2B n)).getD .skip
noncomputable def ops117_3:Array Oper:=opsOf (regionOf2B Tryz.f135 3)
abbrev hE141(n K c0 c1 c2 c3 c4 c5 c6 c7 s0 s1 s2 s3 s4 s5 s6 s7:Nat):Prop:=∀W,Cs 91 #[.agg #[nv c0,nv c1,nv c2,nv c3,nv c4,nv c5,nv c6,nv c7],iv n] W (Rt W (.tuple #[.agg #[nv s0,nv s1,nv s2,nv s3,nv s4,nv s5,nv s6,nv s7],nv K]))
abbrev hE142(Q:Exit→Act→World→Prop)(V:World)(gt gc K s0 s1 s2 s3 s4 s5 s6 s7:Nat)(zA zB zD zE zI zJ zK zL zM zN za zb zc zd ze:Value):Prop:=∀gg u14 u15 u16 u17 u18 u19 u20 u21 u22 u23 u24 u25 wx,V.heap.size≤gg→gg<wx.heap.size→BW V wx→Blk wx gg 168 #[nv s0,nv s1,nv s2,nv s3,nv s4,nv s5,nv s6,nv s7]→Q .normal ⟨#[zA,zB,pT gt 0,zD,zE,pT gc 0,pT gg 0,nv K,zI,zJ,zK,zL,zM,zN,u14,u15,u16,u17,u18,u19,u20,u21,u22,u23,u24,u25,za,zb,zc,zd,ze],[]⟩ wx
theorem st117_full(hbk:hE141 n K c0 c1 c2 c3 c4 c5 c6 c7 s0 s1 s2 s3 s4 s5 s6 s7)(hQ:hE142 Q V gt gc K s0 s1 s2 s3 s4 s5 s6 s7 zA zB zD zE zI zJ zK zL zM zN za zb zc zd ze)(hS:BW V w)(hg:V.heap.size≤gg)(hb:Blk w gg 168 #[iv 0,iv 0,iv 0,iv 0,iv 0,iv 0,iv 0,iv 0]) :
  wpAnyH Tryz.prog .any ops117_3 (OnlyN Q) (fun W=>BW V W) 2 #[true,true,true,true,true,true,true,true,true,true,true,true,true,false,false] ⟨#[zA,zB,pT gt 0,zD,zE,pT gc 0,pT gg 0,zH,zI,zJ,zK,zL,zM,zN,.tuple #[.agg #[nv s0,nv s1,nv s2,nv s3,nv s4,nv s5,nv s6,nv s7],nv K],.agg #[nv c0,nv c1,nv c2,nv c3,nv c4,nv c5,nv c6,nv c7],pT gt 0,ptr g,ptr g,pT g 0,pT g 0,.slice A n cap,iv n,.tuple #[.agg #[nv s0,nv s1,nv s2,nv s3,nv s4,nv s5,nv s6,nv s7],nv K],.agg #[nv s0,nv s1,nv s2,nv s3,nv s4,nv s5,nv s6,nv s7],nv K,za,zb,zc,zd,ze],[]⟩ w:=by
 have _used:=hbk;refine wpAnyH_ready (rs:=[13]) (by kernel_rfl) (by simp) ?_
 refine AllReadyH.cons (o:=opN ops117_3 13) (by kernel_rfl) (fun K' hK=>?_) AllReadyH.nil
 obtain⟨o,e⟩:∃o,o=opN ops117_3 13:=⟨_,rfl⟩;rw[←e];conv at e=>rhs;whnf
 subst e;have hbx:=below8 hS hg (nv s0) (nv s1) (nv s2) (nv s3) (nv s4) (nv s5) (nv s6) (nv s7);have hblk:=hb.set8 (nv s0) (nv s1) (nv s2) (nv s3) (nv s4) (nv s5) (nv s6) (nv s7);have hlt:=hb.lt;have e0:=hb.cell 0;have f0:=hb.frozen 0;have e1:=hb.cell 1;have f1:=hb.frozen 1;have e2:=hb.cell 2;have f2:=hb.frozen 2;have e3:=hb.cell 3;have f3:=hb.frozen 3;have e4:=hb.cell 4;have f4:=hb.frozen 4;have e5:=hb.cell 5;have f5:=hb.frozen 5;have e6:=hb.cell 6;have f6:=hb.frozen 6;have e7:=hb.cell 7;have f7:=hb.frozen 7;go_simp;refine hK.out _ _ hbx (fun hHeld=>?_)
 clear hK e0 e1 e2 e3 e4 e5 e6 e7 f0 f1 f2 f3 f4 f5 f6 f7
 (try simp only[List.setIfInBounds_toArray,List.set_cons_zero,List.set_cons_succ])
 obtain⟨wx,hwx⟩:=ex (((((((((w.setCell ⟨gg,0,none⟩ (nv s0)).setCell ⟨gg,1,none⟩ (nv s1)).setCell ⟨gg,2,none⟩ (nv s2)).setCell ⟨gg,3,none⟩ (nv s3)).setCell ⟨gg,4,none⟩ (nv s4)).setCell ⟨gg,5,none⟩ (nv s5)).setCell ⟨gg,6,none⟩ (nv s6)).setCell ⟨gg,7,none⟩ (nv s7)));have hwz:wx.heap.size=w.heap.size:=by rw[←hwx];simp
 rw[hwx]at hbx hblk hHeld ⊢;clear hwx;refine tk 14 (nv K) ?_;refine wpAnyH_done (by kernel_rfl) ?_ _
 exact hQ gg _ _ _ _ _ _ _ _ _ _ _ _ wx hg (by omega) hbx hblk
theorem st117_b(hbk:hE141 n K c0 c1 c2 c3 c4 c5 c6 c7 s0 s1 s2 s3 s4 s5 s6 s7)(hQ:hE142 Q V gt gc K s0 s1 s2 s3 s4 s5 s6 s7 zA zB zD zE zI zJ zK zL zM zN za zb zc zd ze)(hS:BW V w)  :
  wpAnyH Tryz.prog .any ops117_3 (OnlyN Q) (fun W=>BW V W) 3 #[true,true,true,true,true,true,true,true,true,true,true,true,false,false,false] ⟨#[zA,zB,pT gt 0,zD,zE,pT gc 0,zG,zH,zI,zJ,zK,zL,zM,zN,.tuple #[.agg #[nv s0,nv s1,nv s2,nv s3,nv s4,nv s5,nv s6,nv s7],nv K],.agg #[nv c0,nv c1,nv c2,nv c3,nv c4,nv c5,nv c6,nv c7],pT gt 0,ptr g,ptr g,pT g 0,pT g 0,.slice A n cap,iv n,.tuple #[.agg #[nv s0,nv s1,nv s2,nv s3,nv s4,nv s5,nv s6,nv s7],nv K],.agg #[nv s0,nv s1,nv s2,nv s3,nv s4,nv s5,nv s6,nv s7],nv K,za,zb,zc,zd,ze],[]⟩ w:=by
 refine wpAnyH_ready (rs:=[12]) (by kernel_rfl) (by simp) ?_
 refine AllReadyH.cons (o:=opN ops117_3 12) (by kernel_rfl) (fun K' hK=>?_) AllReadyH.nil
 obtain⟨o,e⟩:∃o,o=opN ops117_3 12:=⟨_,rfl⟩;rw[←e];conv at e=>rhs;whnf
 subst e;go_simp;refine hK.out _ _ (bA hS _) (fun hHeld=>?_)
 exact st117_full hbk hQ (bA hS _) hS.size (Blk.new w 168 _)
theorem st117_c(hbk:hE141 n K c0 c1 c2 c3 c4 c5 c6 c7 s0 s1 s2 s3 s4 s5 s6 s7)(hQ:hE142 Q V gt gc K s0 s1 s2 s3 s4 s5 s6 s7 zA zB zD zE zI zJ zK zL zM zN za zb zc zd ze)(hS:BW V w)(hg:V.heap.size≤gg)(hb:Blk w gg 168 #[iv 0,iv 0,iv 0,iv 0,iv 0,iv 0,iv 0,iv 0]) :
  wpAnyH Tryz.prog .any ops117_3 (OnlyN Q) (fun W=>BW V W) 6 #[true,true,true,true,true,true,true,true,false,false,false,false,true,false,false] ⟨#[zA,zB,pT gt 0,zD,zE,pT gc 0,pT gg 0,zH,zI,zJ,zK,zL,zM,zN,zO,.agg #[nv c0,nv c1,nv c2,nv c3,nv c4,nv c5,nv c6,nv c7],pT gt 0,ptr g,ptr g,pT g 0,pT g 0,.slice A n cap,iv n,zX,zY,zZ,za,zb,zc,zd,ze],[]⟩ w:=by
 refine wpAnyH_ready (rs:=[8]) (by kernel_rfl) (by simp) ?_
 refine AllReadyH.cons (o:=opN ops117_3 8) (by kernel_rfl) (fun K' hK=>?_) ?_
 ·obtain⟨o,e⟩:∃o,o=opN ops117_3 8:=⟨_,rfl⟩;rw[←e];conv at e=>rhs;whnf
  subst e;go_simp;refine(hbk w).mono ?_;rintro e w1 ⟨rfl,hb1⟩;refine hK.out _ _ (bT hS hb1) (fun hHeld=>?_)
  clear hK
  (try simp only[List.setIfInBounds_toArray,List.set_cons_zero,List.set_cons_succ])
  refine tk 9 (.tuple #[.agg #[nv s0,nv s1,nv s2,nv s3,nv s4,nv s5,nv s6,nv s7],nv K]) ?_;refine tk 10 (.agg #[nv s0,nv s1,nv s2,nv s3,nv s4,nv s5,nv s6,nv s7]) ?_;refine tk 11 (nv K) ?_;exact st117_full hbk hQ (bT hS hb1) hg (hb.same (hb1.block _ hb.lt))
 exact AllReadyH.nil
theorem st117_a(hbk:hE141 n K c0 c1 c2 c3 c4 c5 c6 c7 s0 s1 s2 s3 s4 s5 s6 s7)(hQ:hE142 Q V gt gc K s0 s1 s2 s3 s4 s5 s6 s7 zA zB zD zE zI zJ zK zL zM zN za zb zc zd ze)(hS:BW V w)  :
  wpAnyH Tryz.prog .any ops117_3 (OnlyN Q) (fun W=>BW V W) 7 #[true,true,true,true,true,true,true,true,false,false,false,false,false,false,false] ⟨#[zA,zB,pT gt 0,zD,zE,pT gc 0,zG,zH,zI,zJ,zK,zL,zM,zN,zO,.agg #[nv c0,nv c1,nv c2,nv c3,nv c4,nv c5,nv c6,nv c7],pT gt 0,ptr g,ptr g,pT g 0,pT g 0,.slice A n cap,iv n,zX,zY,zZ,za,zb,zc,zd,ze],[]⟩ w:=by
 refine wpAnyH_ready (rs:=[8,12]) (by kernel_rfl) (by simp) ?_
 refine AllReadyH.cons (o:=opN ops117_3 8) (by kernel_rfl) (fun K' hK=>?_) ?_
 ·obtain⟨o,e⟩:∃o,o=opN ops117_3 8:=⟨_,rfl⟩;rw[←e];conv at e=>rhs;whnf
  subst e;go_simp;refine(hbk w).mono ?_;rintro e w1 ⟨rfl,hb1⟩;refine hK.out _ _ (bT hS hb1) (fun hHeld=>?_)
  clear hK
  (try simp only[List.setIfInBounds_toArray,List.set_cons_zero,List.set_cons_succ])
  refine tk 9 (.tuple #[.agg #[nv s0,nv s1,nv s2,nv s3,nv s4,nv s5,nv s6,nv s7],nv K]) ?_;refine tk 10 (.agg #[nv s0,nv s1,nv s2,nv s3,nv s4,nv s5,nv s6,nv s7]) ?_;refine tk 11 (nv K) ?_;exact st117_b hbk hQ (bT hS hb1)
 refine AllReadyH.cons (o:=opN ops117_3 12) (by kernel_rfl) (fun K' hK=>?_) AllReadyH.nil
 obtain⟨o,e⟩:∃o,o=opN ops117_3 12:=⟨_,rfl⟩;rw[←e];conv at e=>rhs;whnf
 subst e;go_simp;refine hK.out _ _ (bA hS _) (fun hHeld=>?_)
 exact st117_c hbk hQ (bA hS _) hS.size (Blk.new w 168 _)
theorem reg117_3{m l2:Nat}{zP zQ zR zS zT zU zV zW:Value}(r0:V.cell? ⟨gc,0,none⟩=some (nv c0))(r1:V.cell? ⟨gc,1,none⟩=some (nv c1))(r2:V.cell? ⟨gc,2,none⟩=some (nv c2))(r3:V.cell? ⟨gc,3,none⟩=some (nv c3))(r4:V.cell? ⟨gc,4,none⟩=some (nv c4))(r5:V.cell? ⟨gc,5,none⟩=some (nv c5))(r6:V.cell? ⟨gc,6,none⟩=some (nv c6))(r7:V.cell? ⟨gc,7,none⟩=some (nv c7))(rt:V.cell? ⟨gt,0,none⟩=some (ptr g))(rg:V.cell? ⟨g,0,none⟩=some (.slice A n cap))(hbk:hE141 n K c0 c1 c2 c3 c4 c5 c6 c7 s0 s1 s2 s3 s4 s5 s6 s7)(hQ:hE142 Q V gt gc K s0 s1 s2 s3 s4 s5 s6 s7 zA zB zD zE zI zJ zK zL zM zN za zb zc zd ze) :
  (regionOf2B Tryz.f135 3).wpIn (Fence.wide.inRound l2) m Tryz.prog Q ⟨#[zA,zB,pT gt 0,zD,zE,pT gc 0,zG,zH,zI,zJ,zK,zL,zM,zN,zO,zP,zQ,zR,zS,zT,zU,zV,zW,zX,zY,zZ,za,zb,zc,zd,ze],[]⟩ V:=by
 have e:regionOf2B Tryz.f135 3=Code.region 3 ops117_3 true:=by kernel_rfl
 rw[e];have hHeld:(fun W=>BW V W) V.drew:=belowDq (bR V)
 refine wpIn_region_lift (S:=fun W=>BW V W) (by kernel_rfl) (by kernel_rfl) ?_
 have hsz:ops117_3.size=15:=by kernel_rfl
 have hrep:Array.replicate 15 false=#[false,false,false,false,false,false,false,false,false,false,false,false,false,false,false]:=by kernel_rfl
 rw[hsz,hrep];obtain⟨o,e0⟩:∃o,o=opN ops117_3 0:=⟨_,rfl⟩;have e:=e0;conv at e=>rhs;whnf
 refine wpAnyH_take (i:=0) (oi:=o) (v:=.agg #[nv c0,nv c1,nv c2,nv c3,nv c4,nv c5,nv c6,nv c7]) (by rw[e0];kernel_rfl) (by kernel_rfl) (by kernel_rfl) (by kernel_rfl) (fun _ _ _ h=>h) (Or.inl ⟨by rw[e];rfl, ?_⟩) (by assumption) ?_
 ·clear e0;subst e;intro w hSw;have hSw:BW V w:=hSw;have k0:=kC hSw r0;have k1:=kC hSw r1;have k2:=kC hSw r2;have k3:=kC hSw r3;have k4:=kC hSw r4;have k5:=kC hSw r5;have k6:=kC hSw r6;have k7:=kC hSw r7;have kt:=kC hSw rt;have kg:=kC hSw rg;go_simp
 clear e0;subst e
 (try simp only[Act.put,List.setIfInBounds_toArray,List.set_cons_zero,List.set_cons_succ])
 obtain⟨o,e0⟩:∃o,o=opN ops117_3 1:=⟨_,rfl⟩;have e:=e0;conv at e=>rhs;whnf
 refine wpAnyH_take (i:=1) (oi:=o) (v:=pT gt 0) (by rw[e0];kernel_rfl) (by kernel_rfl) (by kernel_rfl) (by kernel_rfl) (fun _ _ _ h=>h) (Or.inl ⟨by rw[e];rfl, ?_⟩) (by assumption) ?_
 ·clear e0;subst e;intro w hSw;have hSw:BW V w:=hSw;have k0:=kC hSw r0;have k1:=kC hSw r1;have k2:=kC hSw r2;have k3:=kC hSw r3;have k4:=kC hSw r4;have k5:=kC hSw r5;have k6:=kC hSw r6;have k7:=kC hSw r7;have kt:=kC hSw rt;have kg:=kC hSw rg;go_simp
 clear e0;subst e
 (try simp only[Act.put,List.setIfInBounds_toArray,List.set_cons_zero,List.set_cons_succ])
 obtain⟨o,e0⟩:∃o,o=opN ops117_3 2:=⟨_,rfl⟩;have e:=e0;conv at e=>rhs;whnf
 refine wpAnyH_take (i:=2) (oi:=o) (v:=ptr g) (by rw[e0];kernel_rfl) (by kernel_rfl) (by kernel_rfl) (by kernel_rfl) (fun _ _ _ h=>h) (Or.inl ⟨by rw[e];rfl, ?_⟩) (by assumption) ?_
 ·clear e0;subst e;intro w hSw;have hSw:BW V w:=hSw;have k0:=kC hSw r0;have k1:=kC hSw r1;have k2:=kC hSw r2;have k3:=kC hSw r3;have k4:=kC hSw r4;have k5:=kC hSw r5;have k6:=kC hSw r6;have k7:=kC hSw r7;have kt:=kC hSw rt;have kg:=kC hSw rg;go_simp
 clear e0;subst e
 (try simp only[Act.put,List.setIfInBounds_toArray,List.set_cons_zero,List.set_cons_succ])
 obtain⟨o,e0⟩:∃o,o=opN ops117_3 3:=⟨_,rfl⟩;have e:=e0;conv at e=>rhs;whnf
 refine wpAnyH_take (i:=3) (oi:=o) (v:=ptr g) (by rw[e0];kernel_rfl) (by kernel_rfl) (by kernel_rfl) (by kernel_rfl) (fun _ _ _ h=>h) (Or.inl ⟨by rw[e];rfl, ?_⟩) (by assumption) ?_
 ·clear e0;subst e;intro w hSw;have hSw:BW V w:=hSw;have k0:=kC hSw r0;have k1:=kC hSw r1;have k2:=kC hSw r2;have k3:=kC hSw r3;have k4:=kC hSw r4;have k5:=kC hSw r5;have k6:=kC hSw r6;have k7:=kC hSw r7;have kt:=kC hSw rt;have kg:=kC hSw rg;go_simp
 clear e0;subst e
 (try simp only[Act.put,List.setIfInBounds_toArray,List.set_cons_zero,List.set_cons_succ])
 obtain⟨o,e0⟩:∃o,o=opN ops117_3 4:=⟨_,rfl⟩;have e:=e0;conv at e=>rhs;whnf
 refine wpAnyH_take (i:=4) (oi:=o) (v:=pT g 0) (by rw[e0];kernel_rfl) (by kernel_rfl) (by kernel_rfl) (by kernel_rfl) (fun _ _ _ h=>h) (Or.inl ⟨by rw[e];rfl, ?_⟩) (by assumption) ?_
 ·clear e0;subst e;intro w hSw;have hSw:BW V w:=hSw;have k0:=kC hSw r0;have k1:=kC hSw r1;have k2:=kC hSw r2;have k3:=kC hSw r3;have k4:=kC hSw r4;have k5:=kC hSw r5;have k6:=kC hSw r6;have k7:=kC hSw r7;have kt:=kC hSw rt;have kg:=kC hSw rg;go_simp
 clear e0;subst e
 (try simp only[Act.put,List.setIfInBounds_toArray,List.set_cons_zero,List.set_cons_succ])
 obtain⟨o,e0⟩:∃o,o=opN ops117_3 5:=⟨_,rfl⟩;have e:=e0;conv at e=>rhs;whnf
 refine wpAnyH_take (i:=5) (oi:=o) (v:=pT g 0) (by rw[e0];kernel_rfl) (by kernel_rfl) (by kernel_rfl) (by kernel_rfl) (fun _ _ _ h=>h) (Or.inl ⟨by rw[e];rfl, ?_⟩) (by assumption) ?_
 ·clear e0;subst e;intro w hSw;have hSw:BW V w:=hSw;have k0:=kC hSw r0;have k1:=kC hSw r1;have k2:=kC hSw r2;have k3:=kC hSw r3;have k4:=kC hSw r4;have k5:=kC hSw r5;have k6:=kC hSw r6;have k7:=kC hSw r7;have kt:=kC hSw rt;have kg:=kC hSw rg;go_simp
 clear e0;subst e
 (try simp only[Act.put,List.setIfInBounds_toArray,List.set_cons_zero,List.set_cons_succ])
 obtain⟨o,e0⟩:∃o,o=opN ops117_3 6:=⟨_,rfl⟩;have e:=e0;conv at e=>rhs;whnf
 refine wpAnyH_take (i:=6) (oi:=o) (v:=.slice A n cap) (by rw[e0];kernel_rfl) (by kernel_rfl) (by kernel_rfl) (by kernel_rfl) (fun _ _ _ h=>h) (Or.inl ⟨by rw[e];rfl, ?_⟩) (by assumption) ?_
 ·clear e0;subst e;intro w hSw;have hSw:BW V w:=hSw;have k0:=kC hSw r0;have k1:=kC hSw r1;have k2:=kC hSw r2;have k3:=kC hSw r3;have k4:=kC hSw r4;have k5:=kC hSw r5;have k6:=kC hSw r6;have k7:=kC hSw r7;have kt:=kC hSw rt;have kg:=kC hSw rg;go_simp
 clear e0;subst e
 (try simp only[Act.put,List.setIfInBounds_toArray,List.set_cons_zero,List.set_cons_succ])
 obtain⟨o,e0⟩:∃o,o=opN ops117_3 7:=⟨_,rfl⟩;have e:=e0;conv at e=>rhs;whnf
 refine wpAnyH_take (i:=7) (oi:=o) (v:=iv n) (by rw[e0];kernel_rfl) (by kernel_rfl) (by kernel_rfl) (by kernel_rfl) (fun _ _ _ h=>h) (Or.inl ⟨by rw[e];rfl, ?_⟩) (by assumption) ?_
 ·clear e0;subst e;intro w hSw;have hSw:BW V w:=hSw;have k0:=kC hSw r0;have k1:=kC hSw r1;have k2:=kC hSw r2;have k3:=kC hSw r3;have k4:=kC hSw r4;have k5:=kC hSw r5;have k6:=kC hSw r6;have k7:=kC hSw r7;have kt:=kC hSw rt;have kg:=kC hSw rg;go_simp
 clear e0;subst e
 (try simp only[Act.put,List.setIfInBounds_toArray,List.set_cons_zero,List.set_cons_succ])
 exact st117_a hbk hQ hHeld
end
end Go.Proofs.YtigcophcpboanaaGreatDoor
