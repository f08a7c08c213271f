/- waste: the map of the counts that were seen. waste: a count that is in order. waste: .. -/
import Derived.DeepKeys4
import Derived.WideKeyEntry
import Derived.Maps.Views
import Derived.WalkArith
import Derived.Test.YtbillnhcmkpohaaGreatDoorM13
set_option maxRecDepth 1000000
set_option maxHeartbeats 0
namespace Go.Proofs.YtbillnhcmkpohaaGreatDoor
open Go.RowKit
section
variable{a x z:Int}{b:Nat}{w w':World}
theorem Tryz.klaw216:WideMaps.KeyLaw Tryz.prog 216:=deep_law_laid (by kernel_rfl) (m:=3) (by omega) (of_decide_eq_true (by kernel_rfl)) (by kernel_rfl) (by kernel_rfl)
abbrev iA(a b:Int):Value:=.agg #[iv a,iv b]
theorem Tryz.cells216:Tryz.prog.cellsOf 216=2:=by kernel_rfl
theorem Tryz.kt216:Tryz.prog.keyType 216=true:=by kernel_rfl
theorem Tryz.tsize:∃m,Tryz.prog.types.size=m+1:=⟨Tryz.prog.types.size-1,by kernel_rfl⟩
theorem Tryz.key216{b:Int}(d:(Lit.int .i64 a).wf=true)(f:(Lit.int .i64 b).wf=true):keyOf Tryz.prog 216 (iA a b)=some (.string (keyBytes [.int .i64 a,.int .i64 b])):=by
 obtain⟨m,c⟩:=Tryz.tsize;unfold keyOf;simp only[Tryz.underlying216];rw[if_pos (by simp[Tryz.kt216,Value.formed,Tryz.underlying216,Tryz.cells216]),c]
 unfold Program.keyLits;simp only[Tryz.underlying216,Value.cells];rw[if_pos (by simp[Tryz.cells216])]
 simp[Tryz.cells3,Program.keyLits,Tryz.underlying3,d,f]
def ff(w:World)(b:Nat)(ps:List (Int×Int)):Prop:=∃es clock,w.heap[b]?=some (.map es clock)∧(∀x∈es.toList,x.born<clock)∧(es.toList.map (·.born)).Nodup∧es.toList.map (fun x=>(x.key,x.val))=ps.map (fun p=>(iA p.1 p.2,iv 1))∧∀p∈ps,(Lit.int .i64 p.1).wf=true∧(Lit.int .i64 p.2).wf=true
theorem ff.same{d:List (Int×Int)}(h:ff w b d)(j:w'.heap[b]?=w.heap[b]?):ff w' b d:=by obtain⟨f,c,g,i⟩:=h;exact⟨f,c,j.trans g,i⟩
theorem ff.lt{f:List (Int×Int)}(h:ff w b f):b<w.heap.size:=by obtain⟨g,c,d,_⟩:=h;exact(Array.getElem?_eq_some_iff.1 d).1
theorem ff.below{c:List (Int×Int)}(h:ff w b c)(d:BW w w'):ff w' b c:=h.same (d.block b h.lt)
theorem xx{d:Array MapEntry}{j:List (Int×Int)}(h:d.toList.map (fun x=>(x.key,x.val))=j.map (fun p=>(iA p.1 p.2,iv 1)))(i:∀p∈j,(Lit.int .i64 p.1).wf=true∧(Lit.int .i64 p.2).wf=true):∀e∈d.toList,∃l,keyOf Tryz.prog 216 e.key=some l:=fun e he=>by
 have g:(e.key,e.val)∈d.toList.map (fun x=>(x.key,x.val)):=List.mem_map.2 ⟨e,he,rfl⟩
 rw[h]at g;obtain⟨p,c,f⟩:=List.mem_map.1 g;obtain⟨h2,h3⟩:=Prod.mk.inj f;rw[←h2];exact⟨_,Tryz.key216 (i p c).1 (i p c).2⟩
theorem xy{b c d:Int}(h:iA a b=iA c d):(a,b)=(c,d):=by
 injection h with h
 injection h with h
 injection h with h1 h2
 injection h1 with _ h1
 injection h2 with h2 _
 injection h2 with _ h2
 rw[h1,h2]
open Go.ChangeMaps (setBlock)in
theorem xB{g:List (Int×Int)}(h:ff w b g)(hx:(Lit.int .i64 x).wf=true)(t:(Lit.int .i64 z).wf=true) :
  (Instr.lookup 263 (.map (some b)) (iA x z) false).run Tryz.prog w=.ok (iv (if(x,z)∈g then 1 else 0)) w:=by
 obtain⟨f,i,q,_,_,m,s⟩:=h;have hkey:=Tryz.key216 hx t;obtain⟨key,hke⟩:=ex (iA x z);rw[hke]at hkey ⊢;rcases Tryz.klaw216.find w hkey f.toList (xx m s)with⟨h1,h2⟩ | ⟨j,e0,h1,h2,h3⟩
 ·rw[if_neg (fun c=>?_)]
  ·simp[Instr.lookup,run_underlying Tryz.underlying263,MapKept.run_getObj_map q,Tryz.klaw216.check w f.isEmpty hkey,h1,Result.andThen]
  ·have d:(iA x z,iv 1)∈g.map (fun p=>(iA p.1 p.2,iv 1)):=List.mem_map.2 ⟨(x,z),c,rfl⟩
   rw[←m]at d;obtain⟨e,r,k⟩:=List.mem_map.1 d;injection k with h5 _
   exact h2 e r (h5.trans hke)
 ·have d:(e0.key,e0.val)∈f.toList.map (fun x=>(x.key,x.val)):=List.mem_map.2 ⟨e0,List.mem_of_getElem? h2,rfl⟩
  rw[m]at d;obtain⟨p,o,n⟩:=List.mem_map.1 d;obtain⟨h5,h6⟩:=Prod.mk.inj n;have h7:p=(x,z):=xy (h5.trans (h3.trans hke.symm));have c:(x,z)∈g:=by rw[←h7];exact o
  rw[if_pos c,h6];obtain⟨u,l⟩:=ex e0.val;rw[l]at h1 ⊢;simp[Instr.lookup,run_underlying Tryz.underlying263,MapKept.run_getObj_map q,Tryz.klaw216.check w f.isEmpty hkey,h1,Result.andThen]
theorem Fr{C:List (Int×Int)}(h:ff w b C)(hx:(Lit.int .i64 x).wf=true)(G:(Lit.int .i64 z).wf=true)(u:(x,z)∉C) :
  ∃st es1 clock1,(Instr.mapEntry 263 (.map (some b)) (iA x z)).run Tryz.prog w=.ok (.tuple #[iv 0,iv st]) (Go.ChangeMaps.setBlock w b (.map es1 clock1)) ∧
   (∀g:World,g.heap[b]?=some (.map es1 clock1)→(Instr.lookup 263 (.map (some b)) (iA x z) false).run Tryz.prog g=.ok (iv 0) g) ∧
   ∀g:World,g.heap[b]?=some (.map es1 clock1)→∃es2 clock2,(Instr.entryStore 263 (.map (some b)) (iv st) (iv 1)).run Tryz.prog g=.ok () (Go.ChangeMaps.setBlock g b (.map es2 clock2))∧ff (Go.ChangeMaps.setBlock g b (.map es2 clock2)) b (C++[(x,z)]):=by
 obtain⟨f,d,E,r,B,t,F⟩:=h;have hkey:=Tryz.key216 hx G;have hks:=xx t F;have hfresh:∀e∈f.toList,e.key≠iA x z:=fun e l hek=>by
  have m:(e.key,e.val)∈f.toList.map (fun x=>(x.key,x.val)):=List.mem_map.2 ⟨e,l,rfl⟩
  rw[t]at m;obtain⟨p,A,v⟩:=List.mem_map.1 m;obtain⟨h5,D⟩:=Prod.mk.inj v;have s:p=(x,z):=xy (h5.trans hek);exact u (by rw[←s];exact A)
 obtain⟨key,o⟩:=ex (iA x z);rw[o]at hkey hfresh ⊢;rcases Tryz.klaw216.find w hkey f.toList hks with⟨h1,h2⟩ | ⟨j,e0,h1,h2,h3⟩
 case inr=>exact absurd h3 (hfresh e0 (List.mem_of_getElem? h2))
 have k:((f.push ⟨key,iv 0,d⟩).toList.map (·.born)).Nodup:=by
  simp only[Array.toList_push,List.map_append,List.map_cons,List.map_nil];refine List.nodup_append.2 ⟨B,by simp,fun a H c hc J=>?_⟩
  simp only[List.mem_singleton]at hc;obtain⟨y,I,rfl⟩:=List.mem_map.1 H;have:=r y I;omega
 refine⟨d,f.push ⟨key,iv 0,d⟩,d+1, ?_,fun g i=>?_,fun g i=>⟨f.push ⟨key,iv 1,d⟩,d+1, ?_, ?_⟩⟩
 ·simp[Instr.mapEntry,run_underlying Tryz.underlying263,MapKept.run_getObj_map E,Tryz.klaw216.check w false hkey,h1,MapKept.run_setObj_map _ E,Result.andThen,Go.ChangeMaps.setBlock,goInt]
 ·rcases Tryz.klaw216.find g hkey (f.push ⟨key,iv 0,d⟩).toList (fun e l=>by
   rw[Array.toList_push]at l;rcases List.mem_append.1 l with h | h
   ·exact hks e h
   ·simp at h;subst h;exact⟨_,hkey⟩)with⟨h3,m⟩ | ⟨j,e0,h3,m,h5⟩
  ·exact absurd rfl (m ⟨key,iv 0,d⟩ (by simp))
  ·have D:e0.val=iv 0:=by
    have s:=List.mem_of_getElem? m;rw[Array.toList_push]at s;rcases List.mem_append.1 s with h | h
    ·exact absurd h5 (hfresh e0 h)
    ·simp at h;rw[h]
   rw[Array.toList_push]at h3;simp[Instr.lookup,run_underlying Tryz.underlying263,MapKept.run_getObj_map i,Tryz.klaw216.check g _ hkey,h3,D,Result.andThen]
 ·have n:(f.push ⟨key,iv 0,d⟩).findIdx? (fun e=>((e.born:Nat):Int)==((d:Nat):Int))=some f.size:=by
   rw[WideElems.findIdx_arr];exact WideElems.findIdx_born k (j:=f.size) (e0:=⟨key,iv 0,d⟩) (by simp)
  have q:(f.push ⟨key,iv 0,d⟩).modify f.size (fun e=>{ e with val:=iv 1 })=f.push ⟨key,iv 1,d⟩:=by apply Array.ext';rw[Array.toList_modify,Array.toList_push,Array.toList_push,←Array.length_toList,WideElems.modify_last]
  simp[Instr.entryStore,MapKept.run_getObj_map i,asInt,asIntOf,n,q,MapKept.run_setObj_map _ i,Result.andThen,Go.ChangeMaps.setBlock]
 ·refine⟨f.push ⟨key,iv 1,d⟩,d+1,Go.ChangeMaps.heap_setBlock_same i _,fun e l=>?_, ?_, ?_,fun p hp2=>?_⟩
  ·rw[Array.toList_push]at l;rcases List.mem_append.1 l with h | h
   ·have:=r e h;omega
   ·simp at h;subst h;simp
  ·simpa using k
  ·rw[Array.toList_push,List.map_append,t,List.map_append];simp[←o]
  ·rcases List.mem_append.1 hp2 with h | h
   ·exact F p h
   ·simp at h;subst h;exact⟨hx,G⟩
end
section
variable{b:Nat}
structure xC(y:ar)(c:cM):Prop where
 kind:0≤c.kind∧c.kind<y.kinds.length
 place:0≤c.place∧c.place<y.places.length
 lo:0≤c.lo∧c.lo≤1000000
 hi:0≤c.hi∧c.hi≤1000000
 le:c.lo≤c.hi
theorem xD{W:World}{d:Array MapEntry}{a:Nat}(f:W.heap[b]?=some (.map d a))(o:Obj):ai W (Go.ChangeMaps.setBlock W b o) b:=⟨rfl,rfl,rfl,by simp[Go.ChangeMaps.setBlock],fun k _ c=>Go.ChangeMaps.heap_setBlock_other f o c⟩
theorem oA{w:World}{g t:Nat}{cs:Array Value}{c:List (Int×Int)}(h:aa w g t cs)(a:ff w b c):g≠b:=fun e=>by subst e;obtain⟨es,clock,hb,_⟩:=a;unfold aa at h;rw[h]at hb;cases hb
noncomputable def Fs:Array Oper:=aU (aF Tryz.f190 1)
theorem Ft(y:ar)(A:aI)(c:cM)(i:Nat)(b t D:Nat)(R:List (Int×Int))(w:World)(Y:aa w D 74 (ak y A))(J:aa w t 263 #[.map (some b)])(X:ff w b R)(hk:y.kinds.length≤4)(ab:y.places.length≤4)(hc:xC y c)(L:(c.kind,c.place)∉R) :
  Cs 190 #[iv i,.agg #[iv c.kind,iv c.place,iv c.lo,iv c.hi],pT t 0,pT D 0] w fun e w'=>e=.returned (iv 0)∧ai w w' b∧ff w' b (R++[(c.kind,c.place)]):=by
 obtain⟨f,k,d,a⟩:=c;simp only at *;obtain⟨W1,hW1,b1⟩:=nA w (.cells #[iv f,iv k,iv d,iv a] 42);obtain⟨g5,hg5⟩:=ex w.heap.size;have q5:aa W1 g5 42 #[iv f,iv k,iv d,iv a]:=by rw[←hW1,←hg5];exact aa.new w 42 _
 obtain⟨⟨M,N⟩,⟨p1,p2⟩,⟨O,C⟩,⟨u,v⟩,K⟩:=hc;simp only at M N p1 p2 O C u v K;have wk:(Lit.int .i64 f).wf=true:=WalkArith.wf_i64 (by omega)
 have Z:(Lit.int .i64 k).wf=true:=WalkArith.wf_i64 (by omega)
 have af:IntKind.i64.wrap 1=1:=by rw[IntKind.wrap_i64];omega
 have HB:=Lq b1;have HQ5:=Lq q5;have HGM:=Lq (J.keep b1);have HQY:=Lq (Y.keep b1);have HS:=Lq (X.below b1);have HNO:=Lq L;have HWF:=Lq (And.intro wk Z);have HO:Hid (∀(d a x:Int) (g:Nat) (W:World),d≤x→x≤a→cA W g 0 (iv x)→g<W.heap.size→Cs 26 #[iv d,iv a,.slice (some ⟨g,0,none⟩) 1 1] W (Rt W (.bool false))):=Lq fun C u2 x g W h3 h4 u v=>by have h:=lB C u2 x g W u v;rw[cX h3 h4]at h;exact h
 have HT:Hid (∀(d a x z:Int) (g:Nat) (W:World),d≤x→x≤a→d≤z→z≤a→cA W g 0 (iv x)→cA W g 1 (iv z)→g<W.heap.size→Cs 26 #[iv d,iv a,.slice (some ⟨g,0,none⟩) 2 2] W (Rt W (.bool false))):=Lq fun C u2 x z g W h3 h4 h5 h6 u h1' v=>by have h:=uX C u2 x z g W u h1' v;rw[cX h3 h4,cX h5 h6]at h;exact h
 have ac:IntKind.i64.wrap ((y.kinds.length:Int)-1)=(y.kinds.length:Int)-1:=by rw[IntKind.wrap_i64];omega
 have ad:IntKind.i64.wrap ((y.places.length:Int)-1)=(y.places.length:Int)-1:=by rw[IntKind.wrap_i64];omega
 have F:=Lq (And.intro M N);have HPB:=Lq (And.intro p1 p2);have HLB:=Lq (And.intro O C);have HHB:=Lq (And.intro u v);have hlef:decide (a<d)=false:=decide_eq_false (by omega)
 clear Y J X L b1 q5 M N p1 p2 O C u v K wk Z;go_enter Tryz.func190,Tryz.ntmps190
 go_upto_region 1 with fail
 clear hW1 hg5;have G:Hid (∀W,BW W1 W→cA W t 0 (.map (some b))∧cA W g5 0 (iv f)∧cA W g5 1 (iv k)∧(Instr.lookup 263 (.map (some b)) (.agg #[iv f,iv k]) false).run Tryz.prog W=.ok (iv 0) W):=Lq fun W m=>⟨(HGM.out.keep m).c 0,(HQ5.out.keep m).c 0,(HQ5.out.keep m).c 1,by have h:=xB (HS.out.below m) HWF.out.1 HWF.out.2;rwa [if_neg HNO.out]at h⟩
 refine cJ (late:=fun j=>j==10) (ops:=Fs) (r:=1) (n:=11) (S:=fun W=>cA W t 0 (.map (some b))∧cA W g5 0 (iv f)∧cA W g5 1 (iv k)∧(Instr.lookup 263 (.map (some b)) (.agg #[iv f,iv k]) false).run Tryz.prog W=.ok (iv 0) W) G.out fun V0 HB0 hHeld=>?_
 refine ae 0 (.map (some b)) ?_;refine ae 1 (pT g5 0) ?_;refine ae 2 (iv f) ?_;refine ae 3 (pT g5 1) ?_;refine ae 4 (iv k) ?_;refine ae 5 (.agg #[iv f,iv k]) ?_;refine ae 6 (iv 0) ?_;refine ae 7 (iv 1) ?_;refine aQ 8 fun K' hK=>?_
 obtain⟨st,H,l,U,V,I⟩:=Fr (HS.out.below HB0.out) HWF.out.1 HWF.out.2 HNO.out;obtain⟨We,hWe⟩:=ex (Go.ChangeMaps.setBlock V0 b (.map H l));obtain⟨es0,clock0,hb0, -⟩:=HS.out.below HB0.out;have hwb:We.heap[b]?=some (.map H l):=by rw[←hWe];exact Go.ChangeMaps.heap_setBlock_same hb0 _
 have p:ai V0 We b:=by rw[←hWe];exact xD hb0 _
 obtain⟨es2,q,o,B⟩:=I We hwb;obtain⟨Wf,hWf⟩:=ex (Go.ChangeMaps.setBlock We b (.map es2 q));rw[hWf]at o B;have hof:ai We Wf b:=by rw[←hWf];exact xD hwb _
 rw[hWe]at U;have s:=V We hwb;have ng:=oA (HGM.out.keep HB0.out) (HS.out.below HB0.out);have n5:=oA (HQ5.out.keep HB0.out) (HS.out.below HB0.out);have ny:=oA (HQY.out.keep HB0.out) (HS.out.below HB0.out);have HGe:Hid (aa We t 263 #[.map (some b)]):=Lq ((HGM.out.keep HB0.out).same (p.block t (HGM.out.keep HB0.out).lt ng));have HQ5e:Hid (aa We g5 42 #[iv f,iv k,iv d,iv a]):=Lq ((HQ5.out.keep HB0.out).same (p.block g5 (HQ5.out.keep HB0.out).lt n5));have HQYe:Hid (aa We D 74 (ak y A)):=Lq ((HQY.out.keep HB0.out).same (p.block D (HQY.out.keep HB0.out).lt ny));have HGf:Hid (aa Wf t 263 #[.map (some b)]):=Lq (HGe.out.same (hof.block t HGe.out.lt ng));have HQ5f:Hid (aa Wf g5 42 #[iv f,iv k,iv d,iv a]):=Lq (HQ5e.out.same (hof.block g5 HQ5e.out.lt n5));have HQYf:Hid (aa Wf D 74 (ak y A)):=Lq (HQYe.out.same (hof.block D HQYe.out.lt ny));have HSM:=Lq B;have HOF:Hid (ai w Wf b):=Lq (ie (ai.of_below (bT HB.out HB0.out) b) (ie p hof));have HST:=Lq o;clear V I hwb hb0 p hof o B ng n5 ny hWf hWe;go_simp;refine hK.out _ _ ⟨HGe.out.c 0,HQ5e.out.c 0,HQ5e.out.c 1,s⟩ (fun hHeld=>?_)
 clear hK U s;refine ae 9 (iv st) ?_;refine bO 10 fun K' hK=>?_
 have o:=HST.out;go_simp;refine hK.out _ _ ?_;clear hK o HST hHeld;refine dL ?_;clear G HS HGM HQ5 HQY HGe HQ5e HQYe HB0;obtain⟨x0,x1⟩:=HQYf.out.c2;obtain⟨y0,y1⟩:=HQ5f.out.c2;go_wp2_with fail;refine(HO.out _ _ f _ _ F.out.1 (by have:=F.out.2;omega) ((aa.new Wf 3 #[iv f]).c 0) (aa.new Wf 3 #[iv f]).lt).mono ?_
 rintro e T ⟨rfl,m⟩;have HB3:=Lq (bT (bA (bR Wf) _) m);clear x0 x1 y0 y1 m;obtain⟨x0,x1⟩:_∧_:=⟨(HQYf.out.keep HB3.out).c 0,(HQYf.out.keep HB3.out).c 1⟩;have y1:=(HQ5f.out.keep HB3.out).c 1;go_wp2_with fail;refine(HO.out _ _ k _ _ HPB.out.1 (by have:=HPB.out.2;omega) ((aa.new T 3 #[iv k]).c 0) (aa.new T 3 #[iv k]).lt).mono ?_
 rintro e E ⟨rfl,m⟩;have HB4:=Lq (bT HB3.out (bT (bA (bR T) _) m));clear x0 x1 y1 m;obtain⟨y0,y1,y2,y3⟩:_∧_∧_∧_:=⟨(HQ5f.out.keep HB4.out).c 0,(HQ5f.out.keep HB4.out).c 1,(HQ5f.out.keep HB4.out).c 2,(HQ5f.out.keep HB4.out).c 3⟩;have m0:=(HGf.out.keep HB4.out).c 0;have s:(Instr.lookup 263 (.map (some b)) (.agg #[iv f,iv k]) false).run Tryz.prog E=.ok (iv 1) E:=by
  have h:=xB (HSM.out.below HB4.out) HWF.out.1 HWF.out.2
  rwa [if_pos (by simp)]at h
 go_wp2_with fail;refine(HT.out _ _ d a _ _ HLB.out.1 HLB.out.2 HHB.out.1 HHB.out.2 ((aa.new E 3 #[iv d,iv a]).c 0) ((aa.new E 3 #[iv d,iv a]).c 1) (aa.new E 3 #[iv d,iv a]).lt).mono ?_;rintro e w5 ⟨rfl,m⟩;have HB5:=Lq (bT HB4.out (bT (bA (bR E) _) m));clear y0 y1 y2 y3 m0 s m;obtain⟨y2,y3⟩:_∧_:=⟨(HQ5f.out.keep HB5.out).c 2,(HQ5f.out.keep HB5.out).c 3⟩;go_wp2_with fail;go_ret
 exact⟨rfl,ie HOF.out (ai.of_below HB5.out b),HSM.out.below HB5.out⟩
end
theorem su(wr:World)(t:TypeId)(f g i j a b c d:Value):∃Wa W2,wr.alloc (.cells #[f,g,i,j] t)=Wa∧((((Wa.setCell ⟨wr.heap.size,0,none⟩ a).setCell ⟨wr.heap.size,1,none⟩ b).setCell ⟨wr.heap.size,2,none⟩ c).setCell ⟨wr.heap.size,3,none⟩ d)=W2∧BW wr W2∧aa Wa wr.heap.size t #[f,g,i,j]∧BW wr Wa∧aa W2 wr.heap.size t #[a,b,c,d]:=by
 refine⟨_,_,rfl,rfl, ?_,aa.new wr t _,bA (bR _) _, ?_⟩
 ·exact(((((ai.of_below (bR _) wr.heap.size).set 0 _).set 1 _).set 2 _).set 3 _).below (bA (bR _) _) (lr _)
 ·have h:=((((aa.new wr t #[f,g,i,j]).set_ 0 a).set_ 1 b).set_ 2 c).set_ 3 d
  simpa using h
def pR(c:cM):Int×Int:=(c.kind,c.place)
def pS(y:ar)(l:List cM):Prop:=∀(i:Nat) (c:cM),l[i]?=some c→xC y c∧(c.kind,c.place)∉(l.take i).map pR
theorem Fu(y:ar)(A:aI)(F:Option Addr)(l:List cM)(B cap b j k:Nat)(w:World)(q:aG 4 dq w B F l)(p:B≤w.heap.size)(f:B≤b)(v:l.length≤8)(o:aa w k 74 (ak y A))(a:aa w j 263 #[.map (some b)])(n:ff w b [])(r:y.kinds.length≤4)(g:y.places.length≤4)(hc:pS y l) :
  Cs 189 #[.slice F l.length cap,.func (.func 190) #[] #[pT j 0,pT k 0]] w fun e w'=>e=.returned (.tuple #[iv 0,iv 0])∧ai w w' b:=by
 have s:=Lq q;have HZ:=Lq (And.intro p f);have HCK:=Lq hc;have HKN:=Lq (And.intro r g);have n1:=oA a n;have n2:=oA o n;have HGM:=Lq a;have HGY:=Lq o;have HNE:=Lq (And.intro n1 n2);have HS0:Hid (ff w b ((l.take 0).map pR)):=Lq n;clear q p f o a n hc n1 n2 r g;go_enter Tryz.func189,Tryz.ntmps189
 go_wp2_with fail;go_loopw [10] (fun i wr=>∃m:Nat,m≤l.length∧i=iv m∧Hid (ff wr b ((l.take m).map pR))∧Hid (ai w wr b)) (fun i _=>l.length-(intOf i).toNat)
 case atStart=>exact⟨0,Nat.zero_le _,rfl,HS0,Lq (ai.of_below (bR _) b)⟩
 case round =>
  obtain⟨m,t,rfl,d,h⟩:=hrel;have hk0:=nn m;by_cases hlt:m<l.length
  case neg =>
   obtain rfl:m=l.length:=by omega
   go_wp2_with fail
   go_ret2
   exact⟨rfl,h.out⟩
  have u:(m:Int)<(l.length:Int):=by omega
  obtain⟨c,hc⟩:=gX (l:=l) (i:=m) hlt;obtain⟨bb,off,rfl, -,hcc⟩:=(h.out.rdN s.out HZ.out.2) m c hc;have c0:=hcc 0 _ rfl;have c1:=hcc 1 _ rfl;have c2:=hcc 2 _ rfl;have c3:=hcc 3 _ rfl;simp only[Nat.add_zero]at c0;obtain⟨Wa,Wb,hWa,hWb,hbb,qa,hba,qb⟩:=su wr 42 (iv 0) (iv 0) (iv 0) (iv 0) (iv c.kind) (iv c.place) (iv c.lo) (iv c.hi);obtain⟨g7,hg7⟩:=ex wr.heap.size;rw[hg7]at hWb qa qb;obtain⟨f0,f1,f2,f3⟩:=qa.f4;obtain⟨e0,e1,e2,e3⟩:=qa.c4;have el:=qa.lt;obtain⟨d0,d1,d2,d3⟩:=qb.c4;obtain⟨hco,hno⟩:=HCK.out m c hc;have HX:=Lq (ie h.out (ai.of_below hbb b));have HD:=Lq (Ft y A c m b j k _ Wb (HGY.out.same (HX.out.block k HGY.out.lt HNE.out.2)) (HGM.out.same (HX.out.block j HGM.out.lt HNE.out.1)) (d.out.below hbb) HKN.out.1 HKN.out.2 hco hno);have HCC:=Lq hc;clear hc hcc hbb qa hba qb hco hno d h;go_wp2_with fail;refine HD.out.mono ?_;rintro e w2 ⟨rfl,ho,hsm⟩;have HO2:=Lq (ie HX.out ho);have HS2:Hid (ff w2 b ((l.take (m+1)).map pR)):=by rw[List.take_add_one,HCC.out,List.map_append];exact Lq hsm
  clear ho hsm HD HX c0 c1 c2 c3 f0 f1 f2 f3 e0 e1 e2 e3 el d0 d1 d2 d3 hWa hWb hg7;go_wp2_with fail;go_roundw
  case rel=>exact⟨m+1,hlt,by go_num,HS2,HO2⟩
  case measure=>simp[intOf];omega
theorem xE(y:ar)(A:aI)(F:Option Addr)(l:List cM)(B cap:Nat)(w:World)(r:aG 4 dq w B F l)(o:B≤w.heap.size)(v:l.length≤8)(s:y.kinds.length≤4)(j:y.places.length≤4)(hc:pS y l) :
  Cs 129 #[.agg (ak y A),.slice F l.length cap] w (Rt w (.tuple #[iv 0,iv 0])):=by
 obtain⟨g,i,q⟩:=nA w (.cells (ak y A) 74);obtain⟨g2,hg2⟩:=ex w.heap.size;obtain⟨W2,hW2⟩:=ex (g.alloc (.map #[] 0));obtain⟨b,hbb⟩:=ex g.heap.size;obtain⟨W3,hW3,b3⟩:=nA W2 (.cells #[.map none] 263);obtain⟨g6,hg6⟩:=ex W2.heap.size;obtain⟨W4,hW4⟩:=ex (W3.setCell ⟨g6,0,none⟩ (.map (some b)));have b2:BW g W2:=by rw[←hW2];exact bA (bR _) _
 have u:aa g g2 74 (ak y A):=by rw[←i,←hg2];exact aa.new w 74 _
 have m:aa W3 g6 263 #[.map none]:=by rw[←hW3,←hg6];exact aa.new W2 263 _
 have d:W2.heap.size≤g6:=Nat.le_of_eq hg6;have b4:BW W2 W4:=by rw[←hW4];exact aH b3 d (p:=⟨g6,0,none⟩) _
 have n:aa W4 g6 263 #[.map (some b)]:=by rw[←hW4];have h:=m.set_ 0 (.map (some b));simpa using h
 have k:aa W4 g2 74 (ak y A):=u.keep (bT b2 b4);have hs:ff W4 b []:=by
  have h:ff W2 b []:=⟨#[],0,by rw[←hW2,←hbb];exact(MapKept.heap_alloc g _).1,by simp,by simp,by simp,by simp⟩
  exact h.below b4
 have f:w.heap.size≤b:=by rw[←hbb];exact q.size
 have a:=bT q (bT b2 b4);have HF:=Lq (Fu y A F l B cap b g6 g2 W4 (r.below a o) (lT o a.size) (lT o f) v k n hs s j hc);have HBX:=Lq (And.intro a f);obtain⟨c6,f6,l6⟩:_∧_∧_:=⟨m.c 0,m.frozen 0,m.lt⟩;have hmm:=@run_makeMap Tryz.prog;clear r o s j hc q b2 b3 u m d b4 n k hs f a;go_enter Tryz.func129,Tryz.ntmps129
 go_wp2_with fail;refine HF.out.mono ?_;rintro e x ⟨rfl,t⟩;have HO:=Lq t;clear t c6 f6 l6 i hW2 hW3 hW4 hg2 hg6 hbb HF;go_wp2_with fail
 go_ret2
 exact⟨rfl,HO.out.below HBX.out.1 HBX.out.2⟩
section
variable{w:World}
structure cr(w:World)(y:ar)(A:aI)(g3 g7 g gj:Nat)(ov:Int)(wr:World)(es:List Ed)(js:List Int)(v:Value):Prop where
 b3:aa wr g3 74 (ak y A)
 b7:aa wr g7 3 #[iv y.places.length]
 b9:aa wr g 89 #[v,iv ((y.places.length:Int)+2),.slice (some ⟨gj,0,none⟩) y.papers.length y.papers.length,iv ov]
 er:wr.ownsRow w.heap.size 154 5 v es.length (es.flatMap iR)
 jr:wr.ownsRow w.heap.size 3 1 (.slice (some ⟨gj,0,none⟩) y.papers.length y.papers.length) y.papers.length (js.map iv)
 bw:BW w wr
 gl:w.heap.size≤g
 ne:g7≠gj
section
variable {w wr w':World} {y:ar} {A:aI} {g3 g7 g gj:Nat} {ov:Int} {es:List Ed} {js:List Int} {v:Value}
theorem cr.below(h:cr w y A g3 g7 g gj ov wr es js v)(a:BW wr w'):cr w y A g3 g7 g gj ov w' es js v :=
 ⟨h.b3.keep a,h.b7.keep a,h.b9.keep a,aN h.er a,aN h.jr a,bT h.bw a,h.gl,h.ne⟩
theorem bF{a b t u:Nat}{xs f:Array Value}(h:aa w a t xs)(c:aa w b u f)(d:t≠u):a≠b:=fun e=>by
 subst e;unfold aa at h c;rw[h]at c;injection c with c
 injection c with _ c
 exact d c
theorem cr.grow(h:cr w y A g3 g7 g gj ov wr es js v){b c:Nat}{es2:List Ed}{n2:Nat}(n:n2=es2.length)(a:w'.ownsRow w.heap.size 154 5 (.slice (some ⟨b,0,none⟩) (es.length+n2) c) (es.length+n2) (es.flatMap iR++es2.flatMap iR))(d:wr.grownBy w' v.ownBlock) :
  cr w y A g3 g7 g gj ov (w'.setCell ⟨g,0,none⟩ (.slice (some ⟨b,0,none⟩) (es.length+n2) c)) (es++es2) js (.slice (some ⟨b,0,none⟩) (es++es2).length c):=by
 subst n;have j:=h.b3.grown d (ax h.er h.b3 (by decide))
 have l:=h.b7.grown d (ax h.er h.b7 (by decide))
 have i:=h.b9.grown d (ax h.er h.b9 (by decide))
 have f:=ai.of_set (bR w') g 0 (.slice (some ⟨b,0,none⟩) (es.length+es2.length) c);have kj:w'.ownsRow w.heap.size 3 1 (.slice (some ⟨gj,0,none⟩) y.papers.length y.papers.length) y.papers.length (js.map iv):=kz h.jr fun k hk=>d.block k (h.jr.lt k hk).2 fun e=>jI h.jr h.er (by decide) hk e.symm
 have m:BW w w':=cC h.er d (lr _) h.bw;refine⟨j.same (f.block g3 j.lt (bF j i (by decide))),l.same (f.block g7 l.lt (bF l i (by decide))), ?_, ?_,f.own kj (fun e=>ax kj i (by decide) e.symm),f.below m h.gl,h.gl,h.ne⟩
 ·have o:=i.set_ 0 (.slice (some ⟨b,0,none⟩) (es.length+es2.length) c)
  simpa[List.length_append]using o
 ·rw[List.length_append,List.flatMap_append];exact f.own a (fun e=>ax a i (by decide) e.symm)
theorem cr.oput(h:cr w y A g3 g7 g gj ov wr es js v)(x:Int):cr w y A g3 g7 g gj x (wr.setCell ⟨g,3,none⟩ (iv x)) es js v:=by
 have a:=ai.of_set (bR wr) g 3 (iv x);refine⟨h.b3.same (a.block g3 h.b3.lt (bF h.b3 h.b9 (by decide))),h.b7.same (a.block g7 h.b7.lt (bF h.b7 h.b9 (by decide))), ?_,a.own h.er (fun e=>ax h.er h.b9 (by decide) e.symm),a.own h.jr (fun e=>ax h.jr h.b9 (by decide) e.symm),a.below h.bw h.gl,h.gl,h.ne⟩
 have b:=h.b9.set_ 3 (iv x)
 simpa using b
theorem cr.j_at(h:cr w y A g3 g7 g gj ov wr es js v){i:Nat}(a:i<y.papers.length):∃u,wr.cell? ⟨gj,i,none⟩=some u:=by
 rw[h.jr.cellAt i (by omega)]
 have b:=h.jr.1;exact⟨_,gE (by omega)⟩
theorem cr.jput(h:cr w y A g3 g7 g gj ov wr es js v)(i:Nat)(x:Int):cr w y A g3 g7 g gj ov (wr.setCell ⟨gj,i,none⟩ (iv x)) es (js.set i x) v:=by
 have a:=ai.of_set (bR wr) gj i (iv x);have n3:g3≠gj:=fun e=>ax h.jr h.b3 (by decide) (by rw[e];rfl)
 have c:g≠gj:=fun e=>ax h.jr h.b9 (by decide) (by rw[e];rfl)
 refine⟨h.b3.same (a.block g3 h.b3.lt n3),h.b7.same (a.block g7 h.b7.lt h.ne),h.b9.same (a.block g h.b9.lt c),a.own h.er (fun e=>jI h.jr h.er (by decide) (g:=gj) rfl e), ?_,a.below h.bw (h.jr.lt gj rfl).1,h.gl,h.ne⟩
 have b:=(h.jr.stored i (iv x)).1
 rwa [←List.map_set]at b
end
theorem nd{k p:Int}{l:List cM}{e:Ending}{w':World}(h:uZ k p l w e w'):∃lo hi bt,e=.returned (.tuple #[.agg #[iv lo,iv hi],.bool bt])∧BW w w'∧((bt=false∧dA l k p=none∧lo=0∧hi=0)∨(bt=true∧dA l k p=some (lo,hi))):=by
 obtain⟨d,⟨j,rfl⟩ | ⟨i,c,hc,a,b,rfl⟩⟩:=h
 ·refine⟨0,0,false,rfl,d,.inl ⟨rfl, ?_,rfl,rfl⟩⟩;unfold dA;rw[List.find?_eq_none.2 fun x hx=>by
   have:=List.any_eq_false.1 j x hx
   simpa using this]
  rfl
 ·refine⟨c.lo,c.hi,true,rfl,d,.inr ⟨rfl, ?_⟩⟩;unfold dA;have f:=(lG hc);have e1:l=l.take i++c::l.drop (i+1):=by
   conv=>lhs;rw[←List.take_append_drop i l]
   rw[List.drop_eq_getElem_cons f,(List.getElem?_eq_some_iff.1 hc).2]
  rw[e1,List.find?_append,List.find?_eq_none.2 fun x hx=>by have:=List.any_eq_false.1 b x hx;simpa using this,List.find?_cons_of_pos a]
  rfl
theorem sw(y:ar)(k:Int)(m:Nat):dC y k (m+1)=dC y k m++mo y k m:=by unfold dC;rw[List.range_succ,List.flatMap_append];simp
theorem oB(y:ar)(k:Int)(l:List Int)(m:Nat):au y k l (m+1)=kH y k l (au y k l m) m:=by unfold au;rw[List.range_succ,List.foldl_append];rfl
theorem Tryz.info154:(Tryz.prog.info? 154).map (fun i=>(i.zero,i.size,i.bytes))=some (some (.agg #[iv 0,iv 0,iv 0,iv 0,iv 0]),5,40):=by kernel_rfl
theorem fh(wr:World)(t:TypeId)(i j k l m a b c d f:Value):∃Wa W2,wr.alloc (.cells #[i,j,k,l,m] t)=Wa∧(((((Wa.setCell ⟨wr.heap.size,0,none⟩ a).setCell ⟨wr.heap.size,1,none⟩ b).setCell ⟨wr.heap.size,2,none⟩ c).setCell ⟨wr.heap.size,3,none⟩ d).setCell ⟨wr.heap.size,4,none⟩ f)=W2∧BW wr W2∧aa Wa wr.heap.size t #[i,j,k,l,m]∧BW wr Wa∧aa W2 wr.heap.size t #[a,b,c,d,f]:=by
 refine⟨_,_,rfl,rfl, ?_,aa.new wr t _,bA (bR _) _, ?_⟩
 ·exact((((((ai.of_below (bR _) wr.heap.size).set 0 _).set 1 _).set 2 _).set 3 _).set 4 _).below (bA (bR _) _) (lr _)
 ·have h:=(((((aa.new wr t #[i,j,k,l,m]).set_ 0 a).set_ 1 b).set_ 2 c).set_ 3 d).set_ 4 f
  simpa using h
theorem fm(wr:World)(t:TypeId)(a b c d:Value):∃Wa W2,wr.alloc (.cells #[a,b] t)=Wa∧((Wa.setCell ⟨wr.heap.size,0,none⟩ c).setCell ⟨wr.heap.size,1,none⟩ d)=W2∧BW wr W2∧aa Wa wr.heap.size t #[a,b]∧BW wr Wa∧aa W2 wr.heap.size t #[c,d]:=by
 refine⟨_,_,rfl,rfl, ?_,aa.new wr t _,bA (bR _) _, ?_⟩
 ·exact(((ai.of_below (bR _) wr.heap.size).set 0 _).set 1 _).below (bA (bR _) _) (lr _)
 ·have h:=((aa.new wr t #[a,b]).set_ 0 c).set_ 1 d
  simpa using h
end
end Go.Proofs.YtbillnhcmkpohaaGreatDoor
namespace Go.Proofs.YtbillnhcmkpohaaGreatDoor
open Go.RowKit Go.Shelf
attribute [local go_sem] Oper.semAt_some
abbrev iB:ByteArray:=⟨#[45]⟩
def db(y:ar)(p:Int):ByteArray:=if p = -1 then iB else y.places.getD p.toNat ⟨#[]⟩
theorem pU{l:List ByteArray}{i:Nat}{x:ByteArray}(h:l[i]?=some x):l.getD i ⟨#[]⟩=x:=by rw[List.getD_eq_getElem?_getD,h];rfl
theorem Fv(y:ar)(A:aI)(B d:Nat)(p:Int)(w:World)(a:aa w d 74 (ak y A))(H:aO w B y A)(j:p = -1∨0≤p∧p<y.places.length) :
  Cs 183 #[iv p,pT d 0] w fun e w'=>e=.returned (.string (db y p))∧w'=w:=by
 rcases j with rfl | ⟨h0,h1⟩
 ·clear a H;go_enter Tryz.func183,Tryz.ntmps183
  go_wp2_with fail;go_ret
  exact⟨rfl,rfl⟩
 ·obtain⟨n,rfl⟩:∃n:Nat,p=n:=⟨p.toNat,by omega⟩
  have f:n<y.places.length:=by omega
  obtain⟨x,hx⟩:=gX (l:=y.places) (i:=n) f;obtain⟨b,off,hA, -,hc⟩:=H.p n x hx;have hc:w.cell? ⟨b,off+n,none⟩=some (.string x):=hc;have x1:=a.c 1;rw[hA]at x1;have hmx:=H.lp;unfold maxLen at hmx;have HPL:Hid (db y n=x):=Lq (by
   unfold db;rw[if_neg (by omega),Int.toNat_natCast]
   exact pU hx)
  have h:¬((n:Int) = -1):=by omega
  have g:((n:Int) == -1)=false:=by simp
  clear a H hx hA;go_enter Tryz.func183,Tryz.ntmps183
  go_wp2_with fail;go_ret
  exact⟨by rw[HPL.out];rfl,rfl⟩
def kO(wd:ByteArray)(y:ar)(c:cM):List ByteArray:=[wd,y.kinds.getD c.kind.toNat ⟨#[]⟩,y.places.getD c.place.toNat ⟨#[]⟩,aW c.lo,aW c.hi]
def gT(wd:ByteArray)(y:ar)(cs:List cM):List UInt8:=cs.flatMap fun c=>aM (kO wd y c)
structure pV(y:ar)(c:cM):Prop where
 kind:0≤c.kind∧c.kind<y.kinds.length
 place:0≤c.place∧c.place<y.places.length
 lo:-9223372036854775808≤c.lo∧c.lo≤9223372036854775807
 hi:-9223372036854775808≤c.hi∧c.hi≤9223372036854775807
def Fw(b:Nat)(bs t:List UInt8)(w:World)(e:Ending)(w':World):Prop:=e=.returned (.tuple #[])∧Lib.IsBuilderF 233 5 b b (Lib.byteCells (bs++t)) w'∧BK b w w'
noncomputable def Fx:Array Oper:=aU (aF Tryz.f182 3)
theorem xF(g:ByteArray)(y:ar)(A:aI)(B b t I:Nat)(L:Option Addr)(cl:Nat)(cs:List cM)(bs:List UInt8)(w:World)(H:aO w B y A)(K:B≤b)(hg:t<b)(hq:aa w t 74 (ak y A))(h4:aa w I 239 #[.func (.func 181) #[] #[pT b 0]])(hL:aG 4 dq w B L cs)(hT:∀W,Below b w W→fe W)(hI:Lib.IsBuilderF 233 5 b b (Lib.byteCells bs) w)(hc:∀c∈cs,pV y c∧(aM (kO g y c)).length≤100000)(hn:cs.length≤1000)(R:bs.length≤100000000) :
  Cs 182 #[.string g,.slice L cs.length cl,pT I 0,pT t 0] w (Fw b bs (gT g y cs) w):=by
 have C:I≠b:=by obtain⟨_,h⟩:=xq hI;exact bF h4 h (by decide)
 have J:Hid (Lib.IsBuilderF 233 5 b b (Lib.byteCells (bs++gT g y (cs.take 0))) w):=Lq (by simpa[gT]using hI)
 have v:=Lq (BK.rf b w);have HY:=Lq H;have HQ:=Lq hq;have H4:=Lq h4;have HLR:=Lq hL;have HT:=Lq hT;have HC:=Lq hc;have HN:Hid (cs.length≤1000):=Lq hn;have HBS:Hid (bs.length≤100000000):=Lq R;have HBB:Hid (B≤b∧t<b∧I≠b):=Lq ⟨K,hg,C⟩;clear H hq h4 hL hT hI hc R K hg C;go_enter Tryz.func182,Tryz.ntmps182
 go_wp2_with fail;go_loopw [10] (fun i wr=>∃k:Nat,k≤cs.length∧i=iv k∧Hid (Lib.IsBuilderF 233 5 b b (Lib.byteCells (bs++gT g y (cs.take k))) wr)∧Hid (BK b w wr)) (fun i _=>cs.length-(intOf i).toNat)
 case atStart=>exact⟨0,Nat.zero_le _,rfl,J,v⟩
 case round =>
  clear J v;obtain⟨k,hk,rfl,Y,j⟩:=hrel;have hk0:=nn k;by_cases hlt:k<cs.length
  ·obtain⟨⟨V,X,o,m⟩,hm⟩:∃x,cs[k]?=some x:=gX hlt;obtain⟨hok,hln⟩:=HC.out _ (mG ⟨k,hm⟩);obtain⟨hkd,hpl,hlo,hhi⟩:=hok;simp only at hkd hpl hlo hhi;obtain⟨kd,rfl⟩:∃n:Nat,V=n:=⟨V.toNat,by omega⟩
   obtain⟨s,rfl⟩:∃n:Nat,X=n:=⟨X.toNat,by omega⟩
   have ag:kd<y.kinds.length:=by omega
   have U:s<y.places.length:=by omega
   obtain⟨u,F⟩:=gX (l:=y.kinds) (i:=kd) ag;obtain⟨pn,hpn⟩:=gX (l:=y.places) (i:=s) U;have HYR:=Lq (HY.out.below j.out.1 HBB.out.1);obtain⟨bk,ok,hAk,hbk,hck⟩:=HYR.out.k kd u F;obtain⟨bp,op,hAp,hbp,hcp⟩:=HYR.out.p s pn hpn;obtain⟨bl,ol,rfl,hbl,hcl⟩:=(HLR.out.below j.out.1 HBB.out.1) k _ hm;have hck:wr.cell? ⟨bk,ok+kd,none⟩=some (.string u):=hck;have hcp:wr.cell? ⟨bp,op+s,none⟩=some (.string pn):=hcp;have c0:wr.cell? ⟨bl,ol+k*4,none⟩=some (iv kd):=hcl 0 _ rfl;have c1:wr.cell? ⟨bl,ol+k*4+1,none⟩=some (iv s):=hcl 1 _ rfl;have c2:wr.cell? ⟨bl,ol+k*4+2,none⟩=some (iv o):=hcl 2 _ rfl;have c3:wr.cell? ⟨bl,ol+k*4+3,none⟩=some (iv m):=hcl 3 _ rfl;obtain⟨Wa,Wb,hWa,hWb,hbb,qa,hba,qb⟩:=su wr 42 (iv 0) (iv 0) (iv 0) (iv 0) (iv kd) (iv s) (iv o) (iv m);obtain⟨g7,hg7⟩:=ex wr.heap.size;rw[hg7]at hWb qa qb;obtain⟨f0,f1,f2,f3⟩:=qa.f4;obtain⟨e0,Z,e2,e3⟩:=qa.c4;have el:=qa.lt;have hbz:b<wr.heap.size:=my Y.out;have hkb:=BK.bw hbb (Nat.le_of_lt hbz);have HKB:=Lq (j.out.tr hkb);have hlw:kO g y ⟨kd,s,o,m⟩=[g,u,pn,aW o,aW m]:=by unfold kO;simp only[Int.toNat_natCast];rw[pU F,pU hpn]
   have ad:Hid (bs++gT g y (cs.take (k+1))=(bs++gT g y (cs.take k))++aM [g,u,pn,aW o,aW m]):=Lq (by unfold gT;rw[List.take_add_one,hm,List.flatMap_append,←hlw];simp)
   have ae:Hid ((aM [g,u,pn,aW o,aW m]).length≤100000):=Lq (by rw[←hlw];exact hln)
   have af:Hid ((bs++gT g y (cs.take k)).length≤1000000000):=Lq (by
    have h:=lH (f:=fun c=>aM (kO g y c)) (k:=100000) (cs.take k) (fun c hc=>(HC.out c (List.mem_of_mem_take hc)).2)
    have h2:(cs.take k).length≤1000:=by rw[List.length_take];have:=HN.out;omega
    have h3:=lT h (Nat.mul_le_mul_right 100000 h2);have h4:=HBS.out;rw[List.length_append];show _+(List.flatMap _ _).length≤_
    omega)
   have T:g7≠b:=by omega
   have q:Hid (∀W,BK b Wb W→cA W I 0 (.func (.func 181) #[] #[pT b 0])∧cA W t 0 (.slice (some ⟨bk,ok,none⟩) y.kinds.length A.ck)∧cA W t 1 (.slice (some ⟨bp,op,none⟩) y.places.length A.cp)∧cA W bk (ok+kd) (.string u)∧cA W bp (op+s) (.string pn)∧cA W g7 0 (iv kd)∧cA W g7 1 (iv s)∧cA W g7 2 (iv o)∧cA W g7 3 (iv m)):=Lq fun W hb=>by
    have q1:=(j.out.tr (hkb.tr hb)).blk HQ.out (by have:=HBB.out;omega) (by decide)
    have q4:=(j.out.tr (hkb.tr hb)).blk H4.out HBB.out.2.2 (by decide)
    have q7:=hb.blk qb T (by decide)
    have x0:=q1.c 0;have x1:=q1.c 1;rw[hAk]at x0;rw[hAp]at x1;have hkk:=(hkb.tr hb).1;have hB:=HBB.out.1;exact⟨q4.c 0,x0,x1,(World.cell?_of_block (w:=wr) (a:=⟨bk,_,none⟩) (hkk.block bk (by omega))).trans hck,(World.cell?_of_block (w:=wr) (a:=⟨bp,_,none⟩) (hkk.block bp (by omega))).trans hcp,q7.c 0,q7.c 1,q7.c 2,q7.c 3⟩
   have ac:=Lq (jQ Y.out hbb);have hBz:b≤Wb.heap.size:=by have:=hbb.size;omega
   have z:Hid (b≤Wb.heap.size):=Lq hBz;have HI1:=Lq fun W (hb:BW Wb W)=>m9 o hlo.1 hlo.2 W (HT.out W (j.out.1.trans (hkb.1.trans (hb.mono hBz))))
   have ab:=Lq fun W (hb:BW Wb W)=>m9 m hhi.1 hhi.2 W (HT.out W (j.out.1.trans (hkb.1.trans (hb.mono hBz))))
   have ah:=HYR.out.lk;have hmp:=HYR.out.lp;unfold maxLen at ah hmp;clear hm hln F hpn hAk hAp hck hcp hcl hlw hbk hbp hbl hkb qb hba qa;go_upto_region 3 with fail
   clear c0 c1 c2 c3 f0 f1 f2 f3 e0 Z e2 e3 el hWa hWb hg7;refine gd (ops:=Fx) (r:=3) (n:=26) (S:=fun W=>cA W I 0 (.func (.func 181) #[] #[pT b 0])∧cA W t 0 (.slice (some ⟨bk,ok,none⟩) y.kinds.length A.ck)∧cA W t 1 (.slice (some ⟨bp,op,none⟩) y.places.length A.cp)∧cA W bk (ok+kd) (.string u)∧cA W bp (op+s) (.string pn)∧cA W g7 0 (iv kd)∧cA W g7 1 (iv s)∧cA W g7 2 (iv o)∧cA W g7 3 (iv m)) (fun W hb=>q.out W (BK.bw hb z.out)) fun V0 v d=>?_
   refine tk 0 (.func (.func 181) #[] #[pT b 0]) ?_;refine tk 1 (.string g) ?_;refine tk 2 (pT t 0) ?_;refine tk 3 (pT t 0) ?_;refine tk 4 (.slice (some ⟨bk,ok,none⟩) y.kinds.length A.ck) ?_;refine tk 5 (pT g7 0) ?_;refine tk 6 (iv kd) ?_;refine tk 7 (pT bk (ok+kd)) ?_;refine tk 8 (.string u) ?_;refine tk 9 (pT t 0) ?_;refine tk 10 (pT t 1) ?_;refine tk 11 (.slice (some ⟨bp,op,none⟩) y.places.length A.cp) ?_;refine tk 12 (pT g7 1) ?_;refine tk 13 (iv s) ?_;refine tk 14 (pT bp (op+s)) ?_;refine tk 15 (.string pn) ?_;refine tk 16 (pT g7 2) ?_;refine tk 17 (pT g7 2) ?_;refine tk 18 (iv o) ?_;refine tk 20 (pT g7 2) ?_;refine tk 21 (pT g7 3) ?_;refine tk 22 (iv m) ?_;refine rd1 19 fun K' hK=>?_
   go_simp;refine(HI1.out _ v.out).mono ?_;rintro Z w1 ⟨rfl,M⟩;have HB1:=Lq (bT v.out M);refine hK.out _ _ (q.out _ (BK.bw HB1.out z.out)) (fun d=>?_)
   clear hK M;refine rd1 23 fun K' hK=>?_
   go_simp;refine(ab.out _ HB1.out).mono ?_;rintro Z w2 ⟨rfl,N⟩;have HB2:=Lq (bT HB1.out N);refine hK.out _ _ (q.out _ (BK.bw HB2.out z.out)) (fun d=>?_)
   clear hK N;refine rd1 24 fun K' hK=>?_
   go_simp;obtain⟨w3,G,O⟩:=nA w2 (.cells #[.string g,.string u,.string pn,.string (aW o),.string (aW m)] 9);obtain⟨gs,hgs⟩:=ex w2.heap.size;have hq3:aa w3 gs 9 #[.string g,.string u,.string pn,.string (aW o),.string (aW m)]:=by rw[←G,←hgs];exact aa.new w2 9 _
   (try rw[G,hgs])
   have D:=Lq (bT HB2.out O);have HLI:=Lq (oz b 5 (some ⟨gs,0,none⟩) [g,u,pn,aW o,aW m] (bs++gT g y (cs.take k)) w3 (jQ ac.out D.out) (by simp) (aa.rd1 (xs:=[g,u,pn,aW o,aW m]) hq3) (lr _) (by simp) ae.out af.out)
   refine hK.out _ _ (q.out _ (BK.bw D.out z.out)) (fun d=>?_)
   clear hK O hq3 G hgs;refine rd1 25 fun K' hK=>?_
   go_simp;refine HLI.out.mono ?_;rintro Z w4 ⟨rfl,E,C⟩;rw[←ad.out]at E;have HI4:=Lq E;have HK4:=Lq ((BK.bw D.out z.out).tr C);refine hK.out _ _ (q.out _ HK4.out) (fun d=>?_)
   clear hK E C;refine dn ?_;clear d q;go_wp2_with fail;go_roundw
   case measure=>simp[intOf];omega
   case rel=>exact⟨k+1,by omega,by go_num,HI4,Lq (HKB.out.tr HK4.out)⟩
  ·obtain rfl:k=cs.length:=by omega
   rw[List.take_of_length_le (lr _)]at Y;go_wp2_with fail;exact⟨rfl,.tuple #[],by simp[results,Tryz.results182,go_sem],rfl,Y.out,j.out⟩
end Go.Proofs.YtbillnhcmkpohaaGreatDoor
namespace Go.Proofs.YtbillnhcmkpohaaGreatDoor
open Go.RowKit
section
variable{cs8:Array Value}{ds nm yn:ByteArray}{Q:Exit→Act→World→Prop}{yf yk yl yw yz:Int}{b g8 yc:Nat}{yA:Option Addr}{zA zB zK zL zM zN zO zP zQ zR zS zT zC zU zV zW zX zY zZ za zb zc zd zD ze zf zg zh zi zj zk zl zm zn zo zp zq zr zs zt zu zv zw zx zF zy zz zAA zAB zAC zAD zAE zAF zG zAO zAP zAQ zAR zH:Value}{V:World}
noncomputable def sx:Array Oper:=aU (aF Tryz.f104 18)
abbrev xG(V:World)(g8 yc:Nat)(nm yn:ByteArray)(yk yf yl yw yz:Int)(yA:Option Addr)(yon:List ByteArray):Prop:=∀W:World,W.heap[g8]?=V.heap[g8]?→cA W g8 2 (.string nm)∧cA W g8 3 (.string yn)∧cA W g8 4 (iv yk)∧cA W g8 5 (iv yf)∧cA W g8 6 (iv yl)∧cA W g8 7 (.slice yA yon.length yc)∧cA W g8 8 (iv yw)∧cA W g8 9 (iv yz)
theorem xH{h L:List ByteArray}{bs:List UInt8}{G:TypeId}{q:Option Addr}{A g:Nat}(M:0<L.length∧L.length≤1006)(s:(aM (ds::dR::nm::L)).length≤100000)(v:bs.length≤1000000000)(F:b≤V.heap.size)(i:aa V g8 G cs8)(z:G≠9)(B:Lib.IsBuilder 233 5 b b (Lib.byteCells bs) V)(E:xG V g8 yc nm yn yk yf yl yw yz yA h)(D:∀u58 u59 u60 u61 u62 u63 u64 u65 u66 u67 wx,(Lib.IsBuilder 233 5 b b (Lib.byteCells (bs++aM (ds::dR::nm::L))) wx∧Below b V wx)→Q .normal ⟨(zA::zB::zC::zD::.func (.func 164) #[] #[.pointer (some ⟨b,0,none⟩)]::zF::zG::zH::.pointer (some ⟨g8,0,none⟩)::.string ds::zK::zL::zM::zN::zO::zP::zQ::zR::zS::zT::zU::zV::zW::zX::zY::zZ::za::zb::zc::zd::ze::zf::zg::zh::zi::zj::zk::zl::zm::zn::zo::zp::zq::zr::zs::zt::zu::zv::zw::zx::zy::zz::zAA::zAB::zAC::zAD::zAE::zAF::u58::u59::u60::u61::u62::u63::u64::u65::u66::u67::zAQ::zAR::[]).toArray,[]⟩ wx){w:World}(C:w.ownsRow V.heap.size 9 1 (.slice (some ⟨g,0,none⟩) 3 3) 3 [.string ds,.string dR,.string nm])(t:am .string w w.heap.size q L)(o:BW V w) :
  dO Tryz.prog .any sx (NoPanic Q) (fun W=>cA W g8 2 (.string nm)∧cA W g8 3 (.string yn)∧cA W g8 4 (iv yk)∧cA W g8 5 (iv yf)∧cA W g8 6 (iv yl)∧cA W g8 7 (.slice yA h.length yc)∧cA W g8 8 (iv yw)∧cA W g8 9 (iv yz)) (fun k=>k==9) 2 #[true,true,true,true,true,true,true,true,false,false] ⟨(zA::zB::zC::zD::.func (.func 164) #[] #[.pointer (some ⟨b,0,none⟩)]::zF::zG::zH::.pointer (some ⟨g8,0,none⟩)::.string ds::zK::zL::zM::zN::zO::zP::zQ::zR::zS::zT::zU::zV::zW::zX::zY::zZ::za::zb::zc::zd::ze::zf::zg::zh::zi::zj::zk::zl::zm::zn::zo::zp::zq::zr::zs::zt::zu::zv::zw::zx::zy::zz::zAA::zAB::zAC::zAD::zAE::zAF::.func (.func 164) #[] #[.pointer (some ⟨b,0,none⟩)]::.string ds::.pointer (some ⟨g8,2,none⟩)::.string nm::.slice (some ⟨g,0,none⟩) 3 3::.pointer (some ⟨g8,3,none⟩)::.agg #[.string yn,iv yk,iv yf,iv yl,.slice yA h.length yc,iv yw,iv yz]::.slice q L.length A::zAO::zAP::zAQ::zAR::[]).toArray,[]⟩ w:=by
 obtain⟨N,y,l,m,n⟩:=info_parts Tryz.info9;have hk8:w.heap[g8]?=V.heap[g8]?:=o.block g8 i.lt;have HS:=Lq E;have HQ:=Lq D;have HO:=Lq C;have HB:=Lq o;obtain⟨ad,rfl⟩:∃ad,q=some ad:=by obtain⟨_,_,e,_⟩:=t 0 _ (gE M.1);exact⟨_,e⟩
 have I:=Lq t;have HI:=Lq (nc B o);have q8:=i.same hk8;have HK8:=Lq hk8;have HQ8:=Lq q8;clear E D C o t B hk8 q8;refine aQ 8 fun J hK=>?_
 refine kX (by rfl) _ _ 40 (by rfl) V.heap.size 9 N _ 1 16 Tryz.underlying40 y l m n rfl (by decide) (.slice (some ⟨g,0,none⟩) 3 3) 3 _ (by rfl) HO.out (.slice (some ad) L.length A) L.length _ (by rfl) (nZ I.out) (by unfold maxLen;omega) (by omega) HB.out.size ?_
 intro O p c a;have HB2:Hid (BW V p):=Lq (cC HO.out a (lr _) HB.out);have HI2:=Lq (so HI.out HO.out a);have HK2:Hid (p.heap[g8]?=V.heap[g8]?):=Lq ((a.block g8 HQ8.out.lt (ax HO.out HQ8.out z)).trans HK8.out);have c:p.ownsRow V.heap.size 9 1 O (3+L.length) (([ds,dR,nm]++L).map .string):=by rw[List.map_append];exact c
 rw[show 3+L.length=([ds,dR,nm]++L).length by simp only[List.length_append,List.length_cons,List.length_nil]]at c
 obtain⟨H,K,rfl,f,d,j⟩:=fS c;have HLI:=Lq (pP b b K H ([ds,dR,nm]++L) bs p HI2.out (by simp) f d (by simp only[List.length_append,List.length_cons,List.length_nil];omega) s v (lT F HB2.out.size))
 refine hK.out _ _ (HS.out _ HK2.out) (fun r=>?_)
 clear c a HO HB f d j;clear hK;refine bO 9 fun J hK=>?_
 go_simp;refine HLI.out.mono ?_;rintro e R ⟨rfl,x,u⟩;refine hK.out _ _ ?_;clear hK;exact dL (HQ.out _ _ _ _ _ _ _ _ _ _ _ ⟨x,(HB2.out.mono F).trans u⟩)
theorem Fy{g L:List ByteArray}{bs:List UInt8}{N:TypeId}{y z A B C D E F:Value}(K:0<L.length∧L.length≤1006)(m:(aM (ds::dR::nm::L)).length≤100000)(o:bs.length≤1000000000)(t:b≤V.heap.size)(j:aa V g8 N cs8)(r:N≠9)(J:Lib.IsBuilder 233 5 b b (Lib.byteCells bs) V)(x:xG V g8 yc nm yn yk yf yl yw yz yA g)(M:∀u58 u59 u60 u61 u62 u63 u64 u65 u66 u67 wx,(Lib.IsBuilder 233 5 b b (Lib.byteCells (bs++aM (ds::dR::nm::L))) wx∧Below b V wx)→Q .normal ⟨(zA::zB::zC::zD::.func (.func 164) #[] #[.pointer (some ⟨b,0,none⟩)]::zF::zG::zH::.pointer (some ⟨g8,0,none⟩)::.string ds::zK::zL::zM::zN::zO::zP::zQ::zR::zS::zT::zU::zV::zW::zX::zY::zZ::za::zb::zc::zd::ze::zf::zg::zh::zi::zj::zk::zl::zm::zn::zo::zp::zq::zr::zs::zt::zu::zv::zw::zx::zy::zz::zAA::zAB::zAC::zAD::zAE::zAF::u58::u59::u60::u61::u62::u63::u64::u65::u66::u67::zAQ::zAR::[]).toArray,[]⟩ wx)(I:∀W,BW V W→Cs 167 #[.agg #[.string yn,iv yk,iv yf,iv yl,.slice yA g.length yc,iv yw,iv yz]] W (pq L W)) :
  (aF Tryz.f104 18).wp Tryz.prog Q ⟨(zA::zB::zC::zD::.func (.func 164) #[] #[.pointer (some ⟨b,0,none⟩)]::zF::zG::zH::.pointer (some ⟨g8,0,none⟩)::.string ds::zK::zL::zM::zN::zO::zP::zQ::zR::zS::zT::zU::zV::zW::zX::zY::zZ::za::zb::zc::zd::ze::zf::zg::zh::zi::zj::zk::zl::zm::zn::zo::zp::zq::zr::zs::zt::zu::zv::zw::zx::zy::zz::zAA::zAB::zAC::zAD::zAE::zAF::y::z::A::B::C::D::E::F::zAO::zAP::zAQ::zAR::[]).toArray,[]⟩ V:=by
 have H:=Lq x;have HSV:Hid (∀W,BW V W→cA W g8 2 (.string nm)∧cA W g8 3 (.string yn)∧cA W g8 4 (iv yk)∧cA W g8 5 (iv yf)∧cA W g8 6 (iv yl)∧cA W g8 7 (.slice yA g.length yc)∧cA W g8 8 (iv yw)∧cA W g8 9 (iv yz)):=Lq fun W t=>x W (t.block g8 j.lt)
 have G:=Lq I;have HB0:=Lq (fc (bR V));have HQ:=Lq M;have HI:=Lq J;clear x I M J;have e:aF Tryz.f104 18=Code.region 18 sx true:=by kernel_rfl
 rw[e];refine wp_region_noPanic ?_;refine lZ (S:=(fun W=>cA W g8 2 (.string nm)∧cA W g8 3 (.string yn)∧cA W g8 4 (iv yk)∧cA W g8 5 (iv yf)∧cA W g8 6 (iv yl)∧cA W g8 7 (.slice yA g.length yc)∧cA W g8 8 (iv yw)∧cA W g8 9 (iv yz))) (late:=(fun k=>k==9)) (by kernel_rfl) ?_
 have a:=HSV.out _ HB0.out;have hsz:sx.size=10:=by kernel_rfl
 have h:Array.replicate 10 false=#[false,false,false,false,false,false,false,false,false,false]:=by kernel_rfl
 rw[hsz,h];clear e hsz h;generalize V.drew=V0 at HB0 a ⊢;refine ae 0 (.func (.func 164) #[] #[.pointer (some ⟨b,0,none⟩)]) ?_;refine ae 1 (.string ds) ?_;refine ae 2 (.pointer (some ⟨g8,2,none⟩)) ?_;refine ae 3 (.string nm) ?_;refine ae 5 (.pointer (some ⟨g8,3,none⟩)) ?_;refine ae 6 (.agg #[.string yn,iv yk,iv yf,iv yl,.slice yA g.length yc,iv yw,iv yz]) ?_;refine tJ 4 7 (fun v hK=>?_) fun v hK=>?_
 ·skip;go_simp;have c:=Lq (bA HB0.out (.cells #[.string ds,.string dR,.string nm] 9));have HO5:=Lq (World.ownsRow_lit (e:=9) (size:=1) (base:=V.heap.size) V0 #[.string ds,.string dR,.string nm] 3 HB0.out.size (by decide) rfl)
  obtain⟨s,l⟩:=ex (V0.alloc (.cells #[.string ds,.string dR,.string nm] 9));obtain⟨g62,hg1⟩:=ex V0.heap.size;rw[l]at c HO5;rw[hg1]at HO5
  (try rw[l,hg1])
  refine hK.out _ _ (HSV.out _ c.out) (fun a=>?_)
  clear hK l hg1;refine aQ 7 fun v hK=>?_
  go_simp;refine(G.out _ c.out).mono ?_;rintro e R ⟨O,rfl,q,i⟩;obtain⟨A8,c8,rfl,hrd8,hle8,hmx8⟩:=fS q;have HO6:=Lq (aN HO5.out i);have f:=Lq (bT c.out i);clear q i;refine hK.out _ _ (HSV.out _ f.out) (fun a=>?_)
  clear hK;exact xH K m o t j r HI.out H.out HQ.out HO6.out hrd8 f.out
 ·skip;go_simp;refine(G.out _ HB0.out).mono ?_;rintro e s ⟨O,rfl,p,n⟩;obtain⟨A8,c8,rfl,hrd8,hle8,hmx8⟩:=fS p;have c:=Lq (bT HB0.out n);clear p n;refine hK.out _ _ (HSV.out _ c.out) (fun a=>?_)
  clear hK;refine aQ 4 fun v hK=>?_
  go_simp;have f:=Lq (bA c.out (.cells #[.string ds,.string dR,.string nm] 9));have HO6:=Lq (World.ownsRow_lit (e:=9) (size:=1) (base:=V.heap.size) s #[.string ds,.string dR,.string nm] 3 c.out.size (by decide) rfl)
  have d:=bA (bR s) (.cells #[.string ds,.string dR,.string nm] 9);obtain⟨R,hw6⟩:=ex (s.alloc (.cells #[.string ds,.string dR,.string nm] 9));obtain⟨g62,hg1⟩:=ex s.heap.size;rw[hw6]at f HO6 d;rw[hg1]at HO6
  (try rw[hw6,hg1])
  have u:=Lq ((hrd8.below d (lr _)).more d.size);refine hK.out _ _ (HSV.out _ f.out) (fun a=>?_)
  clear hK hw6 hg1 d;exact xH K m o t j r HI.out H.out HQ.out HO6.out u.out f.out
end
end Go.Proofs.YtbillnhcmkpohaaGreatDoor
namespace Go.Proofs.YtbillnhcmkpohaaGreatDoor
open Go.RowKit Go.Shelf
attribute [local go_sem] Oper.semAt_some
theorem xI(A C:Option Addr)(cap E:Nat)(ms:List aj)(cs:List ao)(w:World)(H:fF w A C cap E ms cs)(ht:fe w)(hp:∀m∈ms,lI m.p∧(aM (jP m.p)).length≤100000)(hc:∀c∈cs,1≤c.what∧c.what≤3∧(-9223372036854775808≤c.day∧c.day≤9223372036854775807)∧(c.what≠2→lI c.part.p)∧(aM (ic c.c)).length≤100000)(S:ms.length≤1000)(av:cs.length≤1000) :
  Cs 104 #[.agg #[.slice A ms.length cap,.slice C cs.length E]] w (Rt w (.string ⟨(lF (ab ms) (an cs)).toArray⟩)):=by
 obtain⟨i9,af,aB,aC,aD⟩:=info_parts Tryz.info9;obtain⟨W1,hW1,b1⟩:=nA w (.cells #[.slice A ms.length cap,.slice C cs.length E] 27);obtain⟨W2,hW2,b2⟩:=nA W1 (.cells #[.pointer none,.slice none 0 0] 233);obtain⟨g1,hg1⟩:=ex w.heap.size;obtain⟨b,hbb⟩:=ex W1.heap.size;have V:aa W1 g1 27 #[.slice A ms.length cap,.slice C cs.length E]:=by rw[←hW1,←hg1];exact aa.new w 27 _
 have ai:Lib.IsBuilder 233 5 b b (Lib.byteCells (fx ((ab ms).take 0))) W2:=by rw[←hW2,←hbb];exact Lib.fresh_isBuilder 233 5 W1
 have am:=Lq ai;have HB1:=Lq b1;have HB2:Hid (Below b W1 W2):=Lq (by rw[←hbb];exact b2)
 have aq:=Lq V;have HBB:Hid (W1.heap.size=b):=Lq hbb;have H1:=Lq (H.below b1);have HT:=Lq (ht.below b1 (lr _));have HP:=Lq hp;have HC:=Lq hc;have HPL:Hid (ms.length≤1000):=Lq S;have HCL:Hid (cs.length≤1000):=Lq av;have c0:=V.c 0;have c1:=V.c 1;have d0:=(V.keep b2).c 0;have d1:=(V.keep b2).c 1;clear H ht hp hc b1 b2 V ai;go_enter Tryz.func104,Tryz.ntmps104
 go_wp2_with fail;clear c0 c1 d0 d1 hW1 hW2 hg1 hbb;go_loopw [15] (fun i wr=>∃k:Nat,k≤ms.length∧i=iv k∧Hid (Lib.IsBuilder 233 5 b b (Lib.byteCells (fx ((ab ms).take k))) wr)∧Hid (Below b W1 wr)) (fun i _=>ms.length-(intOf i).toNat)
 case atStart=>exact⟨0,Nat.zero_le _,rfl,am,HB2⟩
 case round =>
  obtain⟨k,T,rfl,HI,J⟩:=hrel;have hk0:=nn k;have hbw:BW W1 wr:=by rw[BW,HBB.out];exact J.out
  by_cases hlt:k<ms.length
  ·obtain⟨m,hm⟩:=gX (l:=ms) (i:=k) hlt;have hsl:=H1.out.sl.below hbw (lr _);obtain⟨bm,om,rfl,hbm,hmo,e0,e1,e2,e3,e4,e5,e6⟩:=hsl.rd.at hm;obtain⟨a,hln⟩:=HP.out m (mG ⟨k,hm⟩);obtain⟨⟨nm,kd,fi,la,on,lo,G⟩,mA,mc⟩:=m;have HKT:Hid (fx ((ab ms).take (k+1))=fx ((ab ms).take k)++aM (jP ⟨nm,kd,fi,la,on,lo,G⟩)):=Lq (by
    unfold fx;rw[List.take_add_one,bN hm,List.flatMap_append];simp)
   have M:Hid ((fx ((ab ms).take k)).length≤100000000):=Lq (by
    have h:=lH (f:=fun p=>aM (jP p)) (k:=100000) ((ab ms).take k) (fun p hp=>by obtain⟨m',hm',rfl⟩:=List.mem_map.1 (List.mem_of_mem_take hp);exact(HP.out m' hm').2)
    have h2:((ab ms).take k).length≤1000:=by rw[List.length_take];have:=HPL.out;omega
    exact lT h (Nat.mul_le_mul_right 100000 h2))
   simp only at e0 e1 e2 e3 e4 e5 e6 hmo a;obtain⟨Wa,W6,ac,N,t,d,ad,D⟩:=mi wr nm kd fi la lo G mA mc on.length;obtain⟨g6,hg6⟩:=ex wr.heap.size;rw[hg6]at N d D;obtain⟨f0,f1,f2,f3,f4,f5,f6⟩:=d.f7;obtain⟨i0,i1,i2,i3,i4,i5,i6⟩:=d.c7;have el:=d.lt;obtain⟨W7,hW7,hb7⟩:=nA W6 (.cells #[.string jO] 9);have hr7:W7.ownsRow W6.heap.size 9 1 (.slice (some ⟨W6.heap.size,0,none⟩) 1 1) 1 [.string jO]:=by rw[←hW7];exact World.ownsRow_lit (e:=9) (size:=1) (base:=W6.heap.size) W6 #[.string jO] 1 (lr _) (by decide) (by simp)
   have ak:=D.keep hb7;obtain⟨j0,j1,j2,j3,j4,j5,j6⟩:=ak.c7;obtain⟨x,y⟩:=ex W6.heap.size;have hg20':b≤x:=by have:=t.size;have:=hbw.size;have:=HBB.out;omega
   rw[y]at hr7;have ar:=Lq hr7;have HB67:=Lq (bT t hb7);have HB17:=Lq (bT hbw (bT t hb7));have HTE:=Lq (si ⟨⟨nm,kd,fi,la,on,lo,G⟩,mA,mc⟩ W7 ((hmo.below (bT t hb7) hbw.size).more (lT hbw.size (lT t.size hb7.size))) (HT.out.below HB17.out (lr _)) a.kind a.nums a.on);have HON:Hid (on.length≤1000):=Lq a.on;have HLN:=Lq hln;clear hm hsl hbm hmo a hln t d ad D hb7 hr7 ak;go_wp2_with fail;refine HTE.out.mono ?_;rintro e w8 ⟨v8,rfl,hown8,n⟩;obtain⟨A8,c8,rfl,hrd8,hle8,hmx8⟩:=fS hown8;have hlw:=sq ⟨nm,kd,fi,la,on,lo,G⟩;have HWL:Hid ((gB ⟨nm,kd,fi,la,on,lo,G⟩).length≤1006):=Lq (by rw[hlw];show 6+on.length≤1006;have:=HON.out;omega)
   have s:Hid (jP ⟨nm,kd,fi,la,on,lo,G⟩=jO::gB ⟨nm,kd,fi,la,on,lo,G⟩):=Lq rfl;obtain⟨L,hL⟩:=ex (gB ⟨nm,kd,fi,la,on,lo,G⟩);obtain⟨PW,hPW⟩:=ex (jP ⟨nm,kd,fi,la,on,lo,G⟩);rw[hL]at HWL s hrd8;rw[hPW]at s HKT HLN;simp only[hL];have K:=Lq (aN ar.out n);have HRD8:=Lq hrd8;have HI8:=Lq (nc HI.out (bT HB67.out n));have o:=Lq (bT HB17.out n);have hz8:b≤w8.heap.size:=by have:=o.out.size;have:=HBB.out;omega
   have az:x<w8.heap.size:=by have h:=K.out.lt x rfl;exact h.2
   have ax:=HWL.out;clear hown8 n hrd8 hle8 hmx8 hlw hL hPW f0 f1 f2 f3 f4 f5 f6 i0 i1 i2 i3 i4 i5 i6 el j0 j1 j2 j3 j4 j5 j6 e0 e1 e2 e3 e4 e5 e6 ac N hg6 hW7;go_wp2_with (at_builtin;refine sf rfl _ _ rfl x _ _ _ rfl K.out A8 c8 w8.heap.size L rfl HRD8.out (by unfold maxLen;omega) (by omega) (by omega) ?_)
   intro v9 w9 j ae;have hb9:Below b W1 w9:=by
    have h1:Below b W1 w8:=by rw[←HBB.out];exact o.out
    exact h1.grown ae (by have:=o.out.size;have:=HBB.out;omega) (fun k T=>by injection T with T;subst T;exact hg20')
   have af:=so HI8.out K.out ae;have hpw:[Value.string jO]++L.map .string=PW.map .string:=by rw[s.out];rfl
   have S:1+L.length=PW.length:=by rw[s.out,List.length_cons];omega
   have j:w9.ownsRow x 9 1 v9 (1+L.length) ([Value.string jO]++L.map .string):=j;rw[hpw,S]at j;obtain⟨A9,c9,rfl,hrd9,hle9,hmx9⟩:=fS j;have F:=Lq (pP b b c9 A9 PW (fx ((ab ms).take k)) w9 af (by omega) hrd9 hle9 (by omega) HLN.out (by have:=M.out;omega) (by have:=hb9.size;have:=o.out.size;have:=HBB.out;omega))
   have al:=Lq hb9;clear hb9 af hpw j hrd9 hle9 hmx9 ae;go_wp2_with fail;refine F.out.mono ?_;rintro e Z ⟨rfl,z,hb10⟩;have I:=Lq (al.out.trans hb10);rw[←HKT.out]at z;have HI10:=Lq z;clear z hb10;go_wp2_with fail;go_roundw
   case measure=>simp[intOf];omega
   case rel=>exact⟨k+1,by omega,by go_num,HI10,I⟩
  ·obtain rfl:k=ms.length:=by omega
   have ap:Hid (Lib.IsBuilder 233 5 b b (Lib.byteCells (fx (ab ms)++iZ ((an cs).take 0))) wr):=Lq (by
    have h:=HI.out;rw[List.take_of_length_le (Nat.le_of_eq (List.length_map _))]at h;have e:fx (ab ms)++iZ ((an cs).take 0)=fx (ab ms):=by unfold iZ;simp
    rw[e];exact h)
   have au:Hid ((fx (ab ms)).length≤100000000):=Lq (by
    have h:=lH (f:=fun p=>aM (jP p)) (k:=100000) (ab ms) (fun p hp=>by obtain⟨m',hm',rfl⟩:=List.mem_map.1 hp;exact(HP.out m' hm').2)
    have h2:(ab ms).length≤1000:=by rw[List.length_map];exact HPL.out
    exact lT h (Nat.mul_le_mul_right 100000 h2))
   have V:=aq.out.keep hbw;have d1:=V.c 1;clear V hlt T HI hbw;go_wp2_with fail;clear d1;go_loopw [29] (fun i wr=>∃k:Nat,k≤cs.length∧i=iv k∧Hid (Lib.IsBuilder 233 5 b b (Lib.byteCells (fx (ab ms)++iZ ((an cs).take k))) wr)∧Hid (Below b W1 wr)) (fun i _=>cs.length-(intOf i).toNat)
   case atStart=>exact⟨0,Nat.zero_le _,rfl,ap,J⟩
   case round =>
    obtain⟨k,T,rfl,HI,J⟩:=hrel;have hk0:=nn k;have hbw:BW W1 wr:=by rw[BW,HBB.out];exact J.out
    by_cases hlt:k<cs.length
    ·obtain⟨cc,U⟩:=gX (l:=cs) (i:=k) hlt;have hsl:=H1.out.ch.below hbw (lr _);obtain⟨bm,om,rfl,hbm,hmo,hnm,e0,e1,e2,e3,e4,e5,e6,e7,e8,e9⟩:=hsl.at U;obtain⟨hw1,hw3,hdy,a,hln⟩:=HC.out cc (mG ⟨k,U⟩);obtain⟨wh,dy,nm,⟨⟨yn,yk,yf,yl,yon,yw,yz⟩,yA,yc⟩⟩:=cc;have HKT:Hid (fx (ab ms)++iZ ((an cs).take (k+1))=(fx (ab ms)++iZ ((an cs).take k))++aM (ic ⟨wh,dy,nm,⟨yn,yk,yf,yl,yon,yw,yz⟩⟩)):=Lq (by
      have aw:(an cs)[k]?=some ⟨wh,dy,nm,⟨yn,yk,yf,yl,yon,yw,yz⟩⟩:=by rw[List.getElem?_map,U];rfl
      unfold iZ;rw[List.take_add_one,aw,List.flatMap_append,←List.append_assoc];simp)
     have M:Hid ((fx (ab ms)++iZ ((an cs).take k)).length≤200000000):=Lq (by
      have h:=lH (f:=fun c=>aM (ic c)) (k:=100000) ((an cs).take k) (fun p hp=>by obtain⟨m',hm',rfl⟩:=List.mem_map.1 (List.mem_of_mem_take hp);exact(HC.out m' hm').2.2.2.2)
      have h2:((an cs).take k).length≤1000:=by rw[List.length_take];have:=HCL.out;omega
      have h3:=lT h (Nat.mul_le_mul_right 100000 h2);have h4:=au.out;rw[List.length_append];show _+(List.flatMap _ _).length≤_
      omega)
     simp only at e0 e1 e2 e3 e4 e5 e6 e7 e8 e9 hmo hnm a hw1 hw3 hdy;obtain⟨Wa,W6,ac,N,t,d,ad,D⟩:=uy wr 68 wh dy nm yn yk yf yl yw yz yA yc yon.length;obtain⟨g8,hg8⟩:=ex wr.heap.size;rw[hg8]at N d D;obtain⟨f0,f1,f2,f3,f4,f5,f6,f7,f8,f9⟩:=d.f10;obtain⟨i0,i1,i2,i3,i4,i5,i6,i7,i8,i9'⟩:_∧_∧_∧_∧_∧_∧_∧_∧_∧_:=⟨d.c 0,d.c 1,d.c 2,d.c 3,d.c 4,d.c 5,d.c 6,d.c 7,d.c 8,d.c 9⟩;have el:=d.lt;obtain⟨j0,j1⟩:=D.c2;have HQ8:=Lq D;have HB6:=Lq t;have HB16:=Lq (bT hbw t);have hg8b:b≤g8:=by have:=hbw.size;have:=HBB.out;omega
     have ah:=Lq (m9 dy hdy.1 hdy.2 W6 (HT.out.below (bT hbw t) (lr _)));have HMO:=Lq ((hmo.below t hbw.size).more (lT hbw.size t.size));have HTL2:=Lq a;have HLN:=Lq hln;clear U hsl hbm hmo hnm t d ad D hdy a hln;go_wp2_with fail;refine ah.out.mono ?_;rintro e w7 ⟨rfl,hb7⟩;obtain⟨ds,hds⟩:=ex (aW dy);rw[hds];have HDS:=Lq hds;have q7:=HQ8.out.keep hb7;obtain⟨k0,k1,k2,k3,k4,k5,k6,k7,k8,k9⟩:=q7.c10;have HQ7:=Lq q7;have HB17:=Lq (bT HB16.out hb7);have HI7:=Lq (nc HI.out (bT HB6.out hb7));have HMO7:=Lq ((HMO.out.below hb7 (lr _)).more hb7.size);clear q7 hb7 hds e0 e1 e2 e3 e4 e5 e6 e7 e8 e9 f0 f1 f2 f3 f4 f5 f6 f7 f8 f9 i0 i1 i2 i3 i4 i5 i6 i7 i8 i9' el j0 j1 ac N hg8 HQ8 ah HMO;rcases(show wh=1∨wh=2∨wh=3 by omega)with rfl | rfl | rfl
     ·have a:=HTL2.out (by decide)
      obtain⟨W8,O,n⟩:=nA w7 (.cells #[.string ds,.string iX] 9);have hr8:W8.ownsRow w7.heap.size 9 1 (.slice (some ⟨w7.heap.size,0,none⟩) 2 2) 2 [.string ds,.string iX]:=by rw[←O];exact World.ownsRow_lit (e:=9) (size:=1) (base:=w7.heap.size) w7 #[.string ds,.string iX] 2 (lr _) (by decide) (by simp)
      have Y:=HQ7.out.keep n;obtain⟨j2,j3,j4,j5,j6,j7,j8,j9⟩:_∧_∧_∧_∧_∧_∧_∧_:=⟨Y.c 2,Y.c 3,Y.c 4,Y.c 5,Y.c 6,Y.c 7,Y.c 8,Y.c 9⟩;obtain⟨x,y⟩:=ex w7.heap.size;have hg20':b≤x:=by have:=HB17.out.size;have:=HBB.out;omega
      rw[y]at hr8;have K:=Lq hr8;have HB78:=Lq n;have o:=Lq (bT HB17.out n);have HTE:=Lq (si ⟨⟨yn,yk,yf,yl,yon,yw,yz⟩,yA,yc⟩ W8 ((HMO7.out.below n (lr _)).more n.size) (HT.out.below o.out (lr _)) a.kind a.nums a.on);have HON:Hid (yon.length≤1000):=Lq a.on;clear a n hr8 Y;go_wp2_with fail;refine HTE.out.mono ?_;rintro e w9 ⟨v9,rfl,j,hb9⟩;obtain⟨A8,c8,rfl,hrd8,hle8,hmx8⟩:=fS j;have hlw:=sq ⟨yn,yk,yf,yl,yon,yw,yz⟩;have HWL:Hid ((gB ⟨yn,yk,yf,yl,yon,yw,yz⟩).length≤1006):=Lq (by rw[hlw];show 6+yon.length≤1006;have:=HON.out;omega)
      have s:Hid (ic ⟨1,dy,nm,⟨yn,yk,yf,yl,yon,yw,yz⟩⟩=ds::iX::gB ⟨yn,yk,yf,yl,yon,yw,yz⟩):=Lq (by rw[←HDS.out];rfl)
      have u:Hid ((aM (ic ⟨1,dy,nm,⟨yn,yk,yf,yl,yon,yw,yz⟩⟩)).length≤100000):=HLN;obtain⟨L,hL⟩:=ex (gB ⟨yn,yk,yf,yl,yon,yw,yz⟩);obtain⟨PW,hPW⟩:=ex (ic ⟨1,dy,nm,⟨yn,yk,yf,yl,yon,yw,yz⟩⟩);rw[hL]at HWL s hrd8;rw[hPW]at s HKT u;simp only[hL];have HR9:=Lq (aN K.out hb9);have HRD8:=Lq hrd8;have HI9:=Lq (nc HI7.out (bT HB78.out hb9));have HB19:=Lq (bT o.out hb9);have hz8:b≤w9.heap.size:=by have:=HB19.out.size;have:=HBB.out;omega
      have az:x<w9.heap.size:=by have h:=HR9.out.lt x rfl;exact h.2
      have ax:=HWL.out;clear j hb9 hrd8 hle8 hmx8 hlw hL hPW j2 j3 j4 j5 j6 j7 j8 j9 k0 k1 k2 k3 k4 k5 k6 k7 k8 k9 O;go_wp2_with (at_builtin;refine sf rfl _ _ rfl x _ _ _ rfl HR9.out A8 c8 w9.heap.size L rfl HRD8.out (by unfold maxLen;omega) (by omega) (by omega) ?_)
      intro aA Z r R;have hb10:Below b W1 Z:=by
       have h1:Below b W1 w9:=by rw[←HBB.out];exact HB19.out
       exact h1.grown R (by have:=HB19.out.size;have:=HBB.out;omega) (fun k T=>by injection T with T;subst T;exact hg20')
      have z:=so HI9.out HR9.out R;have hpw:[Value.string ds,Value.string iX]++L.map .string=PW.map .string:=by rw[s.out];rfl
      have S:2+L.length=PW.length:=by rw[s.out,List.length_cons,List.length_cons];omega
      have r:Z.ownsRow x 9 1 aA (2+L.length) ([Value.string ds,Value.string iX]++L.map .string):=r;rw[hpw,S]at r;obtain⟨A9,c9,rfl,hrd9,hle9,hmx9⟩:=fS r;have F:=Lq (pP b b c9 A9 PW (fx (ab ms)++iZ ((an cs).take k)) Z z (by omega) hrd9 hle9 (by omega) u.out (by have:=M.out;omega) (by have:=hb10.size;have:=HB19.out.size;have:=HBB.out;omega))
      have I:=Lq hb10;clear hb10 z hpw r hrd9 hle9 hmx9 R;go_wp2_with fail;refine F.out.mono ?_;rintro e ag ⟨rfl,g,v⟩;have HB11:=Lq (I.out.trans v);rw[←HKT.out]at g;have B:=Lq g;clear g v;go_wp2_with fail;go_roundw
      case measure=>simp[intOf];omega
      case rel=>exact⟨k+1,by omega,by go_num,B,HB11⟩
     ·obtain⟨W8,O,n⟩:=nA w7 (.cells #[.string ds,.string iY,.string nm] 9);have hr8:W8.ownsRow w7.heap.size 9 1 (.slice (some ⟨w7.heap.size,0,none⟩) 3 3) [ds,iY,nm].length ([ds,iY,nm].map .string):=by
       rw[←O];exact World.ownsRow_lit (e:=9) (size:=1) (base:=w7.heap.size) w7 #[.string ds,.string iY,.string nm] 3 (lr _) (by decide) (by simp)
      have s:Hid (ic ⟨2,dy,nm,⟨yn,yk,yf,yl,yon,yw,yz⟩⟩=[ds,iY,nm]):=Lq (by rw[←HDS.out];rfl)
      have u:Hid ((aM (ic ⟨2,dy,nm,⟨yn,yk,yf,yl,yon,yw,yz⟩⟩)).length≤100000):=HLN;rw[s.out]at HKT u;obtain⟨A9,c9,e9,hrd9,hle9,hmx9⟩:=fS hr8;injection e9 with e9 _ e9'
      subst e9 e9';have F:=Lq (pP b b 3 _ [ds,iY,nm] (fx (ab ms)++iZ ((an cs).take k)) W8 (nc HI7.out n) (by simp) hrd9 hle9 (by simp) u.out (by have:=M.out;omega) (by have:=n.size;have:=HB17.out.size;have:=HBB.out;omega))
      have o:Hid (Below b W1 W8):=Lq (by rw[←HBB.out];exact bT HB17.out n)
      obtain⟨x,y⟩:=ex w7.heap.size;rw[y]at F;clear n hr8 hrd9 hle9 hmx9;go_wp2_with fail;refine F.out.mono ?_;rintro e ag ⟨rfl,g,v⟩;have HB11:=Lq (o.out.trans v);rw[←HKT.out]at g;have B:=Lq g;clear g v O y k0 k1 k2 k3 k4 k5 k6 k7 k8 k9;go_wp2_with fail;go_roundw
      case measure=>simp[intOf];omega
      case rel=>exact⟨k+1,by omega,by go_num,B,HB11⟩
     ·have a:=HTL2.out (by decide)
      have s:Hid (ic ⟨3,dy,nm,⟨yn,yk,yf,yl,yon,yw,yz⟩⟩=ds::dR::nm::gB ⟨yn,yk,yf,yl,yon,yw,yz⟩):=Lq (by rw[←HDS.out];rfl)
      have u:Hid ((aM (ic ⟨3,dy,nm,⟨yn,yk,yf,yl,yon,yw,yz⟩⟩)).length≤100000):=HLN;rw[s.out]at HKT u;go_upto_region 18 with fail
      refine Fy (L:=gB ⟨yn,yk,yf,yl,yon,yw,yz⟩) (bs:=fx (ab ms)++iZ ((an cs).take k)) (by rw[sq];show 0<6+yon.length∧6+yon.length≤1006;have:=a.on;simp only at this;omega) u.out (by have:=M.out;omega) (by have:=HB17.out.size;have:=HBB.out;omega) HQ7.out (by decide) HI7.out (fun W hW=>?_) ?_ (fun W hb=>si ⟨⟨yn,yk,yf,yl,yon,yw,yz⟩,yA,yc⟩ W ((HMO7.out.below hb (lr _)).more hb.size) (HT.out.below (bT HB17.out hb) (lr _)) a.kind a.nums a.on)
      ·have q:=HQ7.out.same hW;exact⟨q.c 2,q.c 3,q.c 4,q.c 5,q.c 6,q.c 7,q.c 8,q.c 9⟩
      ·rintro aE aF aG aH aI aJ aK aL aO aP ag ⟨g,v⟩;have HB11:Hid (Below b W1 ag):=Lq ((show Below b W1 w7 by rw[←HBB.out];exact HB17.out).trans v)
       rw[←HKT.out]at g;have B:=Lq g;clear g v;go_wp2_with fail;go_roundw
       case measure=>simp[intOf];omega
       case rel =>
        refine⟨_,_,_,_,_,_,_,_,_,_,_,_,_,_,_,_,_,_,_,_,_,_,_,_,_,_,_,_,_,_,_,_,_,_,_,_,_,_,_,_,_,_,⟨k+1,by omega, ?_,B,HB11⟩,rfl⟩
        go_num
    ·obtain rfl:k=cs.length:=by omega
     have G:=HI.out;rw[List.take_of_length_le (Nat.le_of_eq (List.length_map _))]at G;have HST:=Lq (Tryz.Builder_String_any b b (lF (ab ms) (an cs)) wr G (by have:=hbw.size;have:=HBB.out;omega))
     obtain⟨X,hX⟩:=ex (lF (ab ms) (an cs));rw[hX]at HST;have HX:=Lq hX;have HBWW:=Lq hbw;clear G hX hbw;go_wp2_with fail;refine HST.out.mono ?_;rintro e w12 ⟨rfl,hb12⟩;have HB12:Hid (BW w w12):=Lq (bT HB1.out (show Below W1.heap.size W1 w12 by rw[HBB.out];exact J.out.trans hb12))
     clear hb12;go_wp2_with fail;go_ret
     refine⟨?_,HB12.out⟩;rw[HX.out];rfl
section
variable{cs:Array Value}{c g t:Nat}{A:Option Addr}{W w:World}
attribute [local go_sem] Oper.semAt_some
theorem Fz(A C:Option Addr)(cap a:Nat)(ms:List aj)(cs:List ao)(w:World)(H:fF w A C cap a ms cs)(h:bS (ab ms) (an cs))(u:fe w)(q:∀m∈ms,lI m.p∧(aM (jP m.p)).length≤100000)(hc:∀c∈cs,1≤c.what∧c.what≤3∧(-9223372036854775808≤c.day∧c.day≤9223372036854775807)∧(c.what≠2→lI c.part.p)∧(aM (ic c.c)).length≤100000)(j:ms.length≤1000)(f:cs.length≤1000) :
  Cs 48 #[.agg #[.slice A ms.length cap,.slice C cs.length a]] w (Rt w (.tuple #[.string ⟨(lF (ab ms) (an cs)).toArray⟩,iv 0])):=by
 obtain⟨k,o,l⟩:=nA w (.cells #[.slice A ms.length cap,.slice C cs.length a] 27);obtain⟨g1,hg1⟩:=ex w.heap.size;have q1:aa k g1 27 #[.slice A ms.length cap,.slice C cs.length a]:=by rw[←o,←hg1];exact aa.new w 27 _
 have d:=H.below l;have HCK:=Lq (rH A C ms cs k.heap.size cap a k (lr _) d.sl d.ch d.wf);have HTX:Hid (∀W,BW k W→Cs 104 #[.agg #[.slice A ms.length cap,.slice C cs.length a]] W (Rt W (.string ⟨(lF (ab ms) (an cs)).toArray⟩))):=Lq fun W b=>xI A C cap a ms cs W (d.below b) (u.below (bT l b) (lr _)) q hc j f
 have n:=Lq l;have HQ1:=Lq q1;have HOK:=Lq h;have d0:=q1.c 0;have d1:=q1.c 1;obtain⟨X,hX⟩:=ex (⟨(lF (ab ms) (an cs)).toArray⟩:ByteArray);rw[hX]at HTX;have HX:=Lq hX;clear H h u q hc j f l q1 d hX;go_enter Tryz.func48,Tryz.ntmps48
 go_wp2_with fail;refine HCK.out.mono ?_;rintro e v ⟨p,i,r,rfl,s,b⟩;obtain rfl:=s.2 HOK.out;have HB2:=Lq b;have q2:=HQ1.out.keep b;have e0:=q2.c 0;have e1:=q2.c 1;clear b s q2 d0 d1;go_wp2_with fail;refine(HTX.out _ HB2.out).mono ?_;rintro e w3 ⟨rfl,b⟩;have HB3:=Lq (bT n.out (bT HB2.out b));clear b;go_wp2_with fail
 go_ret2
 rw[HX.out];exact⟨rfl,HB3.out⟩
theorem nh(w:World):Cs 107 #[.bool true] w fun e w'=>e=.returned (.tuple #[])∧w'=w:=by
 go_enter Tryz.func107,Tryz.ntmps107
 go_wp2_with fail;exact⟨rfl,.tuple #[],by simp[results,Tryz.results107,go_sem],rfl,rfl⟩
theorem xJ(s a:ByteArray)(m:Int)(w:World)(d:s.size<4294967281)(b:w.cell? ⟨0,0,none⟩=some (iv m)) :
  Cs 106 #[.string s,.string a] w (Rt w (.tuple #[.string ⟨(Lib.cut s.data.toList a.data.toList).1.toArray⟩,.string ⟨(Lib.cut s.data.toList a.data.toList).2.1.toArray⟩,.bool (Lib.cut s.data.toList a.data.toList).2.2])):=by
 refine(Tryz.strings_Cut s a m w d b).mono ?_;rintro e w' ⟨rfl,n,rfl⟩;exact⟨rfl,⟨rfl,rfl,rfl,lr _,fun _ _=>rfl⟩⟩
structure fH(w:World)(g:Nat)(A:Option Addr)(c:Nat)(l:List ByteArray):Prop where
 blk:aa w g 196 #[.slice A l.length c]
 rd:am .string w g A l
 le:l.length≤c
 here:∀a,A=some a→a.block+1=g
 max:c≤maxLen
theorem fH.same{l:List ByteArray}(h:fH w g A c l)(j:∀k,k≤g→W.heap[k]?=w.heap[k]?):fH W g A c l:=by
 refine⟨h.blk.same (j g (lr _)),fun i x hx=>?_,h.le,h.here,h.max⟩
 obtain⟨b,f,e,d,hc⟩:=h.rd i x hx;exact⟨b,f,e,d,(World.cell?_of_block (w:=w) (a:=⟨b,_,none⟩) (j b (Nat.le_of_lt d))).trans hc⟩
theorem fH.below{l:List ByteArray}(h:fH w g A c l)(a:BW w W):fH W g A c l:=h.same fun k b=>a.block k (Nat.lt_of_le_of_lt b h.blk.lt)
theorem kP(g c:Nat)(A:Option Addr)(x:ByteArray)(l:List ByteArray)(w:World)(H:fH w g A c (x::l)) :
  Cs 109 #[.pointer (some ⟨g,0,none⟩)] w fun e w'=>e=.returned (.string x)∧ai w w' g∧∃A' c',fH w' g A' c' l:=by
 obtain⟨d,o,rfl,k,f⟩:=H.rd 0 x rfl;have f:w.cell? ⟨d,o,none⟩=some (.string x):=f;have d0:=H.blk.c 0;have f0:=H.blk.frozen 0;have l0:=H.blk.lt;have hl:0<(x::l).length:=by simp
 have p:=H.le;obtain⟨n,hn⟩:=ex (x::l).length;rw[hn]at d0 hl p;have HN:=Lq hn;have HH:=Lq H;clear H hn;have hn1:(n:Int)-1=((n-1:Nat):Int):=by omega
 have h:n-1=l.length:=by rw[←HN.out];rfl
 have b:=Lq h;clear h hn1;go_enter Tryz.func109,Tryz.ntmps109
 go_wp2_with fail;refine(nh _).mono ?_;rintro e u ⟨rfl,rfl⟩;by_cases hc1:c=1
 ·subst hc1;obtain rfl:n=1:=by omega
  go_wp2_with fail;go_ret
  have m:l=[]:=List.length_eq_zero_iff.1 b.out.symm;subst m;have j:=HH.out.blk.set_ 0 (.slice (some ⟨d,o,none⟩) 0 0);refine⟨rfl,ai.of_set (bR _) g 0 _,_,_,⟨j,fun i x hx=>(by cases hx),lr _,HH.out.here,Nat.zero_le _⟩⟩
 ·go_wp2_with fail;go_ret
  have j:=HH.out.blk.set_ 0 (.slice (some ⟨d,o+1,none⟩) (n-1) (c-1));refine⟨rfl,ai.of_set (bR _) g 0 _,some ⟨d,o+1,none⟩,c-1,⟨?_,fun i y hy=>?_, ?_,fun a ha=>by injection ha with ha;subst ha;exact HH.out.here ⟨d,o,none⟩ rfl,lT (Nat.sub_le _ _) HH.out.max⟩⟩
  ·rw[←b.out];exact j
  ·obtain⟨r,s,e,q,hc⟩:=HH.out.rd (i+1) y hy;injection e with e
   injection e with e1 e2
   subst e1 e2;refine⟨d,o+1,rfl,k, ?_⟩;rw[show o+1+i=o+(i+1)by omega]
   exact kV hc (show d≠g by omega)
  ·rw[←b.out];omega
structure jR(x:ByteArray)(n:Int):Prop where
 sz:x.size≤18
 at':Lib.atoi x.data.toList=some n
theorem mB(g c:Nat)(A:Option Addr)(x:ByteArray)(n:Int)(l:List ByteArray)(w:World)(H:fH w g A c (x::l))(hx:jR x n) :
  Cs 174 #[.pointer (some ⟨g,0,none⟩)] w fun e w'=>e=.returned (iv n)∧ai w w' g∧∃a d,fH w' g a d l:=by
 have b:=Lq (kP g c A x l w H);have HX:=Lq hx;have HH:=Lq H;clear H hx;have q199:∀w:World,(binOp .eql 235 .nilIface .nilIface).run Tryz.prog w=.ok (.bool true) w:=fun w=>by simp[go_sem]
 go_enter Tryz.func174,Tryz.ntmps174
 go_wp2_with fail;refine b.out.mono ?_;rintro e i ⟨rfl,f,a,d,h⟩;have HO:=Lq f;have HW:=Lq h;clear f h;go_wp2_with fail;refine(Tryz.strconv_Atoi x n HX.out.sz HX.out.at' i).mono ?_;rintro e w3 ⟨rfl,t,hw3⟩;have HB3:Hid (BW i w3):=Lq (by rw[hw3];exact Go.Joins.below_bytesWorld _ _ _ _ (lr _))
 clear hw3;go_wp2_with fail;refine(nh _).mono ?_;rintro e j ⟨rfl,rfl⟩;go_wp2_with fail;go_ret
 exact⟨rfl,HO.out.join (ai.of_below HB3.out g),a,d,HW.out.below HB3.out⟩
structure FA(x:ByteArray)(k:Nat):Prop where
 lt:k<5
 at':Lib.idxOfS iW x=(k:Int)
structure ni(p:ah)(nm kw w1 w2 w3 w4:ByteArray):Prop where
 nm:nm=p.name
 kind:∃k:Nat,FA kw k∧p.kind=(k:Int)+1
 n1:jR w1 p.first
 n2:jR w2 p.last
 n3:jR w3 p.wlo
 n4:jR w4 p.whi
def xK(g:Nat)(p:ah)(w:World)(e:Ending)(w':World):Prop:=∃A c,e=.returned (.agg #[.string p.name,iv p.kind,iv p.first,iv p.last,.slice A p.on.length c,iv p.wlo,iv p.whi])∧ai w w' g∧fH w' g A c p.on
structure cO(w W:World)(g t:Nat)(ty:TypeId)(A:Option Addr)(c:Nat)(l:List ByteArray)(cs:Array Value):Prop where
 only:ai w W g
 blk:aa W t ty cs
 wd:fH W g A c l
theorem cO.step{V:World}{i:TypeId}{a:Option Addr}{b:Nat}{l f:List ByteArray}(h:cO w W g t i A c l cs)(j:g≠t)(d:ai W V g)(k:fH V g a b f):cO w V g t i a b f cs :=
 ⟨h.only.join d,h.blk.same (d.block t h.blk.lt (Ne.symm j)),k⟩
theorem cO.put{d:TypeId}{l:List ByteArray}(h:cO w W g t d A c l cs)(f:g<t)(j:w.heap.size=t)(i:Nat)(v:Value):cO w (W.setCell ⟨t,i,none⟩ v) g t d A c l (cs.setIfInBounds i v):=by refine⟨⟨h.only.os,h.only.tape,h.only.output,by simp only[World.size_setCell];exact h.only.size,fun k b a=>(Below.heap_setCell W ⟨t,i,none⟩ v k (by simp only;omega)).trans (h.only.block k b a)⟩,h.blk.set_ i v,h.wd.same fun k b=>Below.heap_setCell W ⟨t,i,none⟩ v k (by simp only;omega)⟩
theorem cO.put7{l:List ByteArray}{p q r s u v x:Value}(h:cO w W g t 50 A c l #[p,q,r,s,u,v,x])(a:g<t)(b:w.heap.size=t)(d f i j m n o:Value):cO w (((((((W.setCell ⟨t,0,none⟩ d).setCell ⟨t,1,none⟩ f).setCell ⟨t,2,none⟩ i).setCell ⟨t,3,none⟩ j).setCell ⟨t,4,none⟩ m).setCell ⟨t,5,none⟩ n).setCell ⟨t,6,none⟩ o) g t 50 A c l #[d,f,i,j,m,n,o]:=by have k:=((((((h.put a b 0 d).put a b 1 f).put a b 2 i).put a b 3 j).put a b 4 m).put a b 5 n).put a b 6 o;exact⟨k.only,nW _ _ _ _ _ _ _ h.blk,k.wd⟩
theorem sy(g c:Nat)(A:Option Addr)(p:ah)(f x y s q n:ByteArray)(w:World)(H:fH w g A c (f::x::y::s::q::n::p.on))(hp:ni p f x y s q n) :
  Cs 110 #[.pointer (some ⟨g,0,none⟩)] w (xK g p w):=by
 obtain⟨pn,pk,h,l,a,m,o⟩:=p;obtain⟨rfl,⟨k,⟨hk5,hka⟩,hkd⟩,h1,h2,h3,h4⟩:=hp;simp only at hkd h1 h2 h3 h4 H;subst hkd;obtain⟨W1,hW1,b1⟩:=nA w (.cells #[.string ⟨#[]⟩,iv 0,iv 0,iv 0,.slice none 0 0,iv 0,iv 0] 50);have q1:aa W1 w.heap.size 50 #[.string ⟨#[]⟩,iv 0,iv 0,iv 0,.slice none 0 0,iv 0,iv 0]:=by rw[←hW1];exact aa.new w 50 _
 have O:=H.blk.lt;obtain⟨t,ht⟩:=ex w.heap.size;rw[ht]at q1 O;have HN1:=Lq (kP g c A f _ W1 (H.below b1));have hT0:cO w W1 g t 50 A c (f::x::y::s::q::n::a) #[.string ⟨#[]⟩,iv 0,iv 0,iv 0,.slice none 0 0,iv 0,iv 0]:=⟨ai.of_below b1 g,q1,H.below b1⟩;have HT0:=Lq hT0;have HTT:Hid (w.heap.size=t):=Lq ht;have HP1:=Lq h1;have HP2:=Lq h2;have HP3:=Lq h3;have HP4:=Lq h4;have HK:=Lq hka;have HKL:=Lq hk5;clear H b1 q1 h1 h2 h3 h4 hka hk5 hT0;go_enter Tryz.func110,Tryz.ntmps110
 go_wp2_with fail;clear hW1 ht;refine HN1.out.mono ?_;rintro e v1 ⟨rfl,d,T,c1,b⟩;have T1:=HT0.out.step (by omega) d b
 have i:=T1.blk.frozen 0;have x1:=T1.blk.c 0;have l1:=T1.blk.lt;have hT1:=T1.put (by omega) HTT.out 0 (.string f)
 obtain⟨u,C⟩:=ex (v1.setCell ⟨t,0,none⟩ (.string f));rw[C]at hT1;have HT1:Hid (cO w u g t 50 T c1 (x::y::s::q::n::a) #[.string f,iv 0,iv 0,iv 0,.slice none 0 0,iv 0,iv 0]):=Lq hT1;clear d b hT1;go_wp2_with fail;refine(xg _).mono ?_;rintro e v2 ⟨rfl,hv2⟩;have hb2:BW u v2:=by rw[hv2];exact bA (bR u) _
 have r:aa v2 u.heap.size 9 (iW.map .string).toArray:=by rw[hv2];exact aa.new u 9 _
 obtain⟨K,I⟩:=ex u.heap.size;rw[I]at r;have hgk':t<K:=by have:=HT1.out.blk.lt;omega
 have L:=Lq (kP g c1 T x _ v2 (HT1.out.wd.below hb2));have HT2:=Lq (HT1.out.step (by omega) (ai.of_below hb2 g) (HT1.out.wd.below hb2))
 have B:=Lq r
 (try simp only[I])
 clear hb2 r hv2 i x1 l1 C T1;go_wp2_with fail;refine L.out.mono ?_;rintro e v3 ⟨rfl,d,U,c2,b⟩;have HT3:=Lq (HT2.out.step (by omega) d b)
 have J:aa v3 K 9 (iW.map .string).toArray:=B.out.same (d.block K B.out.lt (by omega))
 have z:=Lq (Tryz.slices_Index_string K 0 5 5 iW x v3 (by decide) (by decide) (fun j hj=>by have hj5:j<5:=hj;rw[Nat.zero_add,J.cell];rcases(show j=0∨j=1∨j=2∨j=3∨j=4 by omega)with rfl | rfl | rfl | rfl | rfl<;>rfl))
 rw[show iW.take 5=iW from rfl,HK.out]at z
 clear d b J;go_wp2_with fail;refine z.out.mono ?_;rintro e v4 ⟨rfl,R⟩;subst R;have hk0:=nn k;have hk5:(k:Int)<5:=by have:=HKL.out;omega
 go_wp2_with fail;refine(nh _).mono ?_;rintro e v5 ⟨rfl,S⟩;subst S;have i:=HT3.out.blk.frozen 1;have x1:=HT3.out.blk.c 1;have l1:=HT3.out.blk.lt;have hT4:=HT3.out.put (by omega) HTT.out 1 (iv ((k:Int)+1))
 have ab:IntKind.i64.wrap ((k:Int)+1)=(k:Int)+1:=by rw[IntKind.wrap_i64];omega
 obtain⟨V,D⟩:=ex (v5.setCell ⟨t,1,none⟩ (iv ((k:Int)+1)));rw[D]at hT4;have HT4:Hid (cO w V g t 50 U c2 (y::s::q::n::a) #[.string f,iv ((k:Int)+1),iv 0,iv 0,.slice none 0 0,iv 0,iv 0]):=Lq hT4;have HM4:=Lq (mB g c2 U y h _ V HT4.out.wd HP1.out);clear hT4;go_wp2_with fail;clear i x1 l1 D;refine HM4.out.mono ?_;rintro e v6 ⟨rfl,d,A3,c3,b⟩;have T1:=HT4.out.step (by omega) d b
 have i:=T1.blk.frozen 2;have x1:=T1.blk.c 2;have l1:=T1.blk.lt;have hT1:=T1.put (by omega) HTT.out 2 (iv h)
 obtain⟨X,E⟩:=ex (v6.setCell ⟨t,2,none⟩ (iv h));rw[E]at hT1;have HT5:Hid (cO w X g t 50 A3 c3 (s::q::n::a) #[.string f,iv ((k:Int)+1),iv h,iv 0,.slice none 0 0,iv 0,iv 0]):=Lq hT1;have HM5:=Lq (mB g c3 A3 s l _ X HT5.out.wd HP2.out);clear d b hT1;go_wp2_with fail;clear i x1 l1 E T1;refine HM5.out.mono ?_;rintro e v7 ⟨rfl,d,A4,c4,b⟩;have T1:=HT5.out.step (by omega) d b
 have i:=T1.blk.frozen 3;have x1:=T1.blk.c 3;have l1:=T1.blk.lt;have hT1:=T1.put (by omega) HTT.out 3 (iv l)
 obtain⟨Y,F⟩:=ex (v7.setCell ⟨t,3,none⟩ (iv l));rw[F]at hT1;have HT6:Hid (cO w Y g t 50 A4 c4 (q::n::a) #[.string f,iv ((k:Int)+1),iv h,iv l,.slice none 0 0,iv 0,iv 0]):=Lq hT1;have HM6:=Lq (mB g c4 A4 q m _ Y HT6.out.wd HP3.out);clear d b hT1;go_wp2_with fail;clear i x1 l1 F T1;refine HM6.out.mono ?_;rintro e v8 ⟨rfl,d,A5,c5,b⟩;have T1:=HT6.out.step (by omega) d b
 have i:=T1.blk.frozen 5;have x1:=T1.blk.c 5;have l1:=T1.blk.lt;have hT1:=T1.put (by omega) HTT.out 5 (iv m)
 obtain⟨Z,G⟩:=ex (v8.setCell ⟨t,5,none⟩ (iv m));rw[G]at hT1;have HT7:Hid (cO w Z g t 50 A5 c5 (n::a) #[.string f,iv ((k:Int)+1),iv h,iv l,.slice none 0 0,iv m,iv 0]):=Lq hT1;have HM7:=Lq (mB g c5 A5 n o _ Z HT7.out.wd HP4.out);clear d b hT1;go_wp2_with fail;clear i x1 l1 G T1;refine HM7.out.mono ?_;rintro e v9 ⟨rfl,d,A6,c6,b⟩;have T1:=HT7.out.step (by omega) d b
 have i:=T1.blk.frozen 6;have x1:=T1.blk.c 6;have l1:=T1.blk.lt;have hT1:=T1.put (by omega) HTT.out 6 (iv o)
 obtain⟨V8,M⟩:=ex (v9.setCell ⟨t,6,none⟩ (iv o));rw[M]at hT1;have HT8:Hid (cO w V8 g t 50 A6 c6 (a) #[.string f,iv ((k:Int)+1),iv h,iv l,.slice none 0 0,iv m,iv o]):=Lq hT1;clear d b hT1;have b:=HT8.out.wd;have d0:=HT8.out.wd.blk.c 0;have f4:=HT8.out.blk.frozen 4;have x4:=HT8.out.blk.c 4;have l4:=HT8.out.blk.lt;have hT9:=HT8.out.put (by omega) HTT.out 4 (.slice A6 a.length c6)
 obtain⟨V9,N⟩:=ex (V8.setCell ⟨t,4,none⟩ (.slice A6 a.length c6));rw[N]at hT9;have HT9:Hid (cO w V9 g t 50 A6 c6 a #[.string f,iv ((k:Int)+1),iv h,iv l,.slice A6 a.length c6,iv m,iv o]):=Lq hT9;have HTA:=Lq (HT9.out.put7 (by omega) HTT.out (.string f) (iv ((k:Int)+1)) (iv h) (iv l) (.slice A6 a.length c6) (iv m) (iv o))
 obtain⟨i0,i1,i2,i3,i4,i5,i6⟩:=HT9.out.blk.c7;obtain⟨g0,g1,g2,g3,g4,g5,g6⟩:=HT9.out.blk.f7;have l9:=HT9.out.blk.lt;obtain⟨VA,hVA⟩:=ex (((((((V9.setCell ⟨t,0,none⟩ (.string f)).setCell ⟨t,1,none⟩ (iv ((k:Int)+1))).setCell ⟨t,2,none⟩ (iv h)).setCell ⟨t,3,none⟩ (iv l)).setCell ⟨t,4,none⟩ (.slice A6 a.length c6)).setCell ⟨t,5,none⟩ (iv m)).setCell ⟨t,6,none⟩ (iv o));rw[hVA]at HTA;obtain⟨y0,y1,y2,y3,y4,y5,y6⟩:=HTA.out.blk.c7;clear hT9 b;go_wp2_with fail;exact bodyPost_ret (v:=.agg #[.string f,iv ((k:Int)+1),iv h,iv l,.slice A6 a.length c6,iv m,iv o]) (by simp[results,Tryz.results110,go_sem,y0,y1,y2,y3,y4,y5,y6]) rfl ⟨A6,c6,rfl,HTA.out.only,HTA.out.wd⟩
end
end Go.Proofs.YtbillnhcmkpohaaGreatDoor
