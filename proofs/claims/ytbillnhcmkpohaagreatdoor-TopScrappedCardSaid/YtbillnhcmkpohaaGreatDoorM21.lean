/- waste: a loop over the lists of papers: what the loop owes, and what it gives; a round .. -/
import Derived.Scope
import Derived.Maps.OwnIn
import Derived.Lib.AppendZeros
import Derived.Test.YtbillnhcmkpohaaGreatDoorM20
set_option maxRecDepth 1000000
set_option maxHeartbeats 0
namespace Go.Proofs.YtbillnhcmkpohaaGreatDoor
open Go.RowKit Go.Shelf
section
variable{W X w w':World}
attribute [local go_sem] Oper.semAt_some
structure aS(M:Nat→Prop)(T:TypeId)(w w':World):Prop where
 size:w.heap.size≤w'.heap.size
 same:∀k,¬M k→k<w.heap.size→(∀cs f,w.heap[k]?≠some (.cells cs T f))→w'.heap[k]?=w.heap[k]?
theorem aS.refl(M:Nat→Prop)(T:TypeId)(w:World):aS M T w w:=⟨lr _,fun _ _ _ _=>rfl⟩
theorem aS.trans{M:Nat→Prop}{T:TypeId}{Y Z:World}(h:aS M T X Y)(k:aS M T Y Z):aS M T X Z :=
 ⟨lT h.size k.size,fun i b a hc=>by have e:=h.same i b a hc;exact(k.same i b (lz a h.size) (fun cs f=>by rw[e];exact hc cs f)).trans e⟩
theorem aS.of_below{M:Nat→Prop}{T:TypeId}(h:BW W X):aS M T W X:=⟨h.size,fun k _ a _=>h.block k a⟩
theorem aS.weak{M a:Nat→Prop}{T:TypeId}(h:aS M T W X)(d:∀k,M k→a k):aS a T W X:=⟨h.size,fun k b c hc=>h.same k (fun h'=>b (d k h')) c hc⟩
theorem aS.blk{M:Nat→Prop}{T:TypeId}(h:aS M T w w'){g:Nat}{t:TypeId}{cs:Array Value}(a:aa w g t cs)(b:¬M g)(d:t≠T):aa w' g t cs :=
 a.same (h.same g b a.lt (fun c f e=>by unfold aa at a;rw[a]at e;injection e with e;injection e with _ e _;exact d e))
theorem aS.own{M:Nat→Prop}{T:TypeId}(h:aS M T w w'){base:Nat}{e:TypeId}{size n:Nat}{v:Value}{xs:List Value}(l:w.ownsRow base e size v n xs)(i:∀k,M k→k<base)(m:e≠T):w'.ownsRow base e size v n xs:=by
 obtain⟨d,b⟩:=l;refine⟨d, ?_⟩;rcases b with b | ⟨g,cap,cur,hv,hb,hg,r⟩
 ·exact .inl b
 ·refine .inr ⟨g,cap,cur,hv,hb, ?_,r⟩;have a:g<w.heap.size:=by
   rcases Nat.lt_or_ge g w.heap.size with a | hge
   ·exact a
   ·rw[Array.getElem?_eq_none hge]at hg;cases hg
  refine(h.same g (fun j=>by have:=i g j;omega) a (fun c f e=>?_)).trans hg
  rw[hg]at e;injection e with e
  injection e with _ e _
  exact m e
def dJ(W:World)(bw:Nat)(s:List Int)(v:Value):Prop:=W.ownsRow bw 3 1 v s.length (s.map iv)
def sR(m bw l:Nat)(M:Nat→Prop)(T:TypeId)(all:List (List Int))(J Jx:List (List Int)→World→Prop):Prop :=
 ∀(pre:List (List Int)) (s:List Int) (v:Value) (W:World),J pre W→pre++[s] <+: all→bw<W.heap.size→dJ W bw s v→YieldAt Fence.wide m Tryz.prog l #[v] W fun e W' =>
  aS M T W W'∧((e=.returned (.bool true)∧J (pre++[s]) W')∨(e=.returned (.bool false)∧Jx (pre++[s]) W'))
def Ae(f:FuncId)(caps:Array Value)(T:TypeId)(all:List (List Int))(C:Nat→Prop)(w:World):Prop :=
 ∀(M:Nat→Prop) (l m:Nat) (J Jx:List (List Int)→World→Prop) (W:World),BW w W→(∀k,M k→C k∧k<W.heap.size)→(∀s W1 W2,J s W1→BW W1 W2→J s W2) →
  (∀m,sR m W.heap.size l M T all J Jx)→J [] W→CallsIn Fence.wide m Tryz.prog f (#[.func (.yield l) #[] #[]]++caps) W fun e W'=>(∃v,e=.returned v)∧(J all W'∨∃pre,Jx pre W')
theorem sS(h:BW W X)(c:Option Nat):W.grownBy X c:=⟨h.os,h.tape,h.output,h.size,fun k a _=>h.block k a⟩
def Hg(M:Nat→Prop)(T:TypeId)(I Ix:List (List Int)→World→Prop)(ee:Exit)(xs:List (List Int))(W:World):Exit→Act→World→Prop
 | .normal,_,W'=>aS M T W W'∧I xs W'
 | e,_,W'=>e=ee∧aS M T W W'∧Ix xs W'
theorem Ah{p:Tmp}{gf:Operand}{assign body:Code}{Q:Exit→Act→World→Prop}{a:Act}(nn:Nat)(f:FuncId)(n:Array Value)(T:TypeId)(all:List (List Int))(M C:Nat→Prop)(ee:Exit)(Z:Code)(D:(ee=.ret∧Z=.ret)∨∃id,ee=.exit id∧Z=.exit id)(hg:a.eval gf=.func (.func f) #[] n)(U:Ae f n T all C w)(aa:∀k,M k→C k∧k<w.heap.size)(hC:C (w.heap.size+1))(am:∀args w,(callFunc f args).run Tryz.prog w=.ok (.enter f args) w)(I Ix:List (List Int)→World→Prop)(O:∀s c u,Ix s c→c.grownBy u (some (w.heap.size+1))→Ix s u)(hI:∀s c u,I s c→c.grownBy u (some (w.heap.size+1))→I s u)(h0:I [] w)(R:∀(m l:Nat) (b:List (List Int)) (s:List Int) (v:Value) (W:World),I b W→b++[s] <+: all→w.heap.size+2<W.heap.size→dJ W (w.heap.size+2) s v →
   assign.wpIn (Fence.wide.inRound l) m Tryz.prog (Exit.then (fun a1 c=>BW W c∧∀u,I b u→c.grownBy u (some (w.heap.size+1))→u.heap.size=c.heap.size→body.wpIn (Fence.wide.inRound l) m Tryz.prog (Hg M T I Ix ee (b++[s]) u) a1 u) (fun _ _ _=>False)) { tmps:=a.tmps.setIfInBounds p v,defers:=[] } W)(S:∀(W:World),I all W→w.heap.size+2≤W.heap.size→W.heap[w.heap.size]?=some (.deferred (some []))→Q .normal { a with defers:={ target:=.collected w.heap.size,args:=#[] }::a.defers } W)(V:∀(b:List (List Int)) (W:World),Ix b W→w.heap.size+2≤W.heap.size→W.heap[w.heap.size]?=some (.deferred (some []))→Z.wpIn Fence.wide nn Tryz.prog Q { a with defers:={ target:=.collected w.heap.size,args:=#[] }::a.defers } W) :
  (Code.rangeFunc gf #[p] assign body).wpIn Fence.wide nn Tryz.prog Q a w:=by
 refine wpIn_rangeFunc ?_;intro fn an;obtain⟨rec,hrec⟩:∃rec:LoopState→Option Code→Loop,rec=fun st pe=>{ state:=st,pending:=pe,fn,tmps:=a.tmps,params:=#[p],assign,body,defers:=w.heap.size }:=⟨_,rfl⟩
 obtain⟨c,y⟩:=ex ((w.alloc (.deferred (some []))).alloc (.loop (rec .ready none)));have hL1:c.heap[w.heap.size+1]?=some (.loop (rec .ready none)):=by rw[←y];have:=World.alloc_heap_new (w.alloc (.deferred (some []))) (.loop (rec .ready none));rwa [World.size_alloc]at this
 have ak:c.heap[w.heap.size]?=some (.deferred (some [])):=by rw[←y];exact(Below.heap_alloc _ _ _ (by simp)).trans (World.alloc_heap_new w _)
 have ab:BW w c:=by rw[←y];exact((Below.refl _ w).alloc (lr _) _).alloc (by simp) _
 have ao:c.heap.size=w.heap.size+2:=by rw[←y];simp
 have aj:I [] c:=hI _ _ _ h0 (sS ab _);refine⟨w.heap.size+1,[{ target:=.collected w.heap.size,args:=#[] }],c,{ target:=.fn (.func f) n,args:=#[.func (.yield (w.heap.size+1)) #[] #[]] },c,f,
  #[.func (.yield (w.heap.size+1)) #[] #[]]++n,c, ?_, ?_, ?_, ?_,hdd _, ?_⟩
 ·rw[←y,hrec];exact run_enterLoop_outer _ _ _ _ _
 ·simp only[resolve,hg];simp[go_sem]
 ·intro f' aq;trivial
 ·simp[invoke,go_sem,am]
 ·have g:∀{B:Nat} {X Y:World} {k:Nat} {o:Obj},Below B X Y→k<B→X.heap[k]?=some o→Y.heap[k]?=some o:=fun hb i ho=>(hb.block _ i).trans ho
  refine(U (fun k=>M k∨k=w.heap.size+1) (w.heap.size+1) (nn-1)
   (fun b W=>I b W∧W.heap[w.heap.size+1]?=some (.loop (rec .ready none))∧W.heap[w.heap.size]?=some (.deferred (some [])))
   (fun b W=>Ix b W∧W.heap[w.heap.size+1]?=some (.loop (rec .done (some Z)))∧W.heap[w.heap.size]?=some (.deferred (some [])))
   c ab (fun k i=>by
    rcases i with i | i
    ·have:=aa k i;exact⟨this.1,by omega⟩
    ·subst i;exact⟨hC,by omega⟩)
   (fun s A B h hb=>⟨hI s A B h.1 (sS hb _),g hb (Array.getElem?_eq_some_iff.1 h.2.1).1 h.2.1,g hb (Array.getElem?_eq_some_iff.1 h.2.2).1 h.2.2⟩) ?_ ⟨aj,hL1,ak⟩).mono ?_
  ·rintro m b x v W ⟨hi,K,i⟩ ai ap ac;have hlt:w.heap.size+1<W.heap.size:=(Array.getElem?_eq_some_iff.1 K).1;have hy:(Instr.yield (w.heap.size+1) #[v]).run Tryz.prog W=.ok (.round (w.heap.size+1) fn (a.tmps.setIfInBounds p v) assign body) W:=by
    have:=run_yield (P:=Tryz.prog) (args:=#[v]) K (by rw[hrec];rfl)
    rw[hrec]at this
    simpa using this
   refine⟨fn,_,assign,body,hy,roundIn_of_wpIn an ?_⟩;refine wpIn_mono (R m (w.heap.size+1) b x v W hi ai (by omega) (by rw[ao]at ac;exact ac)) ?_
   rintro e a1 j L;cases e with
   | normal =>
    obtain⟨H,L⟩:=L;have hl':j.heap[w.heap.size+1]?=some (.loop (rec .ready none)):=g H hlt K;have hk':j.heap[w.heap.size]?=some (.deferred (some [])):=g H (by omega) i
    have ag:w.heap.size+1<j.heap.size:=(Array.getElem?_eq_some_iff.1 hl').1;have hi':I b j:=hI _ _ _ hi (sS H _);refine⟨_,run_beginRound hl' (by rw[hrec]), ?_⟩
    have ae:(j.putObj (w.heap.size+1) (.loop { rec .ready none with state:=.busy })).heap[w.heap.size+1]?=some (.loop { rec .ready none with state:=.busy }):=World.putObj_heap_same ag
    have ad:(j.putObj (w.heap.size+1) (.loop { rec .ready none with state:=.busy })).heap[w.heap.size]?=some (.deferred (some [])):=(World.putObj_heap_other (by omega)).trans hk'
    refine wpIn_mono (L _ (hI _ _ _ hi' (jx _ _ _)) (jx _ _ _) (by simp[World.putObj])) ?_
    have N:∀(jump:Option Code) (q:World),aS M T (j.putObj (w.heap.size+1) (.loop { rec .ready none with state:=.busy })) q →
      (Instr.endRound (w.heap.size+1) jump).run Tryz.prog q=.ok (.bool jump.isNone) (q.putObj (w.heap.size+1) (.loop (rec (if jump.isNone then .ready else .done) jump))) ∧
      (q.putObj (w.heap.size+1) (.loop (rec (if jump.isNone then .ready else .done) jump))).heap[w.heap.size+1]?=some (.loop (rec (if jump.isNone then .ready else .done) jump)) ∧
      (q.putObj (w.heap.size+1) (.loop (rec (if jump.isNone then .ready else .done) jump))).heap[w.heap.size]?=some (.deferred (some [])) ∧
      aS (fun k=>M k∨k=w.heap.size+1) T W (q.putObj (w.heap.size+1) (.loop (rec (if jump.isNone then .ready else .done) jump))):=fun jump q d=>by
     have nM:∀k,w.heap.size≤k→¬M k:=fun k i hm=>by have:=(aa k hm).2;omega
     have af:q.heap[w.heap.size+1]?=some (.loop { rec .ready none with state:=.busy }):=(d.same _ (nM _ (by omega)) (by simp[World.putObj];omega) (fun cs f e=>by rw[ae]at e;cases e)).trans ae
     have al:q.heap[w.heap.size]?=some (.deferred (some [])):=(d.same _ (nM _ (by omega)) (by simp[World.putObj];omega) (fun cs f e=>by rw[ad]at e;cases e)).trans ad
     have:=run_endRound (P:=Tryz.prog) jump af;rw[hrec]at this ⊢;have put:∀(X:World) (o:Obj),aS (fun k=>M k∨k=w.heap.size+1) T X (X.putObj (w.heap.size+1) o):=fun X o =>
      ⟨by simp[World.putObj],fun k i _ _=>World.putObj_heap_other (fun e=>i (.inr e))⟩
     refine⟨this,World.putObj_heap_same (Array.getElem?_eq_some_iff.1 af).1,(World.putObj_heap_other (by omega)).trans al, ?_⟩
     exact(((aS.of_below H).trans (put _ _)).trans (d.weak fun k i=>.inl i)).trans (put _ _)
    rintro e a3 q r;cases e with
    | normal =>
     obtain⟨d,z⟩:=r;obtain⟨hr,G,E,F⟩:=N none q d;exact⟨_,_,hr,F,.inl ⟨rfl,hI _ _ _ z (jx _ _ _),G,E⟩⟩
    | ret =>
     obtain⟨J,d,z⟩:=r;obtain rfl:Z=.ret:=by
      rcases D with⟨_,h⟩ | ⟨id,h,_⟩
      ·exact h
      ·rw[h]at J;cases J
     obtain⟨hr,G,E,F⟩:=N (some .ret) q d;exact⟨_,_,hr,F,.inr ⟨rfl,O _ _ _ z (jx _ _ _),G,E⟩⟩
    | exit id =>
     obtain⟨J,d,z⟩:=r;obtain rfl:Z=.exit id:=by
      rcases D with⟨h,_⟩ | ⟨id',h,h'⟩
      ·rw[h]at J;cases J
      ·rw[h]at J;injection J with J;rw[h',J]
     obtain⟨hr,G,E,F⟩:=N (some (.exit id)) q d;exact⟨_,_,hr,F,.inr ⟨rfl,O _ _ _ z (jx _ _ _),G,E⟩⟩
    | goto t=>exact absurd r.1 (by rcases D with⟨h,_⟩ | ⟨id',h,_⟩<;>rw[h]<;>intro h<;>cases h)
    | panic ch=>exact absurd r.1 (by rcases D with⟨h,_⟩ | ⟨id',h,_⟩<;>rw[h]<;>intro h<;>cases h)
    | outgrown=>exact absurd r.1 (by rcases D with⟨h,_⟩ | ⟨id',h,_⟩<;>rw[h]<;>intro h<;>cases h)
   | ret=>exact L.elim
   | exit id=>exact L.elim
   | goto t=>exact L.elim
   | panic ch=>exact L.elim
   | outgrown=>exact L.elim
  ·rintro e u ⟨⟨v,rfl⟩,⟨hi,K,i⟩ | ⟨b,hi,K,i⟩⟩
   rotate_left
   ·have ah:=(Array.getElem?_eq_some_iff.1 K).1;exact⟨some Z,_,by have:=run_endLoop (P:=Tryz.prog) K (by rw[hrec];simp);rw[hrec]at this;exact this,
     V b _ (O _ _ _ hi (jx _ _ _)) (by simp[World.putObj];omega) ((World.putObj_heap_other (by omega)).trans i)⟩
   have ah:=(Array.getElem?_eq_some_iff.1 K).1;exact⟨none,_,by have:=run_endLoop (P:=Tryz.prog) K (by rw[hrec];simp);rw[hrec]at this;exact this,
    S _ (hI _ _ _ hi (jx _ _ _)) (by simp[World.putObj];omega) ((World.putObj_heap_other (by omega)).trans i)⟩
end
attribute [local go_sem] Oper.semAt_some
def gD(n:Nat):Nat→List Int→Nat→List (List Int)
 | 0,l,_=>[l]
 | k+1,l,fr=>(List.range (n-k-fr)).flatMap fun j=>gD n k (l++[((fr+j:Nat):Int)]) (fr+j+1)
def iJ(n k:Nat)(l:List Int)(fr j:Nat):List (List Int):=(List.range j).flatMap fun j=>gD n k (l++[((fr+j:Nat):Int)]) (fr+j+1)
def jB(n m:Nat):List (List Int):=(List.range m).flatMap fun k=>gD n k [] 0
def jg(n:Nat):List (List Int):=jB n (n+1)
theorem sT(n k:Nat)(l:List Int)(fr j:Nat):iJ n k l fr (j+1)=iJ n k l fr j++gD n k (l++[((fr+j:Nat):Int)]) (fr+j+1):=by unfold iJ;rw[List.range_succ,List.flatMap_append];simp
theorem sU(n m:Nat):jB n (m+1)=jB n m++gD n m [] 0:=by unfold jB;rw[List.range_succ,List.flatMap_append];simp
theorem Hh(n k:Nat)(l:List Int)(fr:Nat):∀(d j:Nat),iJ n k l fr j <+: iJ n k l fr (j+d):=by
 intro d;induction d with
 | zero=>intro j;exact List.prefix_refl _
 | succ d ih =>
  intro j;refine(ih j).trans ?_;rw[show j+(d+1)=(j+d)+1 from by omega,sT]
  exact List.prefix_append _ _
theorem Hi(n:Nat):∀(d j:Nat),jB n j <+: jB n (j+d):=by
 intro d;induction d with
 | zero=>intro j;exact List.prefix_refl _
 | succ d ih =>
  intro j;refine(ih j).trans ?_;rw[show j+(d+1)=(j+d)+1 from by omega,sU]
  exact List.prefix_append _ _
theorem Ai(bw:Nat)(l:List Int)(v:Value)(W:World)(h:W.ownsRow bw 3 1 v l.length (l.map iv))(n:l.length≤1000) :
  Cs 78 #[v] W fun e W'=>∃v',e=.returned v'∧W'.ownsRow W.heap.size 3 1 v' l.length (l.map iv)∧BW W W':=by
 obtain⟨A,cap,rfl,k, -⟩:=io h;have h2:=h.2;rcases h2 with⟨hv,h0⟩ | ⟨g,cap',cur,hv,hb,hg,r⟩
 ·injection hv with hA hn' hc
  subst hA;have d:l=[]:=by simpa using hn'
  subst d;refine(Tryz.slices_Clone_int_nil 0 cap W).mono ?_;rintro e w' ⟨rfl,rfl⟩;exact⟨_,rfl,World.ownsRow_nil _ _ _ _,bR _⟩
 ·injection hv with hA hn' hc
  subst hA;refine(Tryz.slices_Clone_int g 0 l.length cap l W (lr _) (by omega) (fun j f=>?_)).mono ?_
  ·obtain⟨b,m,e, -,c⟩:=k j _ (gE f);injection e with e
   injection e with e1 e2 _
   subst e1 e2;rw[c,List.getD_eq_getElem?_getD,gE f];rfl
  ·rintro e w' ⟨v',rfl,i, -,a⟩;rw[List.take_length]at i;exact⟨v',rfl,i,a⟩
abbrev bK(g:Nat):Value:=pT g 0
structure iK(bw yb pb fb l:Nat)(C:Array Value)(W:World):Prop where
 hy:aa W yb 77 #[.func (.yield l) #[] #[]]
 hf:aa W fb 147 #[.func (.func 77) #[] #[bK yb,bK pb,bK fb]]
 hp:aa W pb 74 C
 size:bw≤W.heap.size
structure nG(M:Nat→Prop)(T:TypeId)(bw yb pb fb:Nat):Prop where
 m:∀k,M k→k<bw
 mp:¬M pb
 y0:bw≤yb
 f0:bw≤fb
 t1:77≠T
 t2:147≠T
 t3:74≠T
 t4:3≠T
section
variable {M:Nat→Prop} {T:TypeId} {bw yb pb fb l:Nat} {C:Array Value} {W W':World}
theorem iK.kept(h:iK bw yb pb fb l C W)(S:nG M T bw yb pb fb)(a:aS M T W W'):iK bw yb pb fb l C W' :=
 ⟨a.blk h.hy (fun b=>by have:=S.m _ b;have:=S.y0;omega) S.t1,a.blk h.hf (fun b=>by have:=S.m _ b;have:=S.f0;omega) S.t2,a.blk h.hp S.mp S.t3,lT h.size a.size⟩
theorem iK.below(h:iK bw yb pb fb l C W)(S:nG M T bw yb pb fb)(a:BW W W'):iK bw yb pb fb l C W':=h.kept S (aS.of_below a)
end
def oQ(M:Nat→Prop)(T:TypeId)(J Jx:List (List Int)→World→Prop)(more:List (List Int))(W:World)(e:Ending)(W':World):Prop :=
 aS M T W W'∧((e=.returned (.bool true)∧J more W')∨(e=.returned (.bool false)∧∃pre,Jx pre W'))
section
variable (M:Nat→Prop) (T:TypeId) (bw yb pb fb l:Nat) (C:Array Value) (all:List (List Int)) (J Jx:List (List Int)→World→Prop)
theorem Hj(S:nG M T bw yb pb fb)(h:∀m,sR m bw l M T all J Jx)(s:List Int)(v:Value)(fr:Nat)(done:List (List Int))(W:World)(b:iK bw yb pb fb l C W)(j:dJ W bw s v)(g:J done W)(a:done++[s] <+: all) :
  CallsIn Fence.wide 1 Tryz.prog 77 #[v,iv fr,iv ((0:Nat):Int),bK yb,bK pb,bK fb] W (oQ M T J Jx (done++[s]) W):=by
 have n:W.cell? ⟨yb,0,none⟩=some (.func (.yield l) #[] #[]):=b.hy.c 0;obtain⟨fn,tmps,assign,body,hy,hR⟩:=h 0 done s v W g a (by have:=S.y0;have:=b.hy.lt;omega) j
 clear b j g a h S;refine callsIn_of_wp Tryz.func77 rfl trivial ?_ rfl;simp only[Tryz.ntmps77,List.size_toArray,List.length_cons,List.length_nil,Nat.reduceAdd,Nat.reduceSub,Array.replicate_succ,Array.replicate_zero,List.push_toArray,List.append_toArray,List.nil_append,List.cons_append]
 gi_wp2_with (((try refine⟨hdd _, ?_⟩);refine hR.mono ?_;clear hR;rintro e k ⟨i,(⟨rfl,d⟩ | ⟨rfl,f⟩)⟩))
 ·go_ret
  exact⟨i,.inl ⟨rfl,d⟩⟩
 ·go_ret
  exact⟨i,.inr ⟨rfl,_,f⟩⟩
end
attribute [local go_sem] Oper.semAt_some
noncomputable def Hk:Array Oper:=aU (aF Tryz.f77 6)
section
variable (M:Nat→Prop) (T:TypeId) (bw yb pb fb l:Nat) (y:ar) (A:aI) (all:List (List Int)) (J Jx:List (List Int)→World→Prop)
theorem Hl(S:nG M T bw yb pb fb)(ab:∀s W1 W2,J s W1→BW W1 W2→J s W2)(hn:y.papers.length≤10)(k:Nat)(hk:k<11)(ih:∀(s:List Int) (v:Value) (fr:Nat) (done:List (List Int)) (W:World),s.length≤fr→fr≤11→iK bw yb pb fb l (ak y A) W→dJ W bw s v→J done W→done++gD y.papers.length k s fr <+: all →
   Cs 77 #[v,iv fr,iv (k:Int),bK yb,bK pb,bK fb] W (oQ M T J Jx (done++gD y.papers.length k s fr) W))(s:List Int)(v:Value)(fr:Nat)(done:List (List Int))(W:World)(hs:s.length≤fr)(hf:fr≤11)(hI:iK bw yb pb fb l (ak y A) W)(hv:dJ W bw s v)(hJ:J done W)(I:done++gD y.papers.length (k+1) s fr <+: all)(H:Int)(ad:H=(k:Int)+1) :
  Cs 77 #[v,iv fr,iv H,bK yb,bK pb,bK fb] W (oQ M T J Jx (done++gD y.papers.length (k+1) s fr) W):=by
 obtain⟨A0,aa,rfl, -, -⟩:=io hv;obtain⟨v,hvv⟩:=ex (Value.slice A0 s.length aa);have he:(H==0)=false:=beq_eq_false_iff_ne.2 (by omega)
 have ao:IntKind.i64.wrap (H-1)=(k:Int):=by rw[IntKind.wrap_i64];omega
 have an:IntKind.i64.wrap ((y.papers.length:Int)-H)=(y.papers.length:Int)-H:=by rw[IntKind.wrap_i64];omega
 have HI:=Lq hI;have HIT:=Lq hv;have HJ:=Lq hJ;have HALL:=Lq I;have HS:=Lq S;have HJB:=Lq ab;have HIH:=Lq ih;have HSL:=Lq hs;have HMZ:=Lq ad;rw[hvv]at HIT ⊢;clear hI hv hJ I S ab ih hs hvv ad;go_enter Tryz.func77,Tryz.ntmps77
 go_wp2_with fail;go_loopw [10] (fun iz wr=>∃i:Nat,fr≤i∧i≤max fr (y.papers.length-k)∧iz=iv i∧Hid (iK bw yb pb fb l (ak y A) wr)∧Hid (dJ wr bw s v)∧Hid (J (done++iJ y.papers.length k s fr (i-fr)) wr)∧Hid (aS M T W wr)) (fun iz _=>40-(intOf iz).toNat)
 case atStart=>exact⟨fr,lr _,by omega,rfl,HI,HIT,by rw[Nat.sub_self];unfold iJ;simpa using HJ,Lq (aS.refl _ _ _)⟩
 case round =>
  clear HI HIT HJ;obtain⟨i,aj,al,rfl,o,x,HJ,C⟩:=hrel;have hi0:=nn i;obtain⟨x0,x1,x2,x3,x4⟩:=o.out.hp.c5;by_cases hlt:i<y.papers.length-k
  case neg =>
   have R:¬((i:Int)≤(y.papers.length:Int)-H):=by have:=HMZ.out;omega
   have ai:decide ((i:Int)≤(y.papers.length:Int)-H)=false:=decide_eq_false R;go_wp2_with fail;go_ret
   refine⟨C.out,.inl ⟨rfl, ?_⟩⟩;have h:=HJ.out;rw[show i-fr=y.papers.length-k-fr from by omega]at h
   exact h
  have R:((i:Int)≤(y.papers.length:Int)-H):=by have:=HMZ.out;omega
  have ai:decide ((i:Int)≤(y.papers.length:Int)-H)=true:=decide_eq_true R;have hwi:IntKind.i64.wrap ((i:Int)+1)=(i:Int)+1:=by rw[IntKind.wrap_i64];omega
  have am:=HSL.out;have HSA:Hid (∀W,BW wr W→cA W fb 0 (.func (.func 77) #[] #[bK yb,bK pb,bK fb])):=Lq fun W hb=>(o.out.hf.keep hb).c 0
  have p:Hid (∀W,aS M T wr W→cA W fb 0 (.func (.func 77) #[] #[bK yb,bK pb,bK fb])):=Lq fun W hb=>(o.out.kept HS.out hb).hf.c 0
  have B:Hid (∀(W6:World) (v6:Value),BW wr W6→dJ W6 bw (s++[(i:Int)]) v6→Cs 77 #[v6,iv ((i:Int)+1),iv (k:Int),bK yb,bK pb,bK fb] W6 (oQ M T J Jx (done++iJ y.papers.length k s fr (i-fr+1)) W6)):=Lq fun W6 v6 hb h6=>by
   have ae:(done++iJ y.papers.length k s fr (i-fr))++gD y.papers.length k (s++[(i:Int)]) (i+1) <+: all:=by
    refine List.IsPrefix.trans ?_ HALL.out;have:=Hh y.papers.length k s fr (y.papers.length-k-fr-(i-fr+1)) (i-fr+1);rw[show i-fr+1+(y.papers.length-k-fr-(i-fr+1))=y.papers.length-k-fr from by omega,sT,show fr+(i-fr)=i from by omega]at this
    obtain⟨r,hr⟩:=this;refine⟨r, ?_⟩;show _=done++iJ y.papers.length k s fr (y.papers.length-k-fr)
    rw[←hr];simp[List.append_assoc]
   have h:=HIH.out (s++[(i:Int)]) v6 (i+1) (done++iJ y.papers.length k s fr (i-fr)) W6 (by simp;omega) (by omega) (o.out.below HS.out hb) h6 (HJB.out _ _ _ HJ.out hb) ae
   have e:(done++iJ y.papers.length k s fr (i-fr))++gD y.papers.length k (s++[(i:Int)]) (i+1)=done++iJ y.papers.length k s fr (i-fr+1):=by
    rw[sT,show fr+(i-fr)=i from by omega]
    simp[List.append_assoc]
   rw[e,show((i+1:Nat):Int)=(i:Int)+1 from by push_cast;rfl]at h
   exact h
  obtain⟨i3,ac,af,ag,ah⟩:=info_parts Tryz.info3w;go_upto_region 6 with fail
  refine gd (ops:=Hk) (r:=6) (n:=12) (S:=fun W=>cA W fb 0 (.func (.func 77) #[] #[bK yb,bK pb,bK fb])) HSA.out fun V0 HB0 b=>?_
  have Z:=Lq (aN x.out HB0.out);refine tk 0 (.func (.func 77) #[] #[bK yb,bK pb,bK fb]) ?_;refine tk 1 v ?_;refine tk 3 (iv i) ?_;refine tk 6 (iv i) ?_;refine tk 7 (iv ((i:Int)+1)) ?_;refine tk 8 (iv H) ?_;refine tk 9 (iv (k:Int)) ?_;refine gZ 2 4 (fun N hK=>?_) fun N hK=>?_
  ·skip;go_simp;refine(Ai bw s v V0 Z.out (by omega)).mono ?_
   rintro e V ⟨v',rfl,ho,z⟩;have HB5c:=Lq (bT HB0.out z);refine hK.out _ _ (HSA.out _ HB5c.out) (fun b=>?_)
   clear hK;refine rd1 4 fun N hK=>?_
   go_simp;have d:=fW V [iv i] 3;have HB5:=Lq (bA HB5c.out (.cells #[iv i] 3));have t:=Lq (aN (dv ho HB0.out.size) (bA (bR V) (.cells #[iv i] 3)));obtain⟨gz,hgz⟩:=ex V.heap.size;obtain⟨W5,hW5⟩:=ex (V.alloc (.cells #[iv i] 3));rw[hgz]at d ⊢;rw[hW5]at d HB5 t ⊢;refine hK.out _ _ (HSA.out _ HB5.out) (fun b=>?_)
   clear hK hgz hW5 ho z;have F:=HB5.out.size;refine rd1 5 fun N hK=>?_
   refine step_append_lies W5 (by rfl) _ _ 48 (by rfl) wr.heap.size 3 i3 _ 1 8 Tryz.underlying48 ac af ag ah rfl (by decide) v' s.length _ (by rfl) t.out ⟨gz,0,none⟩ 1 1 [iv i] (by rfl) (by rfl) d (by simp[Value.oneCell']) (by decide) (by unfold maxLen;omega) (by omega) F _ rfl ?_
   intro gb c X q f O E;have HB6:Hid (BW wr X):=Lq (cC t.out f (lr _) HB5.out);have HIT:Hid (dJ X bw (s++[(i:Int)]) (.slice (some ⟨gb,0,none⟩) (s.length+1) c)):=Lq (by unfold dJ;rw[List.length_append,List.map_append];exact dv q o.out.size)
   refine hK.out _ _ (HSA.out _ HB6.out) (fun b=>?_)
   clear hK q f O E d;refine rd1 10 fun N hK=>?_
   go_simp;refine(B.out X _ HB6.out HIT.out).mono ?_;rintro e w7 ⟨g,(⟨rfl,D⟩ | ⟨rfl,U,G⟩)⟩
   ·have K:=Lq D;have HK7:Hid (aS M T wr w7):=Lq ((aS.of_below HB6.out).trans g);refine hK.out _ _ (p.out _ HK7.out) (fun b=>?_)
    clear hK g D b;have b:=p.out _ HK7.out;refine tk 11 (.bool false) ?_;refine dn ?_;go_wp2_with fail;go_roundw
    case rel=>exact⟨i+1,by omega,by omega,by go_num,Lq (o.out.kept HS.out HK7.out),Lq (HK7.out.own x.out HS.out.m HS.out.t4),by rw[show i+1-fr=i-fr+1 from by omega];exact K,Lq (C.out.trans HK7.out)⟩
    case measure=>simp[intOf];omega
   ·have L:=Lq G;have HK7:Hid (aS M T wr w7):=Lq ((aS.of_below HB6.out).trans g);refine hK.out _ _ (p.out _ HK7.out) (fun b=>?_)
    clear hK g G b;have b:=p.out _ HK7.out;refine tk 11 (.bool true) ?_;refine dn ?_;go_wp2_with fail;go_ret
    exact⟨C.out.trans HK7.out,.inr ⟨rfl,U,L.out⟩⟩
  ·skip;go_simp;have d:=fW V0 [iv i] 3;have HB4:=Lq (bA HB0.out (.cells #[iv i] 3));obtain⟨gz,hgz⟩:=ex V0.heap.size;obtain⟨W4,hW4⟩:=ex (V0.alloc (.cells #[iv i] 3));rw[hgz]at d ⊢;rw[hW4]at d HB4 ⊢;refine hK.out _ _ (HSA.out _ HB4.out) (fun b=>?_)
   clear hK hgz hW4;have Y:=Lq (aN x.out HB4.out);refine rd1 2 fun N hK=>?_
   go_simp;refine(Ai bw s v W4 Y.out (by omega)).mono ?_
   rintro e V ⟨v',rfl,ho,z⟩;have HB5:=Lq (bT HB4.out z);have d:∀j u,[iv (i:Int)][j]?=some u→V.cell? ((⟨gz,0,none⟩:Addr).add j)=some u:=fun j u hj=>(World.cell?_of_block (w:=W4) (a:=(⟨gz,0,none⟩:Addr).add j) (z.block _ (World.block_lt_of_cell? W4 _ (d j u hj)))).trans (d j u hj)
   have t:=Lq (dv ho HB4.out.size);obtain⟨W5,hW5⟩:=ex V;rw[hW5]at d HB5 t ⊢;refine hK.out _ _ (HSA.out _ HB5.out) (fun b=>?_)
   clear hK ho z hW5;have F:=HB5.out.size;refine rd1 5 fun N hK=>?_
   refine step_append_lies W5 (by rfl) _ _ 48 (by rfl) wr.heap.size 3 i3 _ 1 8 Tryz.underlying48 ac af ag ah rfl (by decide) v' s.length _ (by rfl) t.out ⟨gz,0,none⟩ 1 1 [iv i] (by rfl) (by rfl) d (by simp[Value.oneCell']) (by decide) (by unfold maxLen;omega) (by omega) F _ rfl ?_
   intro gb c X q f O E;have HB6:Hid (BW wr X):=Lq (cC t.out f (lr _) HB5.out);have HIT:Hid (dJ X bw (s++[(i:Int)]) (.slice (some ⟨gb,0,none⟩) (s.length+1) c)):=Lq (by unfold dJ;rw[List.length_append,List.map_append];exact dv q o.out.size)
   refine hK.out _ _ (HSA.out _ HB6.out) (fun b=>?_)
   clear hK q f O E d;refine rd1 10 fun N hK=>?_
   go_simp;refine(B.out X _ HB6.out HIT.out).mono ?_;rintro e w7 ⟨g,(⟨rfl,D⟩ | ⟨rfl,U,G⟩)⟩
   ·have K:=Lq D;have HK7:Hid (aS M T wr w7):=Lq ((aS.of_below HB6.out).trans g);refine hK.out _ _ (p.out _ HK7.out) (fun b=>?_)
    clear hK g D b;have b:=p.out _ HK7.out;refine tk 11 (.bool false) ?_;refine dn ?_;go_wp2_with fail;go_roundw
    case rel=>exact⟨i+1,by omega,by omega,by go_num,Lq (o.out.kept HS.out HK7.out),Lq (HK7.out.own x.out HS.out.m HS.out.t4),by rw[show i+1-fr=i-fr+1 from by omega];exact K,Lq (C.out.trans HK7.out)⟩
    case measure=>simp[intOf];omega
   ·have L:=Lq G;have HK7:Hid (aS M T wr w7):=Lq ((aS.of_below HB6.out).trans g);refine hK.out _ _ (p.out _ HK7.out) (fun b=>?_)
    clear hK g G b;have b:=p.out _ HK7.out;refine tk 11 (.bool true) ?_;refine dn ?_;go_wp2_with fail;go_ret
    exact⟨C.out.trans HK7.out,.inr ⟨rfl,U,L.out⟩⟩
theorem Aj(S:nG M T bw yb pb fb)(a:∀s W1 W2,J s W1→BW W1 W2→J s W2)(c:y.papers.length≤10)(b:∀m,sR m bw l M T all J Jx):∀(k:Nat),k≤11 →
  ∀(s:List Int) (v:Value) (fr:Nat) (done:List (List Int)) (W:World),s.length≤fr→fr≤11→iK bw yb pb fb l (ak y A) W→dJ W bw s v→J done W→done++gD y.papers.length k s fr <+: all →
   Cs 77 #[v,iv fr,iv (k:Int),bK yb,bK pb,bK fb] W (oQ M T J Jx (done++gD y.papers.length k s fr) W)
 | 0,_,s,v,fr,done,W,_,_,hI,hv,hJ,hall=>callsIn_wide.1 (Hj M T bw yb pb fb l (ak y A) all J Jx S b s v fr done W hI hv hJ hall)
 | k+1,hk,s,v,fr,done,W,hs,hf,hI,hv,hJ,hall=>Hl M T bw yb pb fb l y A all J Jx S a c k (by omega) (Aj S a c b k (by omega)) s v fr done W hs hf hI hv hJ hall ((k+1:Nat):Int) (by push_cast;rfl)
end
attribute [local go_sem] Oper.semAt_some
theorem Am(y:ar)(A:aI)(b:Nat)(T:TypeId)(w:World)(O:aa w b 74 (ak y A))(Z:y.papers.length≤10)(t1:77≠T)(t2:147≠T)(t3:74≠T)(t4:3≠T) :
  Ae 76 #[bK b] T (jg y.papers.length) (fun k=>k≠b) w:=by
 intro M l m J S W N E f L K;have hpW:=O.keep (show BW w W from N)
 obtain⟨t,q,C⟩:=nA W (.cells #[.func (.yield l) #[] #[]] 77);obtain⟨yb,hyb⟩:=ex W.heap.size;obtain⟨Wb,hWb,bb⟩:=nA t (.cells #[.nilFunc] 147);obtain⟨fb,hfb⟩:=ex t.heap.size;obtain⟨W4,hW4⟩:=ex (Wb.setCell ⟨fb,0,none⟩ (.func (.func 77) #[] #[bK yb,bK b,bK fb]));have qa:aa t yb 77 #[.func (.yield l) #[] #[]]:=by rw[←q,←hyb];exact aa.new W 77 _
 have n:aa Wb fb 147 #[.nilFunc]:=by rw[←hWb,←hfb];exact aa.new t 147 _
 have g:W.heap.size≤fb:=by rw[←hfb];exact C.size
 have o:BW W W4:=by rw[←hW4];exact aH (bT C bb) g _
 have F:nG M T W.heap.size yb b fb:=⟨fun k hk=>(E k hk).2,fun hm=>(E b hm).1 rfl,by omega,g,t1,t2,t3,t4⟩
 have D:iK W.heap.size yb b fb l (ak y A) W4:=by
  refine⟨?_, ?_,hpW.keep o,o.size⟩
  ·rw[←hW4];exact(qa.keep bb).far (bF (qa.keep bb) n (by decide)) _
  ·rw[←hW4];have h:=n.set_ 0 (.func (.func 77) #[] #[bK yb,bK b,bK fb])
   simpa using h
 obtain⟨V,e0,U⟩:_∧_∧_:=⟨n.frozen 0,n.c 0,n.lt⟩;have hsf:∀(w:World) (a:Addr) (m:Mode) (fn:Fn) (x z:Array Value),(store a (.func fn x z) m).run Tryz.prog w=stored Tryz.prog w a (.func fn x z) m:=fun w a m fn x z=>run_store Tryz.prog w a _ m rfl
 have d:=Lq D;have HS:=Lq F;have HFI:=Lq (Aj M T W.heap.size yb b fb l y A (jg y.papers.length) J S F f Z L);have HJ0:=Lq (f _ _ _ K o);obtain⟨x0,x1,x2,x3,x4⟩:=D.hp.c5;obtain⟨BB,hBB⟩:=ex W.heap.size;rw[hBB]at d HS HFI;have hbz:BB≤W4.heap.size:=by rw[←hBB];exact o.size
 clear N E f L K hpW C bb qa n o F D O g;refine callsIn_wide.2 ?_;go_enter Tryz.func76,Tryz.ntmps76
 go_wp2_with fail;clear V e0 U hsf x0 x1 x2 x3 x4 q hWb hW4 hyb hfb;go_loopw [11,4] (fun G v wr=>∃i:Nat,i≤y.papers.length+1∧G=iv i∧Hid (iK BB yb b fb l (ak y A) wr)∧Hid (J (jB y.papers.length i) wr)∧Hid (aS M T W4 wr)) (fun G _ _=>12-(intOf G).toNat)
 case atStart=>exact⟨0,Nat.zero_le _,rfl,d,by unfold jB;simpa using HJ0,Lq (aS.refl _ _ _)⟩
 case round =>
  clear d HJ0;obtain⟨i,X,rfl,d,I,R⟩:=hrel;have hi0:=nn i;by_cases hlt:i<y.papers.length+1
  case neg =>
   obtain rfl:i=y.papers.length+1:=by omega
   go_wp2_with fail
   go_end0
   exact⟨⟨_,rfl⟩,.inl I.out⟩
  have Y:(i:Int)<(y.papers.length:Int)+1:=by omega
  have e0:=d.out.hf.c 0;have hpre:jB y.papers.length i++gD y.papers.length i [] 0 <+: jg y.papers.length:=by
   rw[←sU];have h:=Hi y.papers.length (y.papers.length-i) (i+1);rw[show i+1+(y.papers.length-i)=y.papers.length+1 from by omega]at h
   exact h
  have s:=Lq (HFI.out i (by omega) [] (.slice none 0 0) 0 (jB y.papers.length i) wr (by simp) (by omega) d.out (World.ownsRow_nil _ _ _ _) I.out hpre)
  rw[←sU]at s;clear hpre;go_wp2_with fail;refine s.out.mono ?_;rintro e w3 ⟨j,(⟨rfl,p⟩ | ⟨rfl,H,r⟩)⟩
  ·have u:=Lq p;have HF3:=Lq (d.out.kept HS.out j);have HK3:=Lq (R.out.trans j);clear p j s e0;go_wp2_with fail;go_roundw
   case rel=>exact⟨i+1,by omega,by go_num,HF3,u,HK3⟩
   case measure=>simp[intOf];omega
  ·have B:=Lq r;clear r s e0;go_wp2_with fail;refine bodyPost_ret (results_none rfl _ _ _) rfl ?_;exact⟨⟨_,rfl⟩,.inr ⟨H,B.out⟩⟩
theorem Aq(y:ar)(A:aI)(w:World):Cs 23 #[.agg (ak y A)] w fun e w'=>e=.returned (.func (.func 76) #[] #[bK w.heap.size])∧w'=w.alloc (.cells (ak y A) 74):=by
 go_enter Tryz.func23,Tryz.ntmps23
 go_wp2_with fail;go_ret
 exact⟨rfl,rfl⟩
section
variable{C:Array Value}{g2 g3 g4:Nat}{v:Value}{W W' w:World}
attribute [local go_sem] Oper.semAt_some
structure jh(w:World)(C:Array Value)(g2 g3 g4:Nat)(v:Value)(W:World):Prop where
 bw:BW w W
 b2:aa W g2 48 #[v]
 b3:aa W g3 34 #[iv 0]
 b4:aa W g4 74 C
theorem jh.below{B:Nat}(h:jh w C g2 g3 g4 v W)(a:Below B W W')(f:w.heap.size≤B)(b:g2<B)(c:g3<B)(d:g4<B):jh w C g2 g3 g4 v W' :=
 ⟨h.bw.trans (a.mono f),h.b2.same (a.block _ b),h.b3.same (a.block _ c),h.b4.same (a.block _ d)⟩
theorem jh.grown{c:Nat}(h:jh w C g2 g3 g4 v W)(a:W.grownBy W' (some c))(i:w.heap.size≤c)(d:g2≠c)(f:g3≠c)(g:g4≠c):jh w C g2 g3 g4 v W' :=
 ⟨h.bw.grown a h.bw.size (fun k b=>by injection b with b;omega),h.b2.grown a (fun e=>by injection e with e;exact d e),h.b3.grown a (fun e=>by injection e with e;exact f e),h.b4.grown a (fun e=>by injection e with e;exact g e)⟩
theorem jh.put{v':Value}(h:jh w C g2 g3 g4 v W)(c:w.heap.size≤g2)(d:w.heap.size≤g3):jh w C g2 g3 g4 v' ((W.setCell ⟨g2,0,none⟩ v').setCell ⟨g3,0,none⟩ (iv 0)):=by
 have a:g2≠g3:=bF h.b2 h.b3 (by decide)
 have f:g4≠g2:=bF h.b4 h.b2 (by decide)
 have g:g4≠g3:=bF h.b4 h.b3 (by decide)
 refine⟨aH (aH h.bw c (p:=⟨g2,0,none⟩) _) d (p:=⟨g3,0,none⟩) _, ?_, ?_,(h.b4.far f _).far g _⟩
 ·have b:=h.b2.set_ 0 v';exact aa.far (by simpa using b) a _
 ·have b:=(h.b3.far (p:=⟨g2,0,none⟩) a.symm v').set_ 0 (iv 0)
  simpa using b
theorem Hm{base:Nat}{s:List Int}{a b:Value}(h:dJ W base s v)(d:g2<base)(f:g3<base):dJ ((W.setCell ⟨g2,0,none⟩ a).setCell ⟨g3,0,none⟩ b) base s v :=
 kz h fun k c=>by have:=(h.lt k c).1;rw[Below.heap_setCell _ _ _ _ (by show k≠g3;omega),Below.heap_setCell _ _ _ _ (by show k≠g2;omega)]
theorem Hn{P R b:List (List Int)}{x s:List Int}(c:b <+: P)(d:b++[s] <+: P++x::R):(b++[s] <+: P∧s∈P)∨s=x:=by
 obtain⟨u,rfl⟩:=c;obtain⟨t,ht⟩:=d;rw[List.append_assoc,List.append_assoc]at ht;have ht:=List.append_cancel_left ht;cases u with
 | nil=>right;injection ht
 | cons a u =>
  left;injection ht with c d
  subst c;exact⟨⟨u,by simp⟩,by simp⟩
theorem Ar(y:ar)(A:aI)(B f:Nat)(w:World)(H:aO w B y A)(K:B≤w.heap.size)(M:dc y)(I:cE y (bC (-1) y.papers.length))(hc:cN y (bC (-1) y.papers.length) f=some true)(P:List (List Int))(x:List Int)(R:List (List Int))(o:jg y.papers.length=P++x::R)(hP:∀s∈P,s.length≤10∧cE y s∧cN y s f=some false)(hx:x.length≤10∧cE y x∧cN y x f=some true) :
  Cs 9 #[.agg (ak y A)] w fun e w'=>∃v,e=.returned (.tuple #[v,iv 0])∧BW w w'∧w'.ownsRow w.heap.size 3 1 v x.length (x.map iv):=by
 obtain⟨W1,G,J⟩:=nA w (.cells (ak y A) 46);obtain⟨g1,hg1⟩:=ex w.heap.size;obtain⟨h,hW2,b2⟩:=nA W1 (.cells #[.slice none 0 0] 48);obtain⟨g2,g⟩:=ex W1.heap.size;obtain⟨W3,hW3,b3⟩:=nA h (.cells #[iv 0] 34);obtain⟨g3,hg3⟩:=ex h.heap.size;have q1:aa W3 g1 46 (ak y A):=by rw[←hW3,←hW2];exact aa.alloc (aa.alloc (by rw[←G,←hg1];exact aa.new w 46 _) _) _
 have q2:aa W3 g2 48 #[.slice none 0 0]:=by rw[←hW3];exact aa.alloc (by rw[←hW2,←g];exact aa.new W1 48 _) _
 have q3:aa W3 g3 34 #[iv 0]:=by rw[←hW3,←hg3];exact aa.new h 34 _
 have d:=bT (bT J b2) b3;have HEN:=Lq (sQ y A B f W3 (H.below d K) (lT K d.size) M I hc);have HG:Hid (w.heap.size≤g2∧w.heap.size≤g3∧g2≠g3):=Lq ⟨by rw[←g];exact J.size,by rw[←hg3];exact(bT J b2).size,bF q2 q3 (by decide)⟩
 have HB:=Lq d;have HQ2:=Lq q2;have HQ3:=Lq q3;have HYR:=Lq H;have HZB:=Lq K;have HOK:=Lq M;have HALL:=Lq o;have HP:=Lq hP;have HX:=Lq hx;have hpn:=M.papers;obtain⟨S,T,U,V,Z⟩:=q1.c5;have l1:=q1.lt;clear H K M I hc o hP hx J b2 b3 q1 q2 q3 d;refine(callsIn_wide (n:=0)).1 ?_;refine callsIn_of_wp_marks Tryz.func9 rfl trivial ?_ rfl;simp only[Tryz.ntmps9,List.size_toArray,List.length_cons,List.length_nil,Nat.reduceAdd,Nat.reduceSub,Array.replicate_succ,Array.replicate_zero,List.push_toArray,List.append_toArray,List.nil_append,List.cons_append]
 gi_wp2_with fail
 refine⟨trivial,rfl,(callsIn_wide.2 HEN.out).mono ?_⟩;rintro e w2 ⟨rfl,N⟩;obtain⟨Wa,Wb,hWa,hWb,hbb,qa,hba,qb⟩:=fh w2 74 (.slice none 0 0) (.slice none 0 0) (.slice none 0 0) (.slice none 0 0) (.slice none 0 0) (.slice A.k y.kinds.length A.ck) (.slice A.p y.places.length A.cp) (.slice A.f y.first.length A.cf) (.slice A.a y.papers.length A.ca) (.slice A.l y.last.length A.cl);clear S T U V Z l1 G hW2 hW3 hg1 g hg3 HEN;obtain⟨g4,hg4⟩:=ex w2.heap.size;rw[hg4]at hWb qa qb;obtain⟨f0,f1,f2,f3,f4⟩:=qa.f5;obtain⟨e0,e1,e2,e3,e4⟩:=qa.c5;have el:=qa.lt;obtain⟨d0,d1,d2,d3,d4⟩:=qb.c5;have dl:=qb.lt;have HLI:=Lq (Aq y A Wb);obtain⟨W0,hW0,b0⟩:=nA Wb (.cells (ak y A) 74);obtain⟨pb,hpb⟩:=ex Wb.heap.size;rw[hW0,hpb]at HLI;have qp:aa W0 pb 74 (ak y A):=by rw[←hW0,←hpb];exact aa.new Wb 74 _
 have q:=Lq (bT (bT N hbb) b0);have HI0:Hid (jh w (ak y A) g2 g3 g4 (.slice none 0 0) W0):=Lq ⟨bT HB.out q.out,HQ2.out.keep q.out,HQ3.out.keep q.out,qb.keep b0⟩;have HIT:=Lq (Am y A pb 48 W0 qp hpn (by decide) (by decide) (by decide) (by decide))
 have ab:Hid (g2<W0.heap.size∧g3<W0.heap.size∧g4<W0.heap.size∧pb<W0.heap.size∧w.heap.size≤W0.heap.size∧g2<pb∧g3<pb):=Lq ⟨HI0.out.b2.lt,HI0.out.b3.lt,HI0.out.b4.lt,qp.lt,HI0.out.bw.size,by rw[←hpb];exact(HQ2.out.keep (bT N hbb)).lt,by rw[←hpb];exact(HQ3.out.keep (bT N hbb)).lt⟩
 clear N hbb qa hba qb b0 qp
 gi_wp2_with fail
 refine⟨trivial,rfl,(callsIn_wide.2 HLI.out).mono ?_⟩;rintro e w5 ⟨rfl,e5⟩;have e5:=e5.symm;subst e5;clear f0 f1 f2 f3 f4 e0 e1 e2 e3 e4 el d0 d1 d2 d3 d4 dl hWa hWb hg4 hW0 hpb HLI;obtain⟨h2,h3,h4,h5,h6,h7,h8⟩:=ab.out
 gi_wp2_with fail
 refine Ah 0 76 #[bK pb] 48 (jg y.papers.length) (fun k=>k=g2∨k=g3) (fun k=>k≠pb) .ret .ret (.inl ⟨rfl,rfl⟩) rfl HIT.out (fun k hk=>by omega) (by omega) (fun args w=>enters_of Tryz.func76 (by kernel_rfl) rfl args w)
  (fun s W=>s <+: P∧jh w (ak y A) g2 g3 g4 (.slice none 0 0) W) (fun _ W=>∃v,jh w (ak y A) g2 g3 g4 v W∧dJ W (W0.heap.size+2) x v) ?_ ?_ ⟨List.nil_prefix,HI0.out⟩ ?_ ?_ ?_
 ·rintro s X Y ⟨v,hX,r⟩ O;exact⟨v,hX.grown O (by omega) (by omega) (by omega) (by omega),r.kept O (.inr (fun e=>by have:=(r.lt _ e).1;omega))⟩
 ·rintro s X Y ⟨u,hX⟩ O;exact⟨u,hX.grown O (by omega) (by omega) (by omega) (by omega)⟩
 ·rintro m l2 ae s v W ⟨u,F⟩ i ac t;rw[HALL.out]at i;have hcase:=Hn u i
  gi_wp2_with fail
  refine⟨bR _, ?_⟩;rintro h ⟨-,b⟩ g ad;have hit2:dJ h (W0.heap.size+2) s v:=t.kept g (.inr (fun e=>by have:=(t.lt _ e).1;omega))
  obtain⟨L,cap,rfl,hr, -⟩:=io hit2;have HCL:Hid (∀bt,s.length≤10∧cE y s∧cN y s f=some bt→Cs 21 #[.agg (ak y A),.slice L s.length cap] h (Rt h (.bool bt))):=Lq fun bt ⟨h1,h2,h3⟩=>nu y A h.heap.size L s cap f bt h ((HYR.out.below b.bw HZB.out).more (lT HZB.out b.bw.size)) (lr _) HOK.out.pap (by unfold maxLen;omega) hr h2 (by have:=HOK.out.kinds;omega) h3
  obtain⟨S,T,U,V,Z⟩:=b.b4.c5;have HI2:=Lq b;have HIT2:=Lq hit2;obtain⟨z2,z3,z4⟩:_∧_∧_:=⟨b.b2.lt,b.b3.lt,b.b4.lt⟩;have hws:w.heap.size≤h.heap.size:=b.bw.size;clear F t g ad b hit2 hr u i;rcases hcase with⟨hpr,hmem⟩ | rfl
  ·have D:=Lq (HCL.out false (HP.out s hmem));have HPR:=Lq hpr;clear HCL hpr hmem
   gi_wp2_with fail
   refine⟨trivial,hdd _,(CallsIn.inRound l2 (callsIn_wide.2 D.out)).mono ?_⟩;rintro e w3 ⟨rfl,(z:Hid _)⟩;clear S T U V Z D
   gi_wp2_with fail
   exact⟨aS.of_below z.out,HPR.out,HI2.out.below z.out hws z2 z3 z4⟩
  ·have D:=Lq (HCL.out true HX.out);clear HCL
   gi_wp2_with fail
   refine⟨trivial,hdd _,(CallsIn.inRound l2 (callsIn_wide.2 D.out)).mono ?_⟩;rintro e w3 ⟨rfl,j⟩;have hI3:=HI2.out.below j hws z2 z3 z4;have HIT3:=Lq (aN HIT2.out j);have HK3:Hid (aS (fun k=>k=g2∨k=g3) 48 h w3):=Lq (aS.of_below j)
   obtain⟨f0,f1,y0,y1,l0,l1⟩:_∧_∧_∧_∧_∧_:=⟨hI3.b2.frozen 0,hI3.b3.frozen 0,hI3.b2.c 0,hI3.b3.c 0,hI3.b2.lt,hI3.b3.lt⟩;have HP3:=Lq (hI3.put (v':=.slice L s.length cap) HG.out.1 HG.out.2.1);have n23:g2≠g3:=HG.out.2.2;have n32:g3≠g2:=n23.symm;clear hI3 j S T U V Z D
   gi_wp2_with fail
   refine⟨rfl,HK3.out.trans ⟨by simp,fun k hk hl af=>?_⟩,_,HP3.out, ?_⟩
   ·rw[Below.heap_setCell _ _ _ _ (fun e=>hk (.inr e)),Below.heap_setCell _ _ _ _ (fun e=>hk (.inl e))]
   ·exact Hm HIT3.out (by omega) (by omega)
 ·rintro W ⟨u, -⟩;have:=u.length_le;rw[HALL.out]at this;simp at this;omega
 ·rintro ae W ⟨v,F,r⟩ ac hD;have HI:=Lq F;have HIT:=Lq r;have HD:=Lq hD;have HIe:=Lq (F.grown (jx W W0.heap.size (.deferred none)) (by omega) (by omega) (by omega) (by omega))
  have E:Hid (dJ _ (W0.heap.size+2) x v):=Lq (World.ownsRow.kept r (jx W W0.heap.size (.deferred none)) (.inr (fun e=>by have:=(r.lt _ e).1;omega)))
  obtain⟨y0,y1⟩:_∧_:=⟨HIe.out.b2.c 0,HIe.out.b3.c 0⟩;clear F r hD
  gi_wp2_with fail
  refine⟨by simp,.inl ⟨_,_,rfl,run_takeDeferred HD.out, ?_⟩⟩
  exact⟨.tuple #[v,iv 0],by simp[results,Tryz.results9,go_sem,y0,y1],v,rfl,HIe.out.bw,dv E.out (by omega)⟩
end
section
variable{C:Array Value}{base c g1 g2:Nat}{v:Value}{W W' w:World}
attribute [local go_sem] Oper.semAt_some
/-! A scope without a goto,within a fence. -/
theorem nH{P:Program}{b:Frame}{a:Act}{k:List Item}{cs:List Frame}{c:Code}:step P (lone (b.atR a (.code (.scope c)::k)) cs w)=.next (lone (b.atR a (.code c::.inScope c::k)) cs w) :=
 step_lone_go (by simp[stepG,stepG.exec,Frame.atR])
theorem Ho{P:Program}{b:Frame}{a:Act}{k:List Item}{cs:List Frame}{c:Code}:step P (lone (b.atR a (.inScope c::k)) cs w)=.next (lone (b.atR a k) cs w) :=
 step_lone_go (by simp[stepG,stepG.exec,Frame.atR])
theorem Hp{F:Fence}{n:Nat}{P:Program}{Q:Exit→Act→World→Prop}{a:Act}{c:Code}(h:c.wpIn F n P (Exit.noGoto Q) a w):(Code.scope c).wpIn F n P Q a w:=by
 intro b k cs j d g;have h0:(lone (b.atR a (.code (.scope c)::k)) cs w).fenced P F:=fenced_calm d g rfl;obtain⟨e,a₁,w₁,hq,harr⟩:=h b (.inScope c::k) cs j d g;cases e with
 | normal=>exact⟨.normal,a₁,w₁,hq,.head h0 nH (StepsIn.trans harr (.one (fenced_calm d g rfl) Ho))⟩
 | exit id =>
  have hx:exitTo id (.inScope c::k)=exitTo id k:=by simp[exitTo]
  exact⟨.exit id,a₁,w₁,hq,fun m f=>.head h0 nH (harr.1 m (by rw[hx];exact f)),
   fun i f=>let ⟨k₁,h1,h2⟩:=harr.2 i (by rw[hx];exact f);⟨k₁,h1,.head h0 nH h2⟩⟩
 | goto l=>exact hq.elim
 | ret=>exact⟨_,a₁,w₁,hq,.of_steps (.one h0 nH) harr⟩
 | panic ch=>exact⟨_,a₁,w₁,hq,.of_steps (.one h0 nH) harr⟩
 | outgrown=>exact⟨_,a₁,w₁,hq,.of_steps (.one h0 nH) harr⟩
structure fC(base:Nat)(sets:List (List Int))(vs:List Value)(v:Value)(W:World):Prop where
 ow:W.ownsRow base 48 1 v vs.length vs
 ln:vs.length=sets.length
 it:∀(i:Nat) (u:Value) (s:List Int),vs[i]?=some u→sets[i]?=some s→dJ W base s u
theorem fC.grown{a:List (List Int)}{d:List Value}(h:fC base a d v W)(b:W.grownBy W' (some c))(hc:c<base):fC base a d v W' :=
 ⟨h.ow.kept b (.inr fun e=>by have:=(h.ow.lt _ e).1;omega),h.ln,fun i u s hu hs=>(h.it i u s hu hs).kept b (.inr fun e=>by have:=((h.it i u s hu hs).lt _ e).1;omega)⟩
theorem fC.below{a:List (List Int)}{d:List Value}(h:fC base a d v W)(b:BW W W'):fC base a d v W' :=
 ⟨aN h.ow b,h.ln,fun i u s g f=>aN (h.it i u s g f) b⟩
theorem fC.put{g:Nat}{a:List (List Int)}{d:List Value}{x:Value}(h:fC base a d v W)(f:g<base):fC base a d v (W.setCell ⟨g,0,none⟩ x) :=
 ⟨kz h.ow fun k b=>Below.heap_setCell _ _ _ _ (by have:=(h.ow.lt k b).1;show k≠g;omega),h.ln,fun i u s hu hs=>kz (h.it i u s hu hs) fun k b=>Below.heap_setCell _ _ _ _ (by have:=((h.it i u s hu hs).lt k b).1;show k≠g;omega)⟩
theorem fC.more{a:List (List Int)}{d:List Value}{v' u:Value}{s:List Int}(h:fC base a d v W)(n:dJ W base s u)(m:W'.ownsRow base 48 1 v' (d.length+1) (d++[u]))(l:W.grownBy W' v.ownBlock):fC base (a++[s]) (d++[u]) v' W':=by
 have j:∀{s:List Int} {u:Value},dJ W base s u→dJ W' base s u:=fun{s u} hi=>hi.kept l (by
  rcases hi.2 with⟨hv',_⟩ | ⟨g',cap',cur',hv',hb',hh',_⟩
  ·left;rw[hv'];rfl
  ·right;rw[hv'];rcases h.ow.2 with⟨hv,_⟩ | ⟨g,cap,cur,hv,hb,hh,_⟩
   ·rw[hv];intro e;cases e
   ·rw[hv];intro e;simp only[Value.ownBlock,Option.some.injEq]at e;subst e;rw[hh]at hh';injection hh' with hh'
    injection hh' with _ hh' _
    cases hh')
 refine⟨by rw[List.length_append];exact m,by simp[h.ln],fun i x t hx b=>?_⟩
 rcases Nat.lt_or_ge i d.length with hl | hl
 ·rw[List.getElem?_append_left hl]at hx;rw[List.getElem?_append_left (by rw[←h.ln];exact hl)]at b
  exact j (h.it i x t hx b)
 ·rw[List.getElem?_append_right hl]at hx;rw[List.getElem?_append_right (by rw[←h.ln];exact hl)]at b
  have f:i-d.length=0:=by have:=(lG hx);simp at this;omega
  have k:i-a.length=0:=by rw[←h.ln];exact f
  rw[f]at hx;rw[k]at b;simp at hx b;subst hx b;exact j n
structure gU(w:World)(C:Array Value)(sets:List (List Int))(g1 g2 base:Nat)(vs:List Value)(v:Value)(W:World):Prop where
 bw:BW w W
 b1:aa W g1 74 C
 b2:aa W g2 202 #[v]
 st:fC base sets vs v W
def kh(sets:List (List Int))(s:List Int):Bool:=match sets with
 | []=>false
 | a::_=>decide (a.length<s.length)
theorem gU.grown{a:List (List Int)}{f:List Value}(h:gU w C a g1 g2 base f v W)(b:W.grownBy W' (some c))(j:w.heap.size≤c)(g:g1≠c)(i:g2≠c)(hc:c<base):gU w C a g1 g2 base f v W' :=
 ⟨h.bw.grown b h.bw.size (fun k d=>by injection d with d;omega),h.b1.grown b (fun e=>by injection e with e;exact g e),h.b2.grown b (fun e=>by injection e with e;exact i e),h.st.grown b hc⟩
theorem gU.below{a:List (List Int)}{d:List Value}(h:gU w C a g1 g2 base d v W)(b:BW W W'):gU w C a g1 g2 base d v W' :=
 ⟨bT h.bw b,h.b1.keep b,h.b2.keep b,h.st.below b⟩
end
section
variable{C:Array Value}{base g1 g2 n size:Nat}{v:Value}{W W' w:World}
attribute [local go_sem] Oper.semAt_some
theorem sV{e:TypeId}{xs:List Value}(h:w.ownsRow base e size v n xs):∃A cap,v=.slice A n cap:=by
 rcases h.2 with⟨rfl,rfl⟩ | ⟨g,cap,_,rfl,_⟩
 ·exact⟨none,0,rfl⟩
 ·exact⟨_,cap,rfl⟩
theorem Tryz.info48w:(Tryz.prog.info? 48).map (fun i=>(i.zero,i.size,i.bytes))=some (some (.slice none 0 0),1,24):=by kernel_rfl
theorem aS.of_own{M:Nat→Prop}{T:TypeId}{xs:List Value}(h:W.ownsRow base T size v n xs)(a:W.grownBy W' v.ownBlock):aS M T W W' :=
 ⟨a.size,fun k _ b hc=>a.block k b (fun e=>by
  rcases h.2 with⟨hv,_⟩ | ⟨g,cap,cur,hv,hb,hh,_⟩
  ·rw[hv]at e;cases e
  ·rw[hv]at e;simp only[Value.ownBlock,Option.some.injEq]at e;subst e;exact hc _ _ hh)⟩
theorem gU.more{a:List (List Int)}{c:List Value}{v' u:Value}{s:List Int}(h:gU w C a g1 g2 base c v W)(k:dJ W base s u)(j:W'.ownsRow base 48 1 v' (c.length+1) (c++[u]))(b:W.grownBy W' v.ownBlock)(l:w.heap.size≤base)(d:g2<base)(f:w.heap.size≤g2):gU w C (a++[s]) g1 g2 base (c++[u]) v' (W'.setCell ⟨g2,0,none⟩ v'):=by
 have g:=h.b1.grown b (ax h.st.ow h.b1 (by decide))
 have i:=h.b2.grown b (ax h.st.ow h.b2 (by decide))
 refine⟨aH (cC h.st.ow b l h.bw) f (p:=⟨g2,0,none⟩) _,g.far (bF g i (by decide)) _, ?_,(h.st.more k j b).put d⟩
 have:=i.set_ 0 v'
 simpa using this
theorem gU.put{a:List (List Int)}{d:List Value}(h:gU w C a g1 g2 base d v W)(b:g2<base)(c:w.heap.size≤g2):gU w C a g1 g2 base d v (W.setCell ⟨g2,0,none⟩ v):=by
 refine⟨aH h.bw c (p:=⟨g2,0,none⟩) _,h.b1.far (bF h.b1 h.b2 (by decide)) _, ?_,h.st.put b⟩
 have:=h.b2.set_ 0 v
 simpa using this
theorem Hq{P R b:List (List Int)}{x s:List Int}(c:b <+: P)(d:b++[s] <+: P++x::R):(b++[s] <+: P∧s∈P)∨(b=P∧s=x):=by
 obtain⟨u,rfl⟩:=c;obtain⟨t,ht⟩:=d;rw[List.append_assoc,List.append_assoc]at ht;have ht:=List.append_cancel_left ht;cases u with
 | nil=>right;injection ht with h _;exact⟨by simp,h⟩
 | cons a u =>
  left;injection ht with c d
  subst c;exact⟨⟨u,by simp⟩,by simp⟩
theorem Hr(y:ar)(A:aI)(B f:Nat)(r:List Int→Bool)(w:World)(H:aO w B y A)(hB:B≤w.heap.size)(hY:dc y)(P:List (List Int))(x:List Int)(R:List (List Int))(ab:jg y.papers.length=P++x::R)(hP:∀s∈P,s.length≤10∧cE y s∧cN y s f=some (r s))(G:∀b s,b++[s] <+: P→kh (b.filter r) s=false)(hX:kh (P.filter r) x=true)(hx:x.length≤10)(aA:P.length≤1000) :
  Cs 116 #[.agg (ak y A)] w fun e w'=>∃g v,e=.returned v∧BW w w'∧fC w.heap.size (P.filter r) g v w':=by
 obtain⟨W1,aj,b1⟩:=nA w (.cells (ak y A) 74);obtain⟨g1,hg1⟩:=ex w.heap.size;obtain⟨D,hW2,b2⟩:=nA W1 (.cells #[.slice none 0 0] 202);obtain⟨g2,J⟩:=ex W1.heap.size;have q1:aa D g1 74 (ak y A):=by rw[←hW2];exact aa.alloc (by rw[←aj,←hg1];exact aa.new w 74 _) _
 have q2:aa D g2 202 #[.slice none 0 0]:=by rw[←hW2,←J];exact aa.new W1 202 _
 have ac:=bT b1 b2;have HG:Hid (w.heap.size≤g1∧w.heap.size≤g2):=Lq ⟨by omega,by rw[←J];exact b1.size⟩
 obtain⟨x0,x1,x2,x3,x4⟩:=q1.c5;have l1:=q1.lt;have HLI:=Lq (Aq y A D);obtain⟨W0,hW0,b0⟩:=nA D (.cells (ak y A) 74);obtain⟨pb,hpb⟩:=ex D.heap.size;rw[hW0,hpb]at HLI;have qp:aa W0 pb 74 (ak y A):=by rw[←hW0,←hpb];exact aa.new D 74 _
 have aD:=hY.papers;have HI0:Hid (gU w (ak y A) [] g1 g2 (W0.heap.size+2) [] (.slice none 0 0) W0):=Lq ⟨bT ac b0,q1.keep b0,q2.keep b0,⟨World.ownsRow_nil _ _ _ _,rfl,fun i u s hu=>by simp at hu⟩⟩
 have au:=Lq (Am y A pb 48 W0 qp aD (by decide) (by decide) (by decide) (by decide))
 have av:Hid (g1<W0.heap.size∧g2<W0.heap.size∧pb<W0.heap.size∧w.heap.size≤W0.heap.size∧g2<pb):=Lq ⟨HI0.out.b1.lt,HI0.out.b2.lt,qp.lt,HI0.out.bw.size,by rw[←hpb];exact q2.lt⟩
 have aw:=Lq H;have HZB:=Lq hB;have HOK:=Lq hY;have HALL:=Lq ab;have HP:=Lq hP;have HE:=Lq G;have HXE:=Lq hX;clear H hB hY ab hP G hX b1 b2 q1 q2 ac b0 qp;refine(callsIn_wide (n:=0)).1 ?_;refine callsIn_of_wp_marks Tryz.func116 rfl trivial ?_ rfl;simp only[Tryz.ntmps116,List.size_toArray,List.length_cons,List.length_nil,Nat.reduceAdd,Nat.reduceSub,Array.replicate_succ,Array.replicate_zero,List.push_toArray,List.append_toArray,List.nil_append,List.cons_append]
 gi_wp2_with (first | refine Hp ?_ | refine wpIn_label ?_)
 refine⟨trivial,rfl,(callsIn_wide.2 HLI.out).mono ?_⟩;rintro e w5 ⟨rfl,e5⟩;have e5:=e5.symm;subst e5;clear x0 x1 x2 x3 x4 l1 aj hW2 hg1 J hW0 hpb HLI;obtain⟨h2,h3,h4,h5,h6⟩:=av.out;obtain⟨k1,k2⟩:=HG.out
 gi_wp2_with (refine wpIn_label ?_)
 refine Ah 0 76 #[bK pb] 48 (jg y.papers.length) (fun k=>k=g2) (fun k=>k≠pb) (.exit 0) (.exit 0) (.inr ⟨0,rfl,rfl⟩) rfl au.out (fun k hk=>by omega) (by omega) (fun args w=>enters_of Tryz.func76 (by kernel_rfl) rfl args w)
  (fun s W=>s <+: P∧∃g v,gU w (ak y A) (s.filter r) g1 g2 (W0.heap.size+2) g v W) (fun _ W=>∃g v,gU w (ak y A) (P.filter r) g1 g2 (W0.heap.size+2) g v W) ?_ ?_ ⟨List.nil_prefix,_,_,HI0.out⟩ ?_ ?_ ?_
 ·rintro s X Y ⟨g,v,hX⟩ hg;exact⟨g,v,hX.grown hg (by omega) (by omega) (by omega) (by omega)⟩
 ·rintro s X Y ⟨T,g,v,hX⟩ hg;exact⟨T,g,v,hX.grown hg (by omega) (by omega) (by omega) (by omega)⟩
 ·rintro m l2 b s v W ⟨T, -⟩ S ao ah;rw[HALL.out]at S;have hcase:=Hq T S;have hpl:(b.filter r).length≤1000:=lT (List.length_filter_le _ _) (lT T.length_le aA);have hpP:=T
  gi_wp2_with fail
  refine⟨bR _, ?_⟩;rintro D ⟨-,g,v2,j⟩ J z;have hit2:dJ D (W0.heap.size+2) s v:=ah.kept J (.inr (fun e=>by have:=(ah.lt _ e).1;omega))
  obtain⟨L,cap,rfl,hr, -⟩:=io hit2;have HCL:Hid (∀W3 bt,BW D W3→s.length≤10∧cE y s∧cN y s f=some bt→Cs 21 #[.agg (ak y A),.slice L s.length cap] W3 (Rt W3 (.bool bt))):=Lq fun W3 bt hb ⟨h1,h2,h3⟩=>nu y A W3.heap.size L s cap f bt W3 ((aw.out.below (bT j.bw hb) HZB.out).more (lT HZB.out (bT j.bw hb).size)) (lr _) HOK.out.pap (by unfold maxLen;omega) ((hr.below hb (lr _)).more hb.size) h2 (by have:=HOK.out.kinds;omega) h3
  have ag:kh (b.filter r) s=false∧b++[s] <+: P∧s∈P∨(kh (b.filter r) s=true∧b=P∧s=x):=by
   rcases hcase with⟨O,I⟩ | ⟨rfl,rfl⟩
   ·exact .inl ⟨HE.out b s O,O,I⟩
   ·exact .inr ⟨HXE.out,rfl,rfl⟩
  have ai:=j.st.ln;have hvs:∃A2 c2,v2=.slice A2 g.length c2∧∀a t,b.filter r=a::t→∃gb La ca,A2=some ⟨gb,0,none⟩∧cA D gb 0 (.slice La a.length ca)∧0<g.length:=by
   obtain⟨A2,c2,rfl,aE,an⟩:=io (enc:=id) (xs:=g) (by simpa using j.st.ow)
   refine⟨A2,c2,rfl,fun a t al=>?_⟩
   have V:0<g.length:=by rw[ai,al];simp
   obtain⟨u,hu⟩:=gX (l:=g) (i:=0) V;obtain⟨La,ca,rfl, -, -⟩:=io (j.st.it 0 u a hu (by rw[al];rfl))
   obtain⟨gb,aF,rfl, -,hc⟩:=aE 0 _ hu;obtain⟨-,rfl⟩:=an gb aF rfl;exact⟨gb,La,ca,rfl,hc,V⟩
  obtain⟨A2,c2,rfl,d⟩:=hvs;obtain⟨x0,x1,x2,x3,x4⟩:=j.b1.c5;obtain⟨Z,y1,y2⟩:_∧_∧_:=⟨j.b2.c 0,j.b2.frozen 0,j.b2.lt⟩;have hz20:W0.heap.size+2<D.heap.size:=by rw[z];exact ao
  have U:=Lq j;have HIT2:=Lq hit2;have HVL:=Lq ai;have HPP:=Lq hpP;have hws:w.heap.size≤D.heap.size:=j.bw.size;have hvn:g.length≤1000:=by omega
  clear j ah J z hit2 hr T S hcase ai hpP;have af:Hid (kh (b.filter r) s=true→b=P):=Lq fun h=>by
   rcases ag with⟨h', -⟩ | ⟨-,h', -⟩
   ·rw[h']at h;cases h
   ·exact h'
  have ae:Hid (kh (b.filter r) s=false→b++[s] <+: P∧s∈P):=Lq fun h=>by
   rcases ag with⟨-,h'⟩ | ⟨h', -⟩
   ·exact h'
   ·rw[h']at h;cases h
  clear ag;have aH:IntKind.i64.wrap 1=1:=by decide
  obtain⟨E,G⟩:=ex (kh (b.filter r) s);rw[G]at af ae;obtain⟨sets,hsets⟩:=ex (b.filter r);rw[hsets]at U HVL G d hpl;have HSE:=Lq hsets;clear hsets;cases E
  case true =>
   have az:=af.out rfl;subst az
   match sets,G with
   | [],G=>cases G
   | a::t,G =>
    obtain⟨gb,La,ca,rfl,M,V⟩:=d a t rfl;have hl0z:(0:Int)<(g.length:Int):=by omega
    have aC:(a.length:Int)<(s.length:Int):=by have h:a.length<s.length:=of_decide_eq_true G;omega
    clear G d
    gi_wp2_with fail
    exact⟨rfl,aS.refl _ _ _,g,_,by rw[HSE.out];exact U.out⟩
  case false =>
   obtain⟨O,I⟩:=ae.out rfl;have HPR:=Lq O;obtain⟨bt,hbt⟩:=ex (r s);have hps:=HP.out s I;rw[hbt]at hps;have HC:=Lq (HCL.out D bt (bR _) hps);have HBT:Hid ((b++[s]).filter r=sets++if bt=true then[s]else[]):=Lq (by
    rw[List.filter_append,HSE.out]
    congr 1
    rw[←hbt];cases h:r s<;>simp[h])
   clear HCL O I hps hbt af ae;have am:sets=[]∨∃a t,sets=a::t:=by cases sets;exact .inl rfl;exact .inr ⟨_,_,rfl⟩
   rcases am with rfl | ⟨a,t,rfl⟩
   ·obtain rfl:g=[]:=List.length_eq_zero_iff.1 HVL.out;clear G d
    gi_wp2_with fail
    refine⟨trivial,hdd _,(CallsIn.inRound l2 (callsIn_wide.2 HC.out)).mono ?_⟩;rintro e F ⟨rfl,p⟩;have HI3:=Lq (U.out.below p);have HIT3:=Lq (aN HIT2.out p);have HK3:Hid (aS (fun k=>k=g2) 48 D F):=Lq (aS.of_below p)
    clear p x0 x1 x2 x3 x4 Z y1 y2 HC ;cases bt
    ·gi_wp2_with fail
     exact⟨HK3.out,HPR.out,[],_,by rw[HBT.out];simpa using HI3.out⟩
    ·obtain⟨Z,y1,y2⟩:_∧_∧_:=⟨HI3.out.b2.c 0,HI3.out.b2.frozen 0,HI3.out.b2.lt⟩;have HI4:=Lq (HI3.out.below (bA (bR F) (.cells #[.slice L s.length cap] 48)));have HIT4:=Lq (aN HIT3.out (bA (bR F) (.cells #[.slice L s.length cap] 48)));have HK4:=Lq (HK3.out.trans (aS.of_below (bA (bR F) (.cells #[.slice L s.length cap] 48))));have hbz:W0.heap.size+2≤F.heap.size:=by have:=HK3.out.size;omega
     have N:=fW F [.slice L s.length cap] 48;obtain⟨i48,hi3,hz0,hz1,z⟩:=info_parts Tryz.info48w
     gi_wp2_with (gi_at_builtin;refine wpListIn_append_own_at _ rfl _ _ 202 rfl (W0.heap.size+2) 48 i48 _ 1 24 Tryz.underlying202 hi3 hz0 hz1 z rfl (by decide) _ _ _ rfl HI4.out.st.ow ⟨F.heap.size,0,none⟩ 1 1 [.slice L s.length cap] rfl rfl N ?d2 ?d3 ?d4 ?d5 ?_)
     case d2=>simp[Value.oneCell']
     case d3=>unfold maxLen;(try simp only[List.length_nil]);omega
     case d4=>(try simp only[List.length_nil]);omega
     case d5=>simp only[World.size_alloc];omega
     intro v' w7 o q _ _;obtain⟨Av,cv,rfl⟩:=sV o;have HM:=Lq (HI4.out.more (s:=s) HIT4.out o q (by omega) (by omega) k2)
     have ad:=Lq (HK4.out.trans (aS.of_own HI4.out.st.ow q));have hq7:=HI4.out.b2.grown q (ax HI4.out.st.ow HI4.out.b2 (by decide))
     clear Z y1 y2 N o q hi3 hz0 hz1 z;obtain⟨Z,y1,y2⟩:_∧_∧_:=⟨hq7.c 0,hq7.frozen 0,hq7.lt⟩;clear hq7
     gi_wp2_with fail
     refine⟨ad.out.trans ⟨by simp,fun k hk hl aB=>Below.heap_setCell _ _ _ _ hk⟩,HPR.out,[]++[.slice L s.length cap],.slice Av 1 cv, ?_⟩
     rw[HBT.out];exact HM.out
   ·obtain⟨gb,La,ca,rfl,M,V⟩:=d a t rfl;have hl0z:(0:Int)<(g.length:Int):=by omega
    have aC:¬((a.length:Int)<(s.length:Int)):=by have h:¬(a.length<s.length):=of_decide_eq_false G;omega
    have aG:(s.length:Int)≤(a.length:Int):=by omega
    clear G d
    gi_wp2_with fail
    refine⟨trivial,hdd _,(CallsIn.inRound l2 (callsIn_wide.2 HC.out)).mono ?_⟩;rintro e F ⟨rfl,p⟩;have HI3:=Lq (U.out.below p);have HIT3:=Lq (aN HIT2.out p);have HK3:Hid (aS (fun k=>k=g2) 48 D F):=Lq (aS.of_below p)
    clear p x0 x1 x2 x3 x4 Z y1 y2 HC M;cases bt
    ·gi_wp2_with fail
     exact⟨HK3.out,HPR.out,g,_,by rw[HBT.out];simpa using HI3.out⟩
    ·obtain⟨Z,y1,y2⟩:_∧_∧_:=⟨HI3.out.b2.c 0,HI3.out.b2.frozen 0,HI3.out.b2.lt⟩;have HI4:=Lq (HI3.out.below (bA (bR F) (.cells #[.slice L s.length cap] 48)));have HIT4:=Lq (aN HIT3.out (bA (bR F) (.cells #[.slice L s.length cap] 48)));have HK4:=Lq (HK3.out.trans (aS.of_below (bA (bR F) (.cells #[.slice L s.length cap] 48))));have hbz:W0.heap.size+2≤F.heap.size:=by have:=HK3.out.size;omega
     have N:=fW F [.slice L s.length cap] 48;obtain⟨i48,hi3,hz0,hz1,z⟩:=info_parts Tryz.info48w
     gi_wp2_with (gi_at_builtin;refine wpListIn_append_own_at _ rfl _ _ 202 rfl (W0.heap.size+2) 48 i48 _ 1 24 Tryz.underlying202 hi3 hz0 hz1 z rfl (by decide) _ _ _ rfl HI4.out.st.ow ⟨F.heap.size,0,none⟩ 1 1 [.slice L s.length cap] rfl rfl N ?d2 ?d3 ?d4 ?d5 ?_)
     case d2=>simp[Value.oneCell']
     case d3=>unfold maxLen;(try simp only[List.length_nil]);omega
     case d4=>(try simp only[List.length_nil]);omega
     case d5=>simp only[World.size_alloc];omega
     intro v' w7 o q _ _;obtain⟨Av,cv,rfl⟩:=sV o;have HM:=Lq (HI4.out.more (s:=s) HIT4.out o q (by omega) (by omega) k2)
     have ad:=Lq (HK4.out.trans (aS.of_own HI4.out.st.ow q));have hq7:=HI4.out.b2.grown q (ax HI4.out.st.ow HI4.out.b2 (by decide))
     clear Z y1 y2 N o q hi3 hz0 hz1 z;obtain⟨Z,y1,y2⟩:_∧_∧_:=⟨hq7.c 0,hq7.frozen 0,hq7.lt⟩;clear hq7
     gi_wp2_with fail
     refine⟨ad.out.trans ⟨by simp,fun k hk hl aB=>Below.heap_setCell _ _ _ _ hk⟩,HPR.out,g++[.slice L s.length cap],.slice Av (g.length+1) cv, ?_⟩
     rw[HBT.out];exact HM.out
 ·rintro W ⟨T, -⟩;have:=T.length_le;rw[HALL.out]at this;simp at this;omega
 ·rintro b W ⟨g,v,hI⟩ ao hD;obtain⟨Av,cv,rfl⟩:=sV hI.st.ow;have hz0:W0.heap.size<W.heap.size:=by omega
  have ap:Hid ((W.setCell ⟨g2,0,none⟩ (.slice Av g.length cv)).heap[W0.heap.size]?=some (.deferred (some []))):=Lq (by rw[Below.heap_setCell _ _ _ _ (by show _≠g2;omega)];exact hD)
  have aq:=Lq (hI.put (by omega) k2)
  have K:=Lq (aq.out.grown (jx (W.setCell ⟨g2,0,none⟩ (.slice Av g.length cv)) W0.heap.size (.deferred none)) (by omega) (by omega) (by omega) (by omega))
  obtain⟨Z,y1,y2⟩:_∧_∧_:=⟨hI.b2.c 0,hI.b2.frozen 0,hI.b2.lt⟩;have d0:=K.out.b2.c 0;clear hI hD
  gi_wp2_with fail
  refine⟨by simp,.inl ⟨_,_,rfl,run_takeDeferred ap.out, ?_⟩⟩
  refine⟨.slice Av g.length cv,by simp[results,Tryz.results116,go_sem,d0],g,_,rfl,K.out.bw, ?_⟩
  exact⟨dv K.out.st.ow (by omega),K.out.st.ln,fun i u s hu T=>dv (K.out.st.it i u s hu T) (by omega)⟩
end
theorem Hs(n:Nat)(w:World)(p:1≤n)(q:n≤100000):Cs 178 #[.slice none 0 0,iv n] w fun e w'=>∃v,e=.returned v∧BW w w'∧w'.ownsRow w.heap.size 3 1 v 0 []:=by
 obtain⟨o,f,h,k,i⟩:=info_parts Tryz.info3w;have hn0:(0:Int)<(n:Int):=by omega
 have l:IntKind.i64.wrap (0-0)=0:=by decide
 have m:IntKind.i64.wrap (n:Int)=n:=by rw[IntKind.wrap_i64];omega
 have a:=Lib.run_append_nil_zeros (P:=Tryz.prog) w 48 3 48 3 o (iv 0) .i64 .i64 Tryz.underlying48 (by kernel_rfl) f h n (by omega) (by omega) (by omega) (by rw[i];omega)
 obtain⟨d,b⟩:=ex (grownCap w n 0 3);have hle:n≤d:=by rw[←b];exact grownCap_ge w n 0 3
 have g:d≤maxLen:=by rw[←b];exact grownCap_le_maxLen w n 0 3 (by unfold maxLen;omega)
 rw[b]at a;obtain⟨cs,c⟩:=ex (Builtin.zeroCells (iv 0).cells n++Builtin.zeroCells (iv 0).cells (d-n));have hcz:cs.size=d:=by rw[←c];simp[Builtin.zeroCells,Value.cells];omega
 rw[c]at a;have j:=Lq a;have HCZ:=Lq hcz;have HLE:=Lq (And.intro hle g);clear a c hcz b f h k i hle g;go_enter Tryz.func178,Tryz.ntmps178
 go_wp2_with (at_builtin;refine Lib.wpList_append_run _ rfl _ _ _ _ rfl _ _ rfl rfl _ _ j.out ?_)
 go_ret
 refine⟨_,rfl,bA (aZ (bR w)) _,by simp,.inr ⟨w.heap.size,d,cs,rfl,lr _, ?_,Nat.zero_le _,HLE.out.2,by rw[HCZ.out];omega,by simp⟩⟩
 exact World.alloc_heap_new w.drew _
theorem fC.rows{base:Nat}{a:List (List Int)}{n:List Value}{v:Value}{w:World}(h:fC base a n v w)(D:∀s∈a,s≠[])(I:0<a.length) :
  ∃gb cv,v=.slice (some ⟨gb,0,none⟩) a.length cv∧∀(k:Nat) (s:List Int) W,BW w W→a[k]?=some s→∃b ck,W.cell? ⟨gb,k,none⟩=some (.slice (some ⟨b,0,none⟩) s.length ck)∧∀j x,s[j]?=some x→cA W b j (iv x):=by
 have z:=h.ln;obtain⟨gb,cv,rfl, -, -, -⟩:=gI h.ow (by omega)
 obtain⟨E,G,e,r,g⟩:=io (enc:=id) (xs:=n) (by simpa using h.ow)
 injection e with e1 _ _
 refine⟨gb,cv,by rw[z],fun k s W y o=>?_⟩
 have p:k<n.length:=by rw[z];exact(lG o)
 obtain⟨u,A⟩:=gX (l:=n) (i:=k) p;have hit:=h.it k u s A o;have hsl:0<s.length:=List.length_pos_iff.2 (D s (List.mem_of_getElem? o));obtain⟨b,ck,rfl, -, -, -⟩:=gI hit (by omega)
 obtain⟨F,H,c,q,d⟩:=io hit;injection c with c _ _
 obtain⟨B,t,rfl, -,hc⟩:=r k _ A;obtain⟨-,rfl⟩:=g B t rfl;injection e1 with e1
 injection e1 with e1 _ _
 subst e1;rw[Nat.zero_add]at hc;refine⟨b,ck,kC y hc,fun j x hx=>?_⟩
 obtain⟨C,m,rfl, -,f⟩:=q j x hx;obtain⟨-,rfl⟩:=d C m rfl;injection c with c
 injection c with c _ _
 subst c;rw[Nat.zero_add]at f;exact kC y f
theorem At{a:List (List Int)}{k:Nat}{s:List Int}(h:a[k]?=some s):(a.take (k+1)).flatten=(a.take k).flatten++s:=by rw[List.take_add_one,h];simp
theorem ql(a:List (List Int))(k:Nat):(a.take k).flatten.length≤a.flatten.length:=by
 conv=>rhs;rw[←List.take_append_drop k a]
 rw[List.flatten_append,List.length_append];omega
theorem Ht(base:Nat)(a:List (List Int))(I:List Value)(v:Value)(w:World)(h:fC base a I v w)(C:∀s∈a,s≠[])(D:0<a.length)(N:a.length≤1000)(z:1≤a.flatten.length)(B:a.flatten.length≤1000) :
  Cs 115 #[v] w fun e w'=>∃v',e=.returned v'∧BW w w'∧w'.ownsRow w.heap.size 3 1 v' a.flatten.length (a.flatten.map iv):=by
 obtain⟨M,L,rfl,p⟩:=h.rows C D;have HAT:=Lq p;have HLE:=Lq (And.intro z B);have HGR:Hid (∀W,Cs 178 #[.slice none 0 0,iv a.flatten.length] W fun e w'=>∃v,e=.returned v∧BW W w'∧w'.ownsRow W.heap.size 3 1 v 0 []):=Lq fun W=>Hs _ W z (by omega)
 obtain⟨K,o⟩:=ex a.flatten.length;have HFL:=Lq o;rw[o]at HGR;clear h p z B C;go_enter Tryz.func115,Tryz.ntmps115
 go_wp2_with fail;go_loopw [11,3,5] (fun m H u wr=>∃k:Nat,k≤a.length∧m=iv k∧H=iv ((a.take k).flatten.length:Nat)∧Hid (BW w wr)) (fun m _ _ _=>a.length-(intOf m).toNat)
 case atStart=>exact⟨0,Nat.zero_le _,rfl,rfl,Lq (bR _)⟩
 case round =>
  obtain⟨k,E,rfl,rfl,f⟩:=hrel;have hk0:=nn k;have hfl:=ql a k;have hle:=HLE.out;by_cases hlt:k<a.length
  ·obtain⟨s,c⟩:=gX (l:=a) (i:=k) hlt;obtain⟨b,ck,c0, -⟩:=HAT.out k s wr f.out c;have hfs:(a.take (k+1)).flatten.length=(a.take k).flatten.length+s.length:=by rw[At c,List.length_append]
   have d:=ql a (k+1);have HFS:=Lq hfs;obtain⟨nk,hnk⟩:=ex (a.take k).flatten.length;rw[hnk]at hfs hfl HFS ⊢;rw[hfs]at d;have hwn:IntKind.i64.wrap ((nk:Int)+(s.length:Int))=(nk:Int)+(s.length:Int):=by rw[IntKind.wrap_i64];omega
   have F:¬((nk:Int)+(s.length:Int)<0):=by omega
   have A:(k:Int)<(a.length:Int):=by omega
   clear hfs c hnk;go_wp2_with fail;go_roundw
   case rel=>exact⟨k+1,hlt,by go_num,by rw[HFS.out];push_cast;rfl,f⟩
   case measure=>simp[intOf];omega
  ·obtain rfl:k=a.length:=by omega
   rw[List.take_length,HFL.out];clear hfl hle;go_wp2_with fail;refine(HGR.out wr).mono ?_;rintro e S ⟨O,rfl,q,t⟩;have HB2:=Lq (bT f.out q);have OW2:=Lq (dv t f.out.size);clear q t f;go_wp2_with fail;go_loopw [27,6,8] (fun m v u wr=>∃k:Nat,k≤a.length∧m=iv k∧Hid (BW w wr)∧Hid (wr.ownsRow w.heap.size 3 1 v (a.take k).flatten.length ((a.take k).flatten.map iv))) (fun m _ _ _=>a.length-(intOf m).toNat)
   case atStart=>exact⟨0,Nat.zero_le _,rfl,HB2,by simpa using OW2⟩
   case round =>
    clear HB2 OW2;obtain⟨k,E,rfl,f,n⟩:=hrel;have hk0:=nn k;have hfl:=ql a k;have hle:=HLE.out;by_cases hlt:k<a.length
    ·obtain⟨s,c⟩:=gX (l:=a) (i:=k) hlt;obtain⟨b,ck,c0,hcs⟩:=HAT.out k s wr f.out c;have d:=ql a (k+1);have HFS:=Lq (At c);rw[HFS.out,List.length_append]at d;obtain⟨fl,hfe⟩:=ex (a.take k).flatten;rw[hfe]at n HFS hfl d;obtain⟨i3,hi3,hz0,hz1,hz2⟩:=info_parts Tryz.info3w;have A:(k:Int)<(a.length:Int):=by omega
     have y:Hid (∀j u,(s.map iv)[j]?=some u→wr.cell? ((⟨b,0,none⟩:Addr).add j)=some u):=Lq fun j u hj=>by
      rw[List.getElem?_map]at hj;cases hx:s[j]? with
      | none=>rw[hx]at hj;cases hj
      | some x =>
       rw[hx]at hj;injection hj with hj
       subst hj;have:=hcs j x hx;cases j<;>simpa[Addr.add]using this
     clear c hcs hfe;go_wp2_with (at_builtin;refine wpList_append_own_at _ rfl _ _ 48 rfl w.heap.size 3 i3 _ 1 8 Tryz.underlying48 hi3 hz0 hz1 hz2 rfl (by decide) _ _ _ rfl n.out ⟨b,0,none⟩ s.length ck (s.map iv) rfl (by simp) y.out ?d2 ?d3 ?d4 ?d5 ?_)
     case d2=>intro u G;obtain⟨x, -,rfl⟩:=List.mem_map.1 G;rfl
     case d3=>unfold maxLen;omega
     case d4=>omega
     case d5=>exact f.out.size
     intro R J g r _ _;have HB7:Hid (BW w J):=Lq (cC n.out r (lr _) f.out);have OW7:=Lq g;clear g r hi3 hz0 hz1 hz2;go_wp2_with fail;go_roundw
     case rel=>exact⟨k+1,hlt,by go_num,HB7,Lq (by rw[HFS.out,List.length_append,List.map_append];exact OW7.out)⟩
     case measure=>simp[intOf];omega
    ·obtain rfl:k=a.length:=by omega
     rw[List.take_length]at n;go_wp2_with fail;go_ret
     exact⟨_,rfl,f.out,n.out⟩
section
variable{g:Nat}{a w:World}
theorem Hu(h:BW a w)(os:Array Obj):BW a (Go.Sort.grow w os) :=
 h.trans ⟨rfl,rfl,rfl,by simp,fun k b=>Go.Sort.heap_grow_old w os (lz b h.size)⟩
theorem Au(h:BW a w)(n:Nat):BW a (Go.Sort.ahead w n):=⟨h.os,h.tape,h.output,h.size,h.block⟩
theorem Aw(h:BW a w)(c:a.heap.size≤g)(b:Nat)(d:Array Int):BW a (Go.Sort.putRow (Value.int .i64) w g b d) :=
 h.trans ⟨rfl,rfl,rfl,by simp[Go.Sort.putRow,Go.Sort.mapBlock],fun k f=>by simp only[Go.Sort.putRow,Go.Sort.mapBlock,Array.getElem?_modify];rw[if_neg (by omega)]⟩
theorem Hv{base:Nat}{e:TypeId}{cap:Nat}{xs:List Int}(h:w.ownsRow base e 1 (.slice (some ⟨g,0,none⟩) xs.length cap) xs.length (xs.map iv)) :
  Go.Sort.Holds (Value.int .i64) w g 0 xs.toArray:=by
 intro j b;have hj':j<xs.length:=by simpa using b
 refine⟨?_,by rw[Nat.zero_add];exact h.frozenAt j⟩
 rw[Nat.zero_add,h.cellAt j (by omega),List.getElem?_map,gE hj']
 simp[hj']
theorem Hw(b:List Int):(Lib.compact b).length≤b.length:=by unfold Lib.compact Lib.compactUpTo;rw[List.length_map];have:=List.length_filter_le (Lib.keeps b.toArray) (List.range b.length);rw[List.length_range]at this;exact this
def mF(sets:List (List Int)):List Int:=Lib.compact (sets.flatten.mergeSort fun x y=>decide (x≤y))
theorem Hy(y:ar)(A:aI)(B f:Nat)(m:List Int→Bool)(w:World)(H:aO w B y A)(U:B≤w.heap.size)(hY:dc y)(Y:cE y (bC (-1) y.papers.length))(hc:cN y (bC (-1) y.papers.length) f=some true)(P:List (List Int))(x:List Int)(R:List (List Int))(C:jg y.papers.length=P++x::R)(hP:∀s∈P,s.length≤10∧cE y s∧cN y s f=some (m s))(hE:∀pre s,pre++[s] <+: P→kh (pre.filter m) s=false)(hX:kh (P.filter m) x=true)(hx:x.length≤10)(V:P.length≤1000)(I:∀s∈P.filter m,s≠[])(G:0<(P.filter m).length)(E:1≤(P.filter m).flatten.length)(F:(P.filter m).flatten.length≤1000) :
  Cs 62 #[.agg (ak y A)] w fun e w'=>∃L c,e=.returned (.tuple #[.slice L (mF (P.filter m)).length c,iv 0])∧BW w w'∧am iv w' w'.heap.size L (mF (P.filter m)):=by
 obtain⟨W1,X,K⟩:=nA w (.cells (ak y A) 46);obtain⟨g1,hg1⟩:=ex w.heap.size;have q1:aa W1 g1 46 (ak y A):=by rw[←X,←hg1];exact aa.new w 46 _
 have HB:=Lq K;have HEN:=Lq (sQ y A B f W1 (H.below K U) (lT U K.size) hY Y hc);have HLE:Hid (∀W,BW W1 W→Cs 116 #[.agg (ak y A)] W fun e w'=>∃vs v,e=.returned v∧BW W w'∧fC W.heap.size (P.filter m) vs v w'):=Lq fun W hb=>Hr y A W.heap.size f m W ((H.below (bT K hb) U).more (lT U (bT K hb).size)) (lr _) hY P x R C hP hE hX hx V
 obtain⟨b,j⟩:=ex (P.filter m);rw[j]at HLE I G E F ⊢;have hsl:b.length≤1000:=by rw[←j];exact lT (List.length_filter_le _ _) V
 have D:Hid (∀(base:Nat) (vs:List Value) (v:Value) W,fC base b vs v W→Cs 115 #[v] W fun e w'=>∃v',e=.returned v'∧BW W w'∧w'.ownsRow W.heap.size 3 1 v' b.flatten.length (b.flatten.map iv)):=Lq fun base vs v W h=>Ht base b vs v W h I G hsl E F
 obtain⟨Z,J⟩:=ex b.flatten;rw[J]at D E F;have hmo:mF b=Lib.compact (Z.mergeSort fun x y=>decide (x≤y)):=by unfold mF;rw[J]
 have o:=Lq hmo;obtain⟨x0,x1,x2,x3,x4⟩:=q1.c5;have l1:=q1.lt;clear H U hY Y hc C hP hE hX j I G J hmo K q1;go_enter Tryz.func62,Tryz.ntmps62
 go_wp2_with fail;refine HEN.out.mono ?_;rintro e w2 ⟨rfl,(ab:Hid _)⟩;clear HEN x0 x1 x2 x3 x4 l1 X hg1;obtain⟨Wa,Wb,hWa,hWb,hbb,qa,hba,qb⟩:=fh w2 74 (.slice none 0 0) (.slice none 0 0) (.slice none 0 0) (.slice none 0 0) (.slice none 0 0) (.slice A.k y.kinds.length A.ck) (.slice A.p y.places.length A.cp) (.slice A.f y.first.length A.cf) (.slice A.a y.papers.length A.ca) (.slice A.l y.last.length A.cl);obtain⟨g4,hg4⟩:=ex w2.heap.size;rw[hg4]at hWb qa qb;obtain⟨f0,f1,f2,f3,f4⟩:=qa.f5;obtain⟨e0,e1,e2,e3,e4⟩:=qa.c5;have el:=qa.lt;obtain⟨d0,d1,d2,d3,d4⟩:=qb.c5;have dl:=qb.lt;have HBX:=Lq (bT ab.out hbb);clear hbb qa hba qb;go_wp2_with fail;refine(HLE.out _ HBX.out).mono ?_;clear f0 f1 f2 f3 f4 e0 e1 e2 e3 e4 el d0 d1 d2 d3 d4 dl hWa hWb hg4;rintro e w3 ⟨vs,v3,rfl,hb3,hst⟩;have HB3:=Lq (bT HB.out (bT HBX.out hb3));have HST:=Lq hst;clear hb3 hst HLE;go_wp2_with fail;refine(D.out _ vs v3 w3 HST.out).mono ?_;rintro e w4 ⟨v4,rfl,hb4,ho4⟩;obtain⟨g0,cap0,rfl,u,hglt,hc0⟩:=gI ho4 (by omega)
 have u:w.heap.size≤g0:=lT HB3.out.size u;have hH:=Hv ho4;have HB4:=Lq (bT HB3.out hb4);have hsc:=Tryz.slices_Sort_int g0 0 cap0 Z w4 hH hglt (by omega)
 have o:=o.out;obtain⟨os,hos⟩:=ex (Z.mergeSort fun x y=>decide (x≤y))
 have d:os.length=Z.length:=by rw[←hos,List.length_mergeSort]
 rw[hos]at hsc o;have S:=Lq fun(n:Nat) (oo:Array Obj)=>Go.Sort.holds_grow (Value.int .i64) (Go.Sort.putRow (Value.int .i64) (Go.Sort.ahead w4 n) g0 0 os.toArray) oo g0 0 os.toArray (by simpa using hglt) (Go.Sort.holds_putRow (Value.int .i64) (Go.Sort.ahead w4 n) g0 0 Z.toArray os.toArray (Go.Sort.holds_ahead _ _ _ _ _ _ hH) (by simp[d]))
 have N:=Lq fun(n:Nat) (oo:Array Obj)=>Hu (Aw (g:=g0) (Au HB4.out n) u 0 os.toArray) oo
 have T:=Lq hsc;have HLM:=Lq o;have HGL:=Lq (And.intro u hglt);have HOL:=Lq d;clear hsc hos hH ho4 hb4 D o u hglt d;go_wp2_with fail;refine T.out.mono ?_;rintro e w5 ⟨rfl,nn,oss,e5⟩;have hH5:=S.out nn oss;have hb5:=N.out nn oss;rw[←e5]at hH5 hb5;have d:=HOL.out;have hgl5:g0<w5.heap.size:=by
  have:=(hH5 0 (by simp;omega)).1
  exact br this
 rw[←d];have z:=Tryz.slices_Compact_int g0 0 cap0 os w5 hH5 (by omega) (by omega)
 have r:=Hw os;rw[←HLM.out]at z r;obtain⟨L,hLd⟩:=ex (mF b);rw[hLd]at z r;have HLDM:=Lq hLd;have HH6:=Lq fun q=>Go.Sort.holds_putRow (Value.int .i64) (Go.Sort.ahead w5 q) g0 0 os.toArray (L++List.replicate (os.length-L.length) 0).toArray (Go.Sort.holds_ahead _ _ _ _ _ _ hH5) (by simp;omega)
 have M:=Lq fun q=>Aw (g:=g0) (Au hb5 q) HGL.out.1 0 (L++List.replicate (os.length-L.length) 0).toArray
 have O:=Lq z;have HCL:=Lq r;have HOL:=Lq d;clear hH5 hb5 z r hLd T S N e5 d hgl5;go_wp2_with fail;refine O.out.mono ?_;rintro e w6 ⟨rfl,q,e6⟩;have hH6:=HH6.out q;have hb6:=M.out q;rw[←e6]at hH6 hb6;have HH7:=Lq hH6;have HB7:=Lq hb6;clear hH6 hb6 O e6 HH6 M;go_wp2_with fail
 go_ret2
 rw[HLDM.out];refine⟨_,_,rfl,HB7.out,fun i t hi=>?_⟩
 have ac:=(lG hi);have r:=HCL.out;have h:=(HH7.out i (by simp;omega)).1
 refine⟨g0,0,rfl,br h, ?_⟩;rw[h];simp;rw[List.getElem?_append_left ac,hi];rfl
end
end Go.Proofs.YtbillnhcmkpohaaGreatDoor
