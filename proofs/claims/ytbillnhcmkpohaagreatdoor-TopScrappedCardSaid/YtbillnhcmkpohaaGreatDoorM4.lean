/- waste: names, as Check asks for them. waste: the small closures: the node of a place, .. -/
import Derived.Test.YtbillnhcmkpohaaGreatDoorM3
set_option maxRecDepth 1000000
set_option maxHeartbeats 0
namespace Go.Proofs.YtbillnhcmkpohaaGreatDoor
open Go.RowKit
theorem xQ(b a:Nat)(l:List ByteArray)(B cap:Nat)(w:World)(j:am .string w B (some ⟨b,a,none⟩) l)(f:B≤w.heap.size)(hc:l.length≤cap)(o:cap≤maxLen)(m:ns l) :
  Cs 126 #[.slice (some ⟨b,a,none⟩) l.length cap] w (Rt w (.tuple #[iv 0,iv 0])):=by
 obtain⟨i,h,d⟩:=nA w (.cells #[.slice (some ⟨b,a,none⟩) l.length cap] 40);obtain⟨g,hg⟩:=ex w.heap.size;have q1:aa i g 40 #[.slice (some ⟨b,a,none⟩) l.length cap]:=by rw[←h,←hg];exact aa.new w 40 _
 have n:=Lq d;have x0:=q1.c 0;have HF:=Lq (FN b a l B cap g i x0 (j.below d f) (lT f d.size) hc o m);clear j f m d q1;go_enter Tryz.func126,Tryz.ntmps126
 go_wp2_with fail;refine HF.out.mono ?_;rintro e p ⟨rfl,k⟩;have HB2:=Lq (bT n.out k);clear k;go_wp2_with fail
 go_ret2
 exact⟨rfl,HB2.out⟩
theorem FO(a o:Int)(g:Nat)(w:World)(h:w.cell? ⟨g,0,none⟩=some (iv o)) :
  Cs 134 #[iv a,pT g 0] w fun e w'=>e=.returned (iv (if a = -1 then o else a))∧w'=w:=by
 by_cases ha:a = -1
 ·subst ha;rw[if_pos rfl];go_enter Tryz.func134,Tryz.ntmps134
  go_wp2_with fail;go_ret
  exact⟨rfl,rfl⟩
 ·rw[if_neg ha];have b:(a == -1)=false:=by simpa using ha
  go_enter Tryz.func134,Tryz.ntmps134
  go_wp2_with fail;go_ret
  exact⟨rfl,rfl⟩
theorem FP(k n c a b:Nat)(x:Int)(w:World)(h:w.cell? ⟨a,0,none⟩=some (.slice (some ⟨b,0,none⟩) n c))(hx:w.cell? ⟨b,k,none⟩=some (iv x))(g:k<n)(f:-9000000000000000000≤x∧x≤9000000000000000000) :
  Cs 138 #[iv k,pT a 0] w fun e w'=>e=.returned (iv (-x))∧w'=w:=by
 have d:=nn k;have hkz:(k:Int)<(n:Int):=by omega
 have i:IntKind.i64.wrap (-x) = -x:=by rw[IntKind.wrap_i64];omega
 go_enter Tryz.func138,Tryz.ntmps138
 go_wp2_with fail;go_ret
 exact⟨rfl,rfl⟩
theorem FQ(k:Nat)(t m:Int)(b a:Nat)(w:World)(h:w.cell? ⟨b,0,none⟩=some (iv t))(d:w.cell? ⟨a,0,none⟩=some (iv m)) :
  Cs 82 #[iv k,pT b 0,pT a 0] w fun e w'=>e=.returned (iv (if(k:Int)=t then m else 0))∧w'=w:=by
 by_cases ha:(k:Int)=t
 ·rw[if_pos ha];have c:((k:Int)==t)=true:=by simpa using ha
  clear ha;go_enter Tryz.func82,Tryz.ntmps82
  go_wp2_with fail;go_ret
  exact⟨rfl,rfl⟩
 ·rw[if_neg ha];have c:((k:Int)==t)=false:=by simpa using ha
  clear ha;go_enter Tryz.func82,Tryz.ntmps82
  go_wp2_with fail;go_ret
  exact⟨rfl,rfl⟩
end Go.Proofs.YtbillnhcmkpohaaGreatDoor
namespace Go.Proofs.YtbillnhcmkpohaaGreatDoor
section
variable{k:Int}{f i n o src:Nat}
theorem xU{a:List Ed}{y:List Int}{l:List (Nat×Nat)}(h:cZ a y src f n=some l)(b:n=src):l=[]:=by
 cases f with
 | zero=>cases h
 | succ f=>rw[cZ,if_pos b]at h;injection h with h;exact h.symm
theorem xV{b:List Ed}{y:List Int}{l:List (Nat×Nat)}(h:cZ b y src (f+1) n=some l)(p:n≠src) :
  ∃(i:Nat) (e:Ed) (a:List (Nat×Nat)),y.getD n 0=(i:Int)+1∧b[i]?=some e∧(n=e.fr∨n=e.en)∧cZ b y src f (e.other n)=some a∧l=(i,e.other n)::a:=by
 rw[cZ,if_neg p]at h;by_cases hy:y.getD n 0≤0
 ·rw[if_pos hy]at h;cases h
 ·rw[if_neg hy]at h;obtain⟨i,m⟩:∃i:Nat,y.getD n 0=(i:Int)+1:=⟨(y.getD n 0-1).toNat,by omega⟩
  have c:(y.getD n 0-1).toNat=i:=by omega
  rw[c]at h;split at h
  ·cases h
  ·rename_i e j;by_cases hend:n=e.fr∨n=e.en
   ·rw[if_pos hend]at h;obtain⟨a,d,g⟩:=Option.map_eq_some_iff.1 h;exact⟨i,e,a,m,j,hend,d,g.symm⟩
   ·rw[if_neg hend]at h;cases h
theorem F1{a:List Ed}{e:Ed}{l:List (Nat×Nat)}(b:a[i]?=some e):dU a k ((i,o)::l)=dU a (min k (e.room o)) l:=by unfold dU;rw[List.foldl_cons];simp only[b]
theorem sG{e:Ed}{m:Nat}(h:n=e.fr∨n=e.en)(a:e.fr<m)(b:e.en<m):e.other n<m:=by unfold Ed.other;omega
def kQ(c:Nat)(es es2:List Ed):Prop:=es2.length=es.length∧∀(i:Nat) (e:Ed),es[i]?=some e→∃v:Int,es2[i]?=some { e with now:=v }∧-4000000000000-c*10000000000000≤v∧v≤4000000000000+c*10000000000000
theorem kQ.zero{b:List Ed}{a:Nat}(h:b.all (bP a)=true):kQ 0 b b:=⟨rfl,fun i e c=>by have h1:=List.all_eq_true.1 h e (List.mem_of_getElem? c);unfold bP at h1;have h1:=of_decide_eq_true h1;exact⟨e.now,c,by omega,by omega⟩⟩
theorem kQ.step{b es2:List Ed}{c:Nat}(h:kQ c b es2)(m:-10000000000000≤k∧k≤10000000000000):kQ (c+1) b (ft k es2 (i,o)):=by
 refine⟨(uR k es2 (i,o)).trans h.1,fun j e d=>?_⟩
 obtain⟨v,a,g,l⟩:=h.2 j e d;unfold ft;simp only;split
 ·rename_i x hx;by_cases hj:i=j
  ·subst hj;rw[hx]at a;injection a with a
   subst a;refine⟨if o=e.fr then v+k else v-k, ?_, ?_, ?_⟩
   ·rw[List.getElem?_set_self (lG hx)]
   ·split<;>push_cast<;>omega
   ·split<;>push_cast<;>omega
  ·exact⟨v,by rw[List.getElem?_set_ne hj];exact a,by push_cast;omega,by push_cast;omega⟩
 ·exact⟨v,a,by push_cast;omega,by push_cast;omega⟩
theorem xW{es2:List Ed}{e:Ed}(h:es2[i]?=some e):ft k es2 (i,o)=es2.set i { e with now:=if o=e.fr then e.now+k else e.now-k }:=by unfold ft;simp only[h]
theorem F2(k:Int)(a:List Ed)(p:Nat×Nat)(l:List (Nat×Nat)):iu k a (p::l)=iu k (ft k a p) l:=rfl
end
end Go.Proofs.YtbillnhcmkpohaaGreatDoor
namespace Go.Proofs.YtbillnhcmkpohaaGreatDoor
open Go Go.RowKit
section
variable{T args:Array Value}{d f i n:Nat}{v:Value}{U V:World}
def aq(n:Nat)(T:Array Value)(l:List (Nat×Value)):Prop:=T.size=n∧∀p∈l,T[p.1]?=some p.2
theorem aq.nil(h:T.size=n):aq n T []:=⟨h,fun _ h=>by cases h⟩
theorem aq.cons{l:List (Nat×Value)}(h:T[i]?=some v)(k:aq n T l):aq n T ((i,v)::l):=⟨k.1,fun p a=>by
 rcases List.mem_cons.1 a with rfl | a
 ·exact h
 ·exact k.2 p a⟩
theorem yY:∀{l:List (Nat×Value)},l.lookup i=some v→(i,v)∈l
 | (j,u)::l,h=>by
  unfold List.lookup at h;split at h
  ·rename_i a;injection h with h
   subst h;rw[beq_iff_eq.1 a];exact List.mem_cons_self
  ·exact List.mem_cons_of_mem _ (yY h)
theorem aq.get{l:List (Nat×Value)}(h:aq n T l)(i:Nat)(v:Value)(a:l.lookup i=some v:=by rfl):T[i]?=some v:=h.2 _ (yY a)
theorem aq.put{l:List (Nat×Value)}(h:aq n T l)(b:d<n)(c:(l.all fun p=>p.1 != d)=true):aq n (T.setIfInBounds d v) ((d,v)::l):=by
 refine aq.cons ?_ ⟨by rw[Array.size_setIfInBounds];exact h.1,fun p a=>?_⟩
 ·rw[Array.getElem?_setIfInBounds_self_of_lt (by rw[h.1];exact b)]
 ·have:=List.all_eq_true.1 c p a;rw[Array.getElem?_setIfInBounds_ne (fun e=>by rw[e]at this;simp at this)]
  exact h.2 p a
theorem aq.g{l:List (Nat×Value)}(h:aq n T l)(i:Nat)(a:l.lookup i=some v:=by rfl):T[i]?=some v:=h.get i v a
def bm(n m:Nat):Array Bool:=((List.range n).map fun i=>m.testBit i).toArray
def bJ(m k:Nat):Array Bool:=(List.replicate k true++List.replicate (m-k) false).toArray
section
variable {P:Program} {ops:Array Oper} {Q:Exit→Act→World→Prop} {md:Region.Mode} {S:World→Prop} {fuel m n:Nat} {w:World} {T:Array Value} {l:List (Nat×Value)}
def jX(ops:Array Oper)(T:Array Value)(o:Oper):Prop:=Region.wanted o (yielded ops T)=true
theorem oN{o:Oper}(h:o.guard=none):jX ops T o:=by unfold jX Region.wanted;rw[h]
theorem oO{o:Oper}{g:Nat}{b:Bool}(h:o.guard=some (g,b))(c:((ops[g]?).bind fun o=>o.dst)=some d)(a:T[d]?=some (.bool b)):jX ops T o:=by unfold jX Region.wanted yielded;rw[h];simp[c,a]
theorem rI(g d:Nat){o:Oper}(H:aq n T l)(h:o.guard=some (g,true):=by kernel_rfl)(a:((ops[g]?).bind fun o=>o.dst)=some d:=by kernel_rfl)(b:l.lookup d=some (.bool true):=by rfl):jX ops T o:=oO h a (H.get d _ b)
theorem I6(g d:Nat){o:Oper}(H:aq n T l)(h:o.guard=some (g,false):=by kernel_rfl)(a:((ops[g]?).bind fun o=>o.dst)=some d:=by kernel_rfl)(b:l.lookup d=some (.bool false):=by rfl):jX ops T o:=oO h a (H.get d _ b)
theorem bM(k d:Nat)(v:Value)(H:aq n T l)(h:∀T',aq n T' ((d,v)::l)→wpAnyH P md ops Q S fuel (bJ m (k+1)) ⟨T',[]⟩ w)(u:jX ops T (ay ops k):=by exact oN (by kernel_rfl))(y:∀w,S w→(execOp (Act.eval ⟨T,[]⟩) (ay ops k)).run P w=.ok (.value v) w:=by
   generalize e:ay _ _=o;conv at e=>lhs;whnf
   subst e;intro w hSw
   (repeat(have hx:=hSw.1;replace hSw:=hSw.2))
   go_simp)(t:ops[k]?=some (ay ops k):=by kernel_rfl)(g:kB md ops (bJ m k) k=true:=by kernel_rfl)(s:(ay ops k).dst=some d:=by kernel_rfl)(b:(l.all fun p=>p.1 != d)=true:=by rfl)(j:d<n:=by decide)(x:(bJ m k).setIfInBounds k true=bJ m (k+1):=by kernel_rfl)(r:S w:=by assumption)(q:∀c a w,Q (.panic c) (a.put (ay ops k).dst v) w→Q (.panic c) a w:=by exact fun _ _ _ h=>h):wpAnyH P md ops Q S (fuel+1) (bJ m k) ⟨T,[]⟩ w:=by
 simp only[kB,Bool.and_eq_true]at g;refine wpAnyH_take t g.1.1 g.1.2 g.2 q (Or.inl ⟨u,y⟩) r ?_;rw[x,show(Act.put ⟨T,[]⟩ (ay ops k).dst v)=⟨T.setIfInBounds d v,[]⟩by rw[s];rfl]
 exact h _ (H.put j b)
theorem lP(k d:Nat)(v:Value)(w':World)(H:aq n T l)(h:∀T',aq n T' ((d,v)::l)→wpAnyH P md ops Q S fuel (bJ m (k+1)) ⟨T',[]⟩ w')(c:S w')(r:jX ops T (ay ops k):=by exact oN (by kernel_rfl))(t:(execOp (Act.eval ⟨T,[]⟩) (ay ops k)).run P w=.ok (.value v) w':=by
   generalize e:ay _ _=o;conv at e=>lhs;whnf
   subst e;go_simp)(q:ops[k]?=some (ay ops k):=by kernel_rfl)(g:Region.ready md ops (bJ m k)=[k]:=by kernel_rfl)(j:(ay ops k).dst=some d:=by kernel_rfl)(a:(l.all fun p=>p.1 != d)=true:=by rfl)(b:d<n:=by decide)(s:(bJ m k).setIfInBounds k true=bJ m (k+1):=by kernel_rfl):wpAnyH P md ops Q S (fuel+1) (bJ m k) ⟨T,[]⟩ w:=by
 refine wpAnyH_ready g (by simp) (AllReadyH.cons q (fun u hK=>?_) AllReadyH.nil)
 rw[if_pos (show Region.wanted (ay ops k) (yielded ops T)=true from r)]
 unfold Oper.wp;rw[t,Oper.upon_value,show(Act.put ⟨T,[]⟩ (ay ops k).dst v)=⟨T.setIfInBounds d v,[]⟩by rw[j];rfl]
 refine hK.out _ _ c fun _=>?_
 rw[s];exact h _ (H.put b a)
theorem fA(k d f:Nat)(args:Array Value){R:Value→World→Prop}(H:aq n T l)(hc:Calls P f args w fun e w'=>∃v,e=.returned v∧S w'∧R v w')(h:∀v w' T',S w'→R v w'→aq n T' ((d,v)::l)→wpAnyH P md ops Q S fuel (bJ m (k+1)) ⟨T',[]⟩ w')(t:jX ops T (ay ops k):=by exact oN (by kernel_rfl))(x:(execOp (Act.eval ⟨T,[]⟩) (ay ops k)).run P w=.ok (.enter f args) w:=by
   generalize e:ay _ _=o;conv at e=>lhs;whnf
   subst e;go_simp)(s:ops[k]?=some (ay ops k):=by kernel_rfl)(q:Region.ready md ops (bJ m k)=[k]:=by kernel_rfl)(r:(ay ops k).dst=some d:=by kernel_rfl)(a:(l.all fun p=>p.1 != d)=true:=by rfl)(b:d<n:=by decide)(u:(bJ m k).setIfInBounds k true=bJ m (k+1):=by kernel_rfl):wpAnyH P md ops Q S (fuel+1) (bJ m k) ⟨T,[]⟩ w:=by
 refine wpAnyH_ready q (by simp) (AllReadyH.cons s (fun g hK=>?_) AllReadyH.nil)
 rw[if_pos (show Region.wanted (ay ops k) (yielded ops T)=true from t)]
 unfold Oper.wp;rw[x,Oper.upon_enter];refine hc.mono ?_;rintro e w' ⟨v,rfl,c,j⟩;show g (Act.put ⟨T,[]⟩ (ay ops k).dst v) w'
 rw[show(Act.put ⟨T,[]⟩ (ay ops k).dst v)=⟨T.setIfInBounds d v,[]⟩by rw[r];rfl]
 refine hK.out _ _ c fun _=>?_
 rw[u];exact h _ _ _ c j (H.put b a)
theorem fJ{a:Value}(b:∀W,BW V W→S W)(h:Calls P f args U fun e w'=>e=.returned a∧BW V w'):Calls P f args U fun e w'=>∃v,e=.returned v∧S w'∧(v=a∧BW V w') :=
 h.mono fun _ _ h=>⟨a,h.1,b _ h.2,rfl,h.2⟩
theorem G6{R:Value→World→Prop}(g:∀W,BW V W→S W)(h:Calls P f args U fun e w'=>∃v,e=.returned v∧R v w'∧BW V w'):Calls P f args U fun e w'=>∃v,e=.returned v∧S w'∧(R v w'∧BW V w') :=
 h.mono fun _ _ ⟨v,b,c,a⟩=>⟨v,b,g _ a,c,a⟩
theorem yZ{c:Code}{r:Nat}{a:Act}(g:∀W,BW V W→S W)(h:∀V0,BW V V0→S V0→wpAnyH P .any ops (NoPanic Q) S m (bJ m 0) a V0)(k:P.follows .mixedOrders=true:=by kernel_rfl)(hc:c=Code.region r ops true:=by kernel_rfl)(o:ops.size=m:=by kernel_rfl)(j:Array.replicate m false=bJ m 0:=by kernel_rfl):c.wp P Q a V:=by subst hc o;rw[←j]at h;have b:=fc (bR V);exact wp_region_noPanic (wp_region_held_drew k (g _ b) fun hh=>h _ b hh)
end
end
section
variable {P:Program} {ops:Array Oper} {Q:Exit→Act→World→Prop} {md:Region.Mode} {S:World→Prop} {fuel m n:Nat} {w:World} {T:Array Value} {l:List (Nat×Value)}
theorem aq.drop{p q:Nat×Value}(h:aq n T (p::q::l)):aq n T (p::l):=⟨h.1,fun x hx=>h.2 x (by
 rcases List.mem_cons.1 hx with rfl | hx
 ·exact List.mem_cons_self
 ·exact List.mem_cons_of_mem _ (List.mem_cons_of_mem _ hx))⟩
structure jY(md:Region.Mode)(ops:Array Oper)(Q:Exit→Act→World→Prop)(m n k d:Nat)(l:List (Nat×Value)):Prop where
 hi:ops[k]?=some (ay ops k):=by kernel_rfl
 hb:kB md ops (bJ m k) k=true:=by kernel_rfl
 hd:(ay ops k).dst=some d:=by kernel_rfl
 hnew:(l.all fun p=>p.1 != d)=true:=by rfl
 hdn:d<n:=by decide
 hu:(bJ m k).setIfInBounds k true=bJ m (k+1):=by kernel_rfl
 hQ:∀c a v w,Q (.panic c) (a.put (ay ops k).dst v) w→Q (.panic c) a w:=by exact fun _ _ _ _ h=>h
theorem oP(k d:Nat)(v:Value)(H:aq n T l)(b:S w)(h:∀T',aq n T' ((d,v)::l)→wpAnyH P md ops Q S fuel (bJ m (k+1)) ⟨T',[]⟩ w)(f:jX ops T (ay ops k))(g:∀w,S w→(execOp (Act.eval ⟨T,[]⟩) (ay ops k)).run P w=.ok (.value v) w)(o:jY md ops Q m n k d l):wpAnyH P md ops Q S (fuel+1) (bJ m k) ⟨T,[]⟩ w :=
 bM k d v H h f g o.hi o.hb o.hd o.hnew o.hdn o.hu b (fun c a w=>o.hQ c a v w)
theorem fB(k d a b:Nat)(H:aq n T l)(h:∀T',aq n T' ((d+1,.bool true)::l)→wpAnyH P md ops Q S fuel (bJ m (k+2)) ⟨T',[]⟩ w)(g:S w:=by assumption)(c:l.lookup a=some (.bool true):=by rfl)(i:l.lookup b=some (.bool true):=by rfl)(t:∀(T:Array Value) w,T[a]?=some (.bool true)→T[b]?=some (.bool true)→(execOp (Act.eval ⟨T,[]⟩) (ay ops k)).run P w=.ok (.value (.bool true)) w:=by
   generalize e:ay _ _=o;conv at e=>lhs;whnf
   subst e;intro T w c i;go_simp)(u:∀(T:Array Value) w,T[d]?=some (.bool true)→(execOp (Act.eval ⟨T,[]⟩) (ay ops (k+1))).run P w=.ok (.value (.bool true)) w:=by
   generalize e:ay _ _=o;conv at e=>lhs;whnf
   subst e;intro T w c;go_simp)(p:(ay ops k).guard=none:=by kernel_rfl)(q:(ay ops (k+1)).guard=none:=by kernel_rfl)(r:jY md ops Q m n k d l:=by exact{})(s:jY md ops Q m n (k+1) (d+1) ((d,.bool true)::l):=by exact{}):wpAnyH P md ops Q S (fuel+2) (bJ m k) ⟨T,[]⟩ w :=
 oP k d (.bool true) H g (fun j f=>oP (k+1) (d+1) (.bool true) f g (fun T2 H2=>h T2 H2.drop) (oN q) (fun w _=>u j w (f.get d _ (by simp[List.lookup]))) s) (oN p) (fun w _=>t T w (H.get a _ c) (H.get b _ i)) r
theorem z6(k d x:Nat)(H:aq n T l)(h:∀T',aq n T' ((d+3,.bool true)::(d+1,.bool true)::l)→wpAnyH P md ops Q S fuel (bJ m (k+4)) ⟨T',[]⟩ w)(a:S w:=by assumption)(c:l.lookup d=some (.bool true):=by rfl)(hx:l.lookup x=some (.bool true):=by rfl)(r:(ay ops (k+1)).guard=some (k,true):=by kernel_rfl)(rd:((ops[k]?).bind fun o=>o.dst)=some d:=by kernel_rfl)(s:∀(T:Array Value) w,T[x]?=some (.bool true)→(execOp (Act.eval ⟨T,[]⟩) (ay ops (k+1))).run P w=.ok (.value (.bool true)) w:=by
   generalize e:ay _ _=o;conv at e=>lhs;whnf
   subst e;intro T w b;go_simp)(t:∀(T:Array Value) w,T[d]?=some (.bool true)→T[d+1]?=some (.bool true)→(execOp (Act.eval ⟨T,[]⟩) (ay ops (k+2))).run P w=.ok (.value (.bool true)) w:=by
   generalize e:ay _ _=o;conv at e=>lhs;whnf
   subst e;intro T w b y;go_simp)(u:∀(T:Array Value) w,T[d+2]?=some (.bool true)→(execOp (Act.eval ⟨T,[]⟩) (ay ops (k+2+1))).run P w=.ok (.value (.bool true)) w:=by
   generalize e:ay _ _=o;conv at e=>lhs;whnf
   subst e;intro T w b;go_simp)(g:(ay ops (k+2)).guard=none:=by kernel_rfl)(i:(ay ops (k+2+1)).guard=none:=by kernel_rfl)(j:jY md ops Q m n (k+1) (d+1) l:=by exact{})(p:jY md ops Q m n (k+2) (d+2) ((d+1,.bool true)::l):=by exact{})(q:jY md ops Q m n (k+2+1) (d+2+1) ((d+2,.bool true)::(d+1,.bool true)::l):=by exact{}):wpAnyH P md ops Q S (fuel+3) (bJ m (k+1)) ⟨T,[]⟩ w :=
 oP (k+1) (d+1) (.bool true) H a (fun v f=>fB (k+2) (d+2) d (d+1) f h a (by
  have:(d==d+1)=false:=by simp
  rw[List.lookup_cons,this];exact c) (by simp[List.lookup]) t u g i p q) (oO r rd (H.get d _ c)) (fun w _=>s T w (H.get x _ hx)) j
theorem dj(k d x:Nat)(v:Value)(H:aq n T l)(h:∀T',aq n T' ((d+4,.bool true)::(d+2,.bool true)::(d+1,v)::l)→wpAnyH P md ops Q S fuel (bJ m (k+5)) ⟨T',[]⟩ w)(b:S w:=by assumption)(f:l.lookup d=some (.bool true):=by rfl)(hx:l.lookup x=some v:=by rfl)(r:(ay ops (k+1)).guard=some (k,true):=by kernel_rfl)(z:(ay ops (k+2)).guard=some (k,true):=by kernel_rfl)(rd:((ops[k]?).bind fun o=>o.dst)=some d:=by kernel_rfl)(A:∀(T:Array Value) w,T[x]?=some v→(execOp (Act.eval ⟨T,[]⟩) (ay ops (k+1))).run P w=.ok (.value v) w:=by
   generalize e:ay _ _=o;conv at e=>lhs;whnf
   subst e;intro T w c;go_simp)(i:∀(T:Array Value) w,T[d+1]?=some v→(execOp (Act.eval ⟨T,[]⟩) (ay ops (k+2))).run P w=.ok (.value (.bool true)) w:=by
   generalize e:ay _ _=o;conv at e=>lhs;whnf
   subst e;intro T w c;go_simp)(B:∀(T:Array Value) w,T[d]?=some (.bool true)→T[d+2]?=some (.bool true)→(execOp (Act.eval ⟨T,[]⟩) (ay ops (k+3))).run P w=.ok (.value (.bool true)) w:=by
   generalize e:ay _ _=o;conv at e=>lhs;whnf
   subst e;intro T w c D;go_simp)(C:∀(T:Array Value) w,T[d+3]?=some (.bool true)→(execOp (Act.eval ⟨T,[]⟩) (ay ops (k+3+1))).run P w=.ok (.value (.bool true)) w:=by
   generalize e:ay _ _=o;conv at e=>lhs;whnf
   subst e;intro T w c;go_simp)(q:(ay ops (k+3)).guard=none:=by kernel_rfl)(s:(ay ops (k+3+1)).guard=none:=by kernel_rfl)(t:jY md ops Q m n (k+1) (d+1) l:=by exact{})(g:jY md ops Q m n (k+2) (d+2) ((d+1,v)::l):=by exact{})(u:jY md ops Q m n (k+3) (d+3) ((d+2,.bool true)::(d+1,v)::l):=by exact{})(y:jY md ops Q m n (k+3+1) (d+3+1) ((d+3,.bool true)::(d+2,.bool true)::(d+1,v)::l):=by exact{}):wpAnyH P md ops Q S (fuel+4) (bJ m (k+1)) ⟨T,[]⟩ w:=by
 have j:(d==d+1)=false:=by simp
 have n2:(d==d+2)=false:=by simp
 refine oP (k+1) (d+1) v H b (fun p a=>oP (k+2) (d+2) (.bool true) a b (fun T1 H1=>fB (k+3) (d+3) d (d+2) H1 h b ?_ (by simp[List.lookup]) B C q s u y) (oO z rd (a.get d _ ?_)) (fun w _=>i p w (a.get (d+1) _ (by simp[List.lookup]))) g) (oO r rd (H.get d _ f)) (fun w _=>A T w (H.get x _ hx)) t
 ·rw[List.lookup_cons,n2,List.lookup_cons,j];exact f
 ·rw[List.lookup_cons,j];exact f
end
end Go.Proofs.YtbillnhcmkpohaaGreatDoor
namespace Go.Proofs.YtbillnhcmkpohaaGreatDoor

theorem nI(c:Int)(a:Nat)(d:List Ed)(b:List Int)(l:List Nat):∀(ps:List Ed) (i:Nat),(∀x∈ps,∀j,bY c a j x b=true)→aP c a i (ps++d) b l=aP c a (i+ps.length) d b l
 | [],i,_=>by simp
 | p::ps,i,h=>by
  rw[List.cons_append,aP,if_pos (h p (List.mem_cons_self ..) i),nI c a d b l ps (i+1) fun x hx j=>h x (List.mem_cons_of_mem _ hx) j,List.length_cons]
  congr 1
  omega
def aD(lo hi t rest:Int)(ps:List Ed)(g:Int):List Ed:=⟨2,0,lo,hi,t⟩::⟨0,2,rest,rest,rest⟩::(ps++[⟨1,2, -1099511627776,1099511627776,g⟩])
def lS(ps:List Ed):Prop:=∀x∈ps,x.fr=0∧x.en=1∧x.hi=x.now∧x.lo=x.now
def gV(ps:List Ed):Prop:=∀x∈ps,x.fr=0∧x.en=1∧x.lo=x.now
theorem lS.free{a:List Ed}(h:lS a):gV a:=fun x hx=>⟨(h x hx).1,(h x hx).2.1,(h x hx).2.2.2⟩
theorem Ic{c:List Ed}(h:gV c)(a:Int)(b:List Int):∀x∈c,∀j,bY a 1 j x b=true:=fun x hx j=>by obtain⟨h1,h2,h3⟩:=h x hx;simp[bY,Ed.room,h1,h3]
theorem AE{c:List Ed}(h:gV c)(a:Int)(b:List Int):∀x∈c,∀j,bY a 2 j x b=true:=fun x hx j=>by obtain⟨h1,h2,h3⟩:=h x hx;simp[bY,h1,h2]
theorem Id{c:List Ed}(h:lS c)(a:Int)(b:List Int):∀x∈c,∀j,bY a 0 j x b=true:=fun x hx j=>by obtain⟨h1,h2,h3,h4⟩:=h x hx;simp[bY,Ed.room,h1,h3]
theorem qm(j i t rest g a:Int)(b:List Ed)(d f c:Int)(l:List Nat)(h:gV b) :
  aP a 1 0 (aD j i t rest b g) [d,f,c] l=if((b.length+2:Nat):Int)=a∨1099511627776-g≤0∨c≠0 then([d,f,c],l)else([d,f,((b.length+2:Nat):Int)+1],l++[2]):=by
 unfold aD;rw[aP,if_pos (by simp[bY]),aP,if_pos (by simp[bY]),nI _ _ _ _ _ _ _ (Ic h a _),aP]
 have e:0+1+1+b.length=b.length+2:=by omega
 rw[e];by_cases hc:((b.length+2:Nat):Int)=a∨1099511627776-g≤0∨c≠0
 ·rw[if_pos hc,if_pos]
  ·rfl
  ·simp only[bY,Ed.room,Ed.other];simp;rcases hc with h | h | h
   ·left;left;push_cast at h;omega
   ·left;right;omega
   ·right;exact h
 ·rw[if_neg hc,if_neg]
  ·rfl
  ·simp only[bY,Ed.room,Ed.other];simp;omega
theorem sW(k i t rest g a:Int)(b:List Ed)(f c d:Int)(l:List Nat)(h:gV b)(m:a≠0)(n:0<i-t)(j:f=0) :
  aP a 2 0 (aD k i t rest b g) [f,c,d] l=if((b.length+2:Nat):Int)=a∨g+1099511627776≤0∨c≠0 then([1,c,d],l++[0])else([1,((b.length+2:Nat):Int)+1,d],l++[0]++[1]):=by
 unfold aD;rw[aP,if_neg (by simp[bY,Ed.room,Ed.other,j];omega),aP,if_pos (by simp[bY,Ed.room]),nI _ _ _ _ _ _ _ (AE h a _),aP]
 have e:0+1+1+b.length=b.length+2:=by omega
 rw[e];by_cases hc:((b.length+2:Nat):Int)=a∨g+1099511627776≤0∨c≠0
 ·rw[if_pos hc,if_pos]
  ·rfl
  ·simp only[bY,Ed.room,Ed.other];simp;rcases hc with h | h | h
   ·left;left;push_cast at h;omega
   ·left;right;omega
   ·right;exact h
 ·rw[if_neg hc,if_neg]
  ·rfl
  ·simp only[bY,Ed.room,Ed.other];simp;omega
theorem Ie(k i t rest g a:Int)(b:List Ed)(c d f:Int)(l:List Nat)(h:gV b)(m:i-t≤0∨c≠0)(j:((b.length+2:Nat):Int)=a∨d≠0) :
  aP a 2 0 (aD k i t rest b g) [c,d,f] l=([c,d,f],l):=by
 unfold aD;have e:0+1+1+b.length=b.length+2:=by omega
 rw[aP,if_pos (by simp[bY,Ed.room,Ed.other];omega),aP,if_pos (by simp[bY,Ed.room]),nI _ _ _ _ _ _ _ (AE h a _),aP,e,if_pos]
 ·rfl
 ·simp only[bY,Ed.room,Ed.other];simp;rcases j with h | h
  ·left;left;push_cast at h;omega
  ·right;exact h
theorem If(f j t rest g a:Int)(i:List Ed)(c d b:Int)(l:List Nat)(h:lS i)(k:t-f≤0∨b≠0) :
  aP a 0 0 (aD f j t rest i g) [c,d,b] l=([c,d,b],l):=by
 unfold aD;rw[aP,if_pos (by simp[bY,Ed.room,Ed.other];omega),aP,if_pos (by simp[bY,Ed.room]),nI _ _ _ _ _ _ _ (Id h a _),aP,if_pos (by simp[bY])]
 rfl
theorem ku(c b t rest g:Int)(a:List Ed):(aD c b t rest a g)[a.length+2]?=some ⟨1,2, -1099511627776,1099511627776,g⟩:=by unfold aD;simp
theorem sX(d c t rest g b:Int)(a:List Ed):(aD d c t rest a g).set (a.length+2) ⟨1,2, -1099511627776,1099511627776,b⟩=aD d c t rest a b:=by unfold aD;simp[List.set_append_right]
theorem qo(b a t rest g:Int)(c:List Ed):(aD b a t rest c g)[0]?=some ⟨2,0,b,a,t⟩:=rfl
theorem sY(k c b t rest g:Int)(a:List Ed):ft k (aD c b t rest a g) (a.length+2,1)=aD c b t rest a (g+k):=by unfold ft;rw[ku];simp only[if_true];exact sX ..
theorem AF(k b a t rest g:Int)(c:List Ed):ft k (aD b a t rest c g) (0,2)=aD b a (t+k) rest c g:=rfl
theorem Ig(f d t rest g b:Int)(c:List Ed)(a:Nat→Int)(h:gV c)(m:0<1099511627776-g)(l:0<a 2) :
  dV (aD f d t rest c g) 3 1 b (-1) a=some (min (min b (a 2)) (1099511627776-g),2,aD f d t rest c (g+min (min b (a 2)) (1099511627776-g))):=by
 have k:cI (aD f d t rest c g) (-1) 1 a 4 [0, -1,0] [1]=some (some (2,[0, -1,((c.length+2:Nat):Int)+1])):=by
  rw[cI,if_neg (by simp),qm _ _ _ _ _ _ _ _ _ _ _ h,if_neg (by simp;omega)]
  simp only[List.nil_append];rw[cI,if_pos ⟨by decide,l⟩]
 have j:cZ (aD f d t rest c g) [0, -1,((c.length+2:Nat):Int)+1] 1 4 2=some [(c.length+2,1)]:=by
  rw[cZ,if_neg (by decide),if_neg (by simp;omega)]
  have e:(([0, -1,((c.length+2:Nat):Int)+1]:List Int).getD 2 0-1).toNat=c.length+2:=by simp;omega
  simp only[e,ku];rw[if_pos (by simp)]
  rw[cZ,if_pos (by rfl)]
  rfl
 unfold dV;have i:(List.replicate 3 (0:Int)).set 1 (-1)=[0, -1,0]:=rfl;simp only[i,k,j];have el:dU (aD f d t rest c g) (min b (a 2)) [(c.length+2,1)]=min (min b (a 2)) (1099511627776-g):=by simp[dU,ku,Ed.room]
 rw[el];simp only[iu,List.foldl_cons,List.foldl_nil,sY]
theorem AG(f d t rest g b:Int)(c:List Ed)(a:Nat→Int)(h:gV c)(p:0<1099511627776-g)(m:0<d-t)(o:a 2≤0)(n:0<a 0) :
  dV (aD f d t rest c g) 3 1 b (-1) a=some (min (min (min b (a 0)) (d-t)) (1099511627776-g),0,aD f d (t+min (min (min b (a 0)) (d-t)) (1099511627776-g)) rest c (g+min (min (min b (a 0)) (d-t)) (1099511627776-g))):=by
 have l:cI (aD f d t rest c g) (-1) 1 a 4 [0, -1,0] [1]=some (some (0,[1, -1,((c.length+2:Nat):Int)+1])):=by
  rw[cI,if_neg (by simp),qm _ _ _ _ _ _ _ _ _ _ _ h,if_neg (by simp;omega)]
  simp only[List.nil_append];rw[cI,if_neg (by simp;omega),sW _ _ _ _ _ _ _ _ _ _ _ h (by decide) m rfl,if_pos (by simp)]
  simp only[List.nil_append];rw[cI,if_pos ⟨by decide,n⟩]
 have k:cZ (aD f d t rest c g) [1, -1,((c.length+2:Nat):Int)+1] 1 4 0=some [(0,2),(c.length+2,1)]:=by
  rw[cZ,if_neg (by decide),if_neg (by simp)]
  have e0:(([1, -1,((c.length+2:Nat):Int)+1]:List Int).getD 0 0-1).toNat=0:=rfl;simp only[e0,qo];rw[if_pos (by simp)]
  have j:Ed.other ⟨2,0,f,d,t⟩ 0=2:=rfl;rw[j,cZ,if_neg (by decide),if_neg (by simp;omega)]
  have e:(([1, -1,((c.length+2:Nat):Int)+1]:List Int).getD 2 0-1).toNat=c.length+2:=by simp;omega
  simp only[e,ku];rw[if_pos (by simp)]
  rw[cZ,if_pos (by rfl)]
  rfl
 unfold dV;have i:(List.replicate 3 (0:Int)).set 1 (-1)=[0, -1,0]:=rfl;simp only[i,l,k];have el:dU (aD f d t rest c g) (min b (a 0)) [(0,2),(c.length+2,1)]=min (min (min b (a 0)) (d-t)) (1099511627776-g):=by simp[dU,ku,qo,Ed.room]
 rw[el];simp only[iu,List.foldl_cons,List.foldl_nil,sY,AF]
theorem AH(f c t rest g b:Int)(d:List Ed)(a:Nat→Int)(h:gV d)(m:0<c-t)(o:0<g+1099511627776)(n:0<a 0) :
  dV (aD f c t rest d g) 3 2 b (-1) a=some (min (min b (a 0)) (c-t),0,aD f c (t+min (min b (a 0)) (c-t)) rest d g):=by
 have l:cI (aD f c t rest d g) (-1) 2 a 4 [0,0, -1] [2]=some (some (0,[1,((d.length+2:Nat):Int)+1, -1])):=by
  rw[cI,if_neg (by simp),sW _ _ _ _ _ _ _ _ _ _ _ h (by decide) m rfl,if_neg (by simp;omega)]
  simp only[List.nil_append,List.cons_append];rw[cI,if_pos ⟨by decide,n⟩]
 have k:cZ (aD f c t rest d g) [1,((d.length+2:Nat):Int)+1, -1] 2 4 0=some [(0,2)]:=by
  rw[cZ,if_neg (by decide),if_neg (by simp)]
  have e0:(([1,((d.length+2:Nat):Int)+1, -1]:List Int).getD 0 0-1).toNat=0:=rfl;simp only[e0,qo];rw[if_pos (by simp)]
  have j:Ed.other ⟨2,0,f,c,t⟩ 0=2:=rfl;rw[j,cZ,if_pos (by rfl)]
  rfl
 unfold dV;have i:(List.replicate 3 (0:Int)).set 2 (-1)=[0,0, -1]:=rfl;simp only[i,l,k];have el:dU (aD f c t rest d g) (min b (a 0)) [(0,2)]=min (min b (a 0)) (c-t):=by simp[dU,qo,Ed.room]
 rw[el];simp only[iu,List.foldl_cons,List.foldl_nil,AF]
theorem Ih(f d t rest g c:Int)(b:List Ed)(a:Nat→Int)(h:gV b):dV (aD f d t rest b g) 3 1 c ((b.length+2:Nat):Int) a=some (0,0,aD f d t rest b g):=by
 have j:cI (aD f d t rest b g) ((b.length+2:Nat):Int) 1 a 4 [0, -1,0] [1]=some none:=by
  rw[cI,if_neg (by simp),qm _ _ _ _ _ _ _ _ _ _ _ h,if_pos (.inl rfl)]
  rfl
 unfold dV;have i:(List.replicate 3 (0:Int)).set 1 (-1)=[0, -1,0]:=rfl;simp only[i,j]
theorem Ii(f d t rest g c:Int)(b:List Ed)(a:Nat→Int)(h:lS b)(k:a 0≤0):dV (aD f d t rest b g) 3 2 c ((b.length+2:Nat):Int) a=some (0,0,aD f d t rest b g):=by
 have j:cI (aD f d t rest b g) ((b.length+2:Nat):Int) 2 a 4 [0,0, -1] [2]=some none:=by
  by_cases ht:0<d-t
  ·rw[cI,if_neg (by simp),sW _ _ _ _ _ _ _ _ _ _ _ h.free (by push_cast;omega) ht rfl,if_pos (.inl rfl)]
   simp only[List.nil_append];rw[cI,if_neg (by omega),If _ _ _ _ _ _ _ _ _ _ _ h (.inr (by decide))]
   rfl
  ·rw[cI,if_neg (by simp),Ie _ _ _ _ _ _ _ _ _ _ _ h.free (.inl (by omega)) (.inl rfl)]
   rfl
 unfold dV;have i:(List.replicate 3 (0:Int)).set 2 (-1)=[0,0, -1]:=rfl;simp only[i,j]
theorem Ij(c f rest g b x:Int)(d:List Ed)(a:Nat→Int)(h:gV (⟨0,1,0,x,0⟩::d))(hx:0<x)(v:0<1099511627776-g)(u:a 1≤0)(t:0<a 2) :
  dV (aD c f c rest (⟨0,1,0,x,0⟩::d) g) 3 0 b (-1) a=some (min (min (min b (a 2)) (1099511627776-g)) x,2,aD c f c rest (⟨0,1,0,x,min (min (min b (a 2)) (1099511627776-g)) x⟩::d) (g+min (min (min b (a 2)) (1099511627776-g)) x)):=by
 have r:gV d:=fun y m=>h y (List.mem_cons_of_mem _ m)
 have l:aP (-1) 0 0 (aD c f c rest (⟨0,1,0,x,0⟩::d) g) [-1,0,0] []=([-1,3,0],[1]):=by
  unfold aD;rw[List.cons_append,aP,if_pos (by simp[bY,Ed.room]),aP,if_pos (by simp[bY,Ed.room]),aP,if_neg (by simp[bY,Ed.room,Ed.other];omega)]
  have i:Ed.other ⟨0,1,0,x,0⟩ 0=1:=rfl;rw[i,nI,aP,if_pos (by simp[bY])]
  ·rfl
  ·intro y m j;obtain⟨h1,h2,h3⟩:=r y m;simp[bY,Ed.other,h1,h2]
 have s:cI (aD c f c rest (⟨0,1,0,x,0⟩::d) g) (-1) 0 a 4 [-1,0,0] [0]=some (some (2,[-1,3,(((⟨0,1,0,x,0⟩::d:List Ed).length+2:Nat):Int)+1])):=by
  rw[cI,if_neg (by simp),l]
  simp only[];rw[cI,if_neg (by omega),qm _ _ _ _ _ _ _ _ _ _ _ h,if_neg (by simp;omega)]
  simp only[List.nil_append];rw[cI,if_pos ⟨by decide,t⟩]
 have p:cZ (aD c f c rest (⟨0,1,0,x,0⟩::d) g) [-1,3,(((⟨0,1,0,x,0⟩::d:List Ed).length+2:Nat):Int)+1] 0 4 2=some [((⟨0,1,0,x,0⟩::d:List Ed).length+2,1),(2,0)]:=by
  rw[cZ,if_neg (by decide),if_neg (by simp;omega)]
  have e:(([-1,3,(((⟨0,1,0,x,0⟩::d:List Ed).length+2:Nat):Int)+1]:List Int).getD 2 0-1).toNat=(⟨0,1,0,x,0⟩::d:List Ed).length+2:=by simp;omega
  simp only[e,ku];rw[if_pos (by simp)]
  have i:Ed.other ⟨1,2, -1099511627776,1099511627776,g⟩ 2=1:=rfl;rw[i,cZ,if_neg (by decide),if_neg (by simp)]
  have e0:(([-1,3,(((⟨0,1,0,x,0⟩::d:List Ed).length+2:Nat):Int)+1]:List Int).getD 1 0-1).toNat=2:=rfl;have e2:(aD c f c rest (⟨0,1,0,x,0⟩::d) g)[2]?=some ⟨0,1,0,x,0⟩:=rfl;simp only[e0,e2];rw[if_pos (by simp)]
  have o:Ed.other ⟨0,1,0,x,0⟩ 1=0:=rfl;rw[o,cZ,if_pos (by rfl)]
  rfl
 unfold dV;have n:(List.replicate 3 (0:Int)).set 0 (-1)=[-1,0,0]:=rfl;simp only[n,s,p];have e2:(aD c f c rest (⟨0,1,0,x,0⟩::d) g)[2]?=some ⟨0,1,0,x,0⟩:=rfl;have el:dU (aD c f c rest (⟨0,1,0,x,0⟩::d) g) (min b (a 2)) [((⟨0,1,0,x,0⟩::d:List Ed).length+2,1),(2,0)]=min (min (min b (a 2)) (1099511627776-g)) x:=by simp only[dU,List.foldl_cons,List.foldl_nil,ku,e2,Ed.room];simp
 rw[el];obtain⟨k,q⟩:∃k,k=min (min (min b (a 2)) (1099511627776-g)) x:=⟨_,rfl⟩;rw[←q];simp only[iu,List.foldl_cons,List.foldl_nil,sY];have e5:(aD c f c rest (⟨0,1,0,x,0⟩::d) (g+k))[2]?=some ⟨0,1,0,x,0⟩:=rfl;unfold ft;simp only[e5];simp[aD]
def gG(ps:List Ed):Int:=(ps.map Ed.now).sum
theorem AI:∀(ps:List Ed) (a b c:Int),gV ps→ps.foldl (fun(o:List Int) (e:Ed)=>(o.set e.fr (o.getD e.fr 0-e.now)).set e.en ((o.set e.fr (o.getD e.fr 0-e.now)).getD e.en 0+e.now)) [a,b,c]=[a-gG ps,b+gG ps,c]
 | [],a,b,c,_=>by simp[gG]
 | p::ps,a,b,c,h=>by
  obtain⟨d,f,_⟩:=h p (List.mem_cons_self ..);rw[List.foldl_cons,d,f];have e:((([a,b,c]:List Int).set 0 (([a,b,c]:List Int).getD 0 0-p.now)).set 1 ((([a,b,c]:List Int).set 0 (([a,b,c]:List Int).getD 0 0-p.now)).getD 1 0+p.now))=[a-p.now,b+p.now,c]:=rfl;rw[e,AI ps _ _ _ fun y hy=>h y (List.mem_cons_of_mem _ hy)]
  simp only[gG,List.map_cons,List.sum_cons]
  congr 1
  ·omega
  ·congr 1
   omega
theorem AJ(c b t rest g:Int)(a:List Ed)(h:gV a):ly 3 (aD c b t rest a g)=[t-rest-gG a,gG a-g,rest-t+g]:=by
 unfold ly aD;rw[List.foldl_cons,List.foldl_cons,List.foldl_append];have e:(List.replicate 3 (0:Int))=[0,0,0]:=rfl;rw[e];simp only[List.set_cons_zero,List.set_cons_succ,List.getD_cons_zero,List.getD_cons_succ];rw[AI _ _ _ _ h,List.foldl_cons,List.foldl_nil];simp only[List.set_cons_zero,List.set_cons_succ,List.getD_cons_zero,List.getD_cons_succ]
 congr 1
 ·omega
 ·congr 1
  ·omega
  ·congr 1
   omega
def aw(x:Int):Prop:=0≤x∧x≤1000000
theorem lU(b a t rest g:Int)(c:List Ed)(f:aw b)(h:aw a)(i:aw t)(j:aw rest)(k:aw g)(d:c.all (bP 3)=true):(aD b a t rest c g).all (bP 3)=true:=by unfold aw at *;unfold aD;rw[List.all_cons,List.all_cons,List.all_append,d];simp[bP];omega
theorem nJ(a b c:Int)(d:-4000000≤a∧a≤4000000)(f:-4000000≤b∧b≤4000000)(g:-4000000≤c∧c≤4000000):[a,b,c].all (fun n=>decide (-4000000000000≤n∧n≤4000000000000))=true:=by simp;omega
theorem il(a f:Nat)(o:List Int)(b:List Ed)(h:o.getD a 0≤0):fP 3 a (f+1) o b=some (true,o,b):=by rw[fP,if_pos h]
theorem nK(a f:Nat)(o:List Int)(c:List Ed)(k:Int)(t:Nat)(b:List Ed)(h:0<o.getD a 0)(d:c.all (bP 3)=true)(g:o.all (fun n=>decide (-4000000000000≤n∧n≤4000000000000))=true)(j:dV c 3 a (o.getD a 0) (-1) (fun n=>- o.getD n 0)=some (k,t,b))(i:k≠0) :
  fP 3 a (f+1) o c=fP 3 a f ((o.set a (o.getD a 0-k)).set t ((o.set a (o.getD a 0-k)).getD t 0+k)) b:=by
 rw[fP,if_neg (by omega),if_neg (by rw[d,g];simp),j]
 simp only[if_neg i]
theorem AK(d i rest:Int)(f:List Ed)(h:lS f)(l:f.all (bP 3)=true)(N:0≤gG f)(K:aw d)(L:aw i)(M:aw rest)(y:d≤rest+gG f)(x:rest+gG f≤i) :
  dW 3 3 (aD d i d rest f 0)=some (true,aD d i (rest+gG f) rest f (gG f)):=by
 have o:=h.free;unfold dW;rw[AJ _ _ _ _ _ _ o];generalize gG f=G at *;unfold aw at *;have hr:List.range 3=[0,1,2]:=rfl;rw[hr,cG,il 0 2 _ _ (by simp;omega)]
 simp only[]
 -- behind the outside's rounds
 have p:∀(t g:Int),0≤t→t≤i→rest+G-t≥0→0≤g→g≤1000000→d≤t→([-(rest+G-t),0,rest+G-t]:List Int).length=3 →
   (match fP 3 2 3 [-(rest+G-t),0,rest+G-t] (aD d i t rest f g)with | none=>none | some (false,_,es')=>some (false,es') | some (true,o',es')=>cG 3 3 [] o' es')=some (true,aD d i (rest+G) rest f g):=by
  intro t g A B s u v z _;by_cases hz:rest+G-t=0
  ·rw[il 2 2 _ _ (by simp;omega)]
   simp only[cG];have:t=rest+G:=by omega
   rw[this]
  ·have j:=AH d i t rest g (rest+G-t) f (fun n=>- ([-(rest+G-t),0,rest+G-t]:List Int).getD n 0) o (by omega) (by omega) (by simp;omega)
   simp only[List.getD_cons_zero,Int.neg_neg]at j;have m:min (min (rest+G-t) (rest+G-t)) (i-t)=rest+G-t:=by omega
   rw[m]at j;rw[nK 2 2 _ _ _ _ _ (by simp;omega) (lU _ _ _ _ _ _ (by unfold aw;omega) (by unfold aw;omega) (by unfold aw;omega) (by unfold aw;omega) (by unfold aw;omega) l) (nJ _ _ _ (by omega) (by omega) (by omega)) j (by omega)]
   rw[il 2 1 _ _ (by simp)]
   simp only[cG];have:t+(rest+G-t)=rest+G:=by omega
   rw[this]
 have k:∀(a b c t g:Int),a = -(rest+G-t)→b=0→c=rest+G-t→0≤t→t≤i→rest+G-t≥0→0≤g→g≤1000000→d≤t→g=G →
   (match fP 3 2 3 [a,b,c] (aD d i t rest f g)with | none=>none | some (false,_,es')=>some (false,es') | some (true,o',es')=>cG 3 3 [] o' es')=some (true,aD d i (rest+G) rest f G):=by
  intro a b c t g q r hc C D E F H I J;subst q r hc J;exact p t g C D E F H I rfl
 by_cases hG0:G=0
 ·rw[cG,il 1 2 _ _ (by simp;omega)]
  simp only[];rw[cG];exact k _ _ _ _ _ (by omega) (by omega) (by omega) (by omega) (by omega) (by omega) (by omega) (by omega) (by omega) (by omega)
 by_cases s:0<d-rest
 ·have j:=Ig d i d rest 0 (G-0) f (fun n=>- ([d-rest-G,G-0,rest-d+0]:List Int).getD n 0) o (by omega) (by simp;omega)
  have m:min (min (G-0) (- (rest-d+0))) (1099511627776-0)=d-rest:=by omega
  simp only[List.getD_cons_zero,List.getD_cons_succ]at j;rw[m]at j;rw[cG,nK 1 2 _ _ _ _ _ (by simp;omega) (lU _ _ _ _ _ _ (by unfold aw;omega) (by unfold aw;omega) (by unfold aw;omega) (by unfold aw;omega) (by unfold aw;omega) l) (nJ _ _ _ (by omega) (by omega) (by omega)) j (by omega)]
  simp only[List.set_cons_zero,List.set_cons_succ,List.getD_cons_zero,List.getD_cons_succ];by_cases he:G-0-(d-rest)≤0
  ·rw[il 1 1 _ _ (by simp;omega)]
   simp only[];rw[cG];exact k _ _ _ _ _ (by omega) (by omega) (by omega) (by omega) (by omega) (by omega) (by omega) (by omega) (by omega) (by omega)
  ·have j:=AG d i d rest (0+(d-rest)) (G-0-(d-rest)) f (fun n=>- ([d-rest-G,G-0-(d-rest),rest-d+0+(d-rest)]:List Int).getD n 0) o (by omega) (by omega) (by simp;omega) (by simp;omega)
   have m:min (min (min (G-0-(d-rest)) (- (d-rest-G))) (i-d)) (1099511627776-(0+(d-rest)))=G-(d-rest):=by omega
   simp only[List.getD_cons_zero]at j;rw[m]at j;rw[nK 1 1 _ _ _ _ _ (by simp;omega) (lU _ _ _ _ _ _ (by unfold aw;omega) (by unfold aw;omega) (by unfold aw;omega) (by unfold aw;omega) (by unfold aw;omega) l) (nJ _ _ _ (by omega) (by omega) (by omega)) j (by omega)]
   simp only[List.set_cons_zero,List.set_cons_succ,List.getD_cons_zero,List.getD_cons_succ];rw[il 1 0 _ _ (by simp)]
   simp only[];rw[cG];exact k _ _ _ _ _ (by omega) (by omega) (by omega) (by omega) (by omega) (by omega) (by omega) (by omega) (by omega) (by omega)
 ·have j:=AG d i d rest 0 (G-0) f (fun n=>- ([d-rest-G,G-0,rest-d+0]:List Int).getD n 0) o (by omega) (by omega) (by simp;omega) (by simp;omega)
  have m:min (min (min (G-0) (- (d-rest-G))) (i-d)) (1099511627776-0)=G:=by omega
  simp only[List.getD_cons_zero]at j;rw[m]at j;rw[cG,nK 1 2 _ _ _ _ _ (by simp;omega) (lU _ _ _ _ _ _ (by unfold aw;omega) (by unfold aw;omega) (by unfold aw;omega) (by unfold aw;omega) (by unfold aw;omega) l) (nJ _ _ _ (by omega) (by omega) (by omega)) j (by omega)]
  simp only[List.set_cons_zero,List.set_cons_succ,List.getD_cons_zero,List.getD_cons_succ];rw[il 1 1 _ _ (by simp)]
  simp only[];rw[cG];exact k _ _ _ _ _ (by omega) (by omega) (by omega) (by omega) (by omega) (by omega) (by omega) (by omega) (by omega) (by omega)
theorem Ik(a d rest:Int)(n:Nat)(i:n=0→a≤rest)(o:aw a)(p:aw d)(q:aw rest)(k:rest≤d) :
  (dW 3 3 (aD a d a rest (List.replicate n ⟨0,1,0,1000000,0⟩) 0)).map Prod.fst=some true:=by
 have f:gV (List.replicate n ⟨0,1,0,1000000,0⟩):=fun x hx=>by rw[List.eq_of_mem_replicate hx];exact⟨rfl,rfl,rfl⟩
 have j:gG (List.replicate n ⟨0,1,0,1000000,0⟩)=0:=by
  unfold gG;rw[List.map_replicate];induction n with
  | zero=>rfl
  | succ n ih =>
   rw[List.replicate_succ,List.sum_cons];clear ih f i;induction n with
   | zero=>rfl
   | succ n _=>rw[List.replicate_succ,List.sum_cons];simp
 have g:∀m,(List.replicate m (⟨0,1,0,1000000,0⟩:Ed)).all (bP 3)=true:=fun m=>by rw[List.all_eq_true];intro x hx;rw[List.eq_of_mem_replicate hx];decide
 unfold dW;rw[AJ _ _ _ _ _ _ f,j];unfold aw at *;have l:List.range 3=[0,1,2]:=rfl;rw[l];by_cases hd:0<a-rest
 ·cases n with
  | zero=>exact absurd (i rfl) (by omega)
  | succ n =>
   have b:=g (n+1);rw[List.replicate_succ]at f b ⊢;have c:=Ij a d rest 0 (a-rest-0) 1000000 (List.replicate n ⟨0,1,0,1000000,0⟩) (fun n=>- ([a-rest-0,0-0,rest-a+0]:List Int).getD n 0) f (by decide) (by omega) (by simp) (by simp;omega)
   have h:min (min (min (a-rest-0) (- (rest-a+0))) (1099511627776-0)) 1000000=a-rest:=by omega
   simp only[List.getD_cons_zero,List.getD_cons_succ]at c;rw[h]at c;rw[cG,nK 0 2 _ _ _ _ _ (by simp;omega) (lU _ _ _ _ _ _ (by unfold aw;omega) (by unfold aw;omega) (by unfold aw;omega) (by unfold aw;omega) (by unfold aw;omega) b) (nJ _ _ _ (by omega) (by omega) (by omega)) c (by omega)]
   simp only[List.set_cons_zero,List.set_cons_succ,List.getD_cons_zero,List.getD_cons_succ];rw[il 0 1 _ _ (by simp)]
   simp only[];rw[cG,il 1 2 _ _ (by simp)]
   simp only[];rw[cG,il 2 2 _ _ (by simp;omega)]
   simp only[cG];rfl
 ·rw[cG,il 0 2 _ _ (by simp;omega)]
  simp only[];rw[cG,il 1 2 _ _ (by simp)]
  simp only[];by_cases hz:rest-a=0
  ·rw[cG,il 2 2 _ _ (by simp;omega)]
   simp only[cG];rfl
  ·have c:=AH a d a rest 0 (rest-a+0) (List.replicate n ⟨0,1,0,1000000,0⟩) (fun n=>- ([a-rest-0,0-0,rest-a+0]:List Int).getD n 0) f (by omega) (by omega) (by simp;omega)
   have h:min (min (rest-a+0) (- (a-rest-0))) (d-a)=rest-a:=by omega
   simp only[List.getD_cons_zero]at c;rw[h]at c;rw[cG,nK 2 2 _ _ _ _ _ (by simp;omega) (lU _ _ _ _ _ _ (by unfold aw;omega) (by unfold aw;omega) (by unfold aw;omega) (by unfold aw;omega) (by unfold aw;omega) (g n)) (nJ _ _ _ (by omega) (by omega) (by omega)) c (by omega)]
   simp only[List.set_cons_zero,List.set_cons_succ,List.getD_cons_zero,List.getD_cons_succ];rw[il 2 1 _ _ (by simp)]
   simp only[cG];rfl
section
variable{i:Nat}
def fp(k:Int):cT:=⟨0,0, -1,k, -1⟩
def cW(kn pn:ByteArray)(lo hi rest:Int)(ks:List Int):ar:=⟨[kn],[pn],[⟨0,0,lo,hi⟩],ks.map fp,[⟨0,0,rest,rest⟩]⟩
theorem Il(k:Int)(i:Nat):ju (fp k) i=true:=rfl
theorem AL(c d:ByteArray)(a b rest:Int)(ks:List Int)(l:List Int)(f:Int→Int×Int)(j:∀i k,ks[i]?=some k→dB (cW c d a b rest ks) l i (fp k)=f k):∀m,m≤ks.length →
  (au (cW c d a b rest ks) 0 l m).1=[⟨2,0,a,b,a⟩,⟨0,2,rest,rest,rest⟩]++(ks.take m).map (fun k=>⟨0,1,(f k).1,(f k).2,(f k).1⟩)
 | 0,_=>by simp[au,cW,dC];rfl
 | m+1,h=>by
  have o:=AL c d a b rest ks l f j m (by omega)
  obtain⟨k,g⟩:=gX (l:=ks) (i:=m) (by omega)
  have n:(cW c d a b rest ks).papers[m]?=some (fp k):=by
   show(ks.map fp)[m]?=_
   rw[List.getElem?_map,g];rfl
  have e:au (cW c d a b rest ks) 0 l (m+1)=kH (cW c d a b rest ks) 0 l (au (cW c d a b rest ks) 0 l m) m:=by unfold au;rw[List.range_succ,List.foldl_append];rfl
  rw[e];unfold kH;rw[n];simp only[];rw[if_pos ⟨rfl,Il k m⟩,o,List.take_add_one,g,j m k g];simp;exact⟨rfl,rfl⟩
theorem qt(c d:ByteArray)(a b rest:Int)(ks:List Int)(l:List Int)(f:Int→Int×Int)(h:∀i k,ks[i]?=some k→dB (cW c d a b rest ks) l i (fp k)=f k) :
  ce (cW c d a b rest ks) 0 l=aD a b a rest (ks.map (fun k=>⟨0,1,(f k).1,(f k).2,(f k).1⟩)) 0:=by
 unfold ce;have g:(cW c d a b rest ks).papers.length=ks.length:=by simp[cW]
 rw[g,AL c d a b rest ks l f h ks.length (lr _),List.take_length];rfl
theorem Im(b d:ByteArray)(c a rest:Int)(ks:List Int){k:Int}(h:ks[i]?=some k):(cW b d c a rest ks).papers[i]?=some (fp k):=by
 show(ks.map fp)[i]?=_
 rw[List.getElem?_map,h];rfl
theorem sZ(b d:ByteArray)(c a rest:Int)(ks:List Int):∀i k,ks[i]?=some k→dB (cW b d c a rest ks) [] i (fp k)=(k,k):=fun i k h=>by
 have f:mW i (fp k).copy=[(i:Int)]:=rfl;have hf:([(i:Int)]:List Int).find? (fun k=>!([]:List Int).contains k)=some (i:Int):=rfl
 unfold dB;rw[f,hf];simp only[Int.toNat_natCast,Im b d c a rest ks h];rfl
theorem In(n:Nat)(h:i<n):(bC (-1) n).contains (i:Int)=true:=by rw[List.contains_iff_mem];unfold bC;refine List.mem_filter.2 ⟨List.mem_map.2 ⟨i,List.mem_range.2 h,rfl⟩, ?_⟩;simp
theorem AM(b d:ByteArray)(c a rest:Int)(ks:List Int):∀i k,ks[i]?=some k→dB (cW b d c a rest ks) (bC (-1) ks.length) i (fp k)=(0,1000000):=fun i k h=>by
 have a:i<ks.length:=(lG h);have hb:mW i (fp k).copy=[(i:Int)]:=rfl;unfold dB;rw[hb,List.find?_cons_of_neg (by rw[In _ a];decide)]
 rfl
theorem s6(b d:ByteArray)(c a rest:Int)(ks:List Int)(l:List Int):∀m,m≤ks.length→iU (cW b d c a rest ks) l m=false
 | 0,_=>rfl
 | m+1,h=>by
  obtain⟨k,g⟩:=gX (l:=ks) (i:=m) (by omega)
  have j:(cW b d c a rest ks).papers[m]?=some (fp k):=by
   show(ks.map fp)[m]?=_
   rw[List.getElem?_map,g];rfl
  rw[rO,s6 b d c a rest ks l m (by omega),Bool.false_or]
  unfold jM;rw[j];have f:decide (((m:Nat):Int)<(fp k).copy)=false:=decide_eq_false (by show ¬((m:Int) < -1);omega)
  simp only[f,Bool.false_and]
theorem lV:∀(ks:List Int),gG (ks.map fun k=>⟨0,1,k,k,k⟩)=ks.sum
 | []=>rfl
 | k::ks=>by have:=lV ks;unfold gG at *;simp only[List.map_cons,List.sum_cons,this]
theorem s9(ks:List Int):lS (ks.map fun k=>⟨0,1,k,k,k⟩):=fun x hx=>by obtain⟨k,_,rfl⟩:=List.mem_map.1 hx;exact⟨rfl,rfl,rfl,rfl⟩
theorem ta(ks:List Int)(h:∀k∈ks,aw k):(ks.map fun k=>(⟨0,1,k,k,k⟩:Ed)).all (bP 3)=true:=by rw[List.all_eq_true];intro x hx;obtain⟨k,hk,rfl⟩:=List.mem_map.1 hx;have:=h k hk;unfold aw at this;simp[bP];omega
theorem Io(c d:ByteArray)(b a rest:Int)(ks:List Int)(g:∀k∈ks,aw k)(o:0≤ks.sum)(l:aw b)(m:aw a)(n:aw rest)(h:b≤rest+ks.sum)(f:rest+ks.sum≤a):cN (cW c d b a rest ks) [] 3=some true:=by
 have p:=AK b a rest (ks.map fun k=>⟨0,1,k,k,k⟩) (s9 ks) (ta ks g) (by rw[lV];exact o) l m n (by rw[lV];exact h) (by rw[lV];exact f)
 have q:=s6 c d b a rest ks [] ks.length (lr _);have hl:(cW c d b a rest ks).papers.length=ks.length:=by simp[cW]
 unfold cN;rw[hl,q,if_neg (by decide)]
 show fu _ _ _ 1=_
 unfold fu fu;simp only[];have r:=qt c d b a rest ks [] (fun k=>(k,k)) (sZ c d b a rest ks)
 have j:((0:Nat):Int)=0:=rfl;rw[j,r];have hn:(cW c d b a rest ks).places.length+2=3:=rfl;rw[hn];simp only[];rw[p];rfl
theorem Ip(c d:ByteArray)(b a rest:Int)(ks:List Int)(g:ks.length=0→b≤rest)(j:aw b)(l:aw a)(m:aw rest)(f:rest≤a):cN (cW c d b a rest ks) (bC (-1) ks.length) 3=some true:=by
 have n:=Ik b a rest ks.length g j l m f;have ht:=s6 c d b a rest ks (bC (-1) ks.length) ks.length (lr _);have hl:(cW c d b a rest ks).papers.length=ks.length:=by simp[cW]
 unfold cN;rw[hl,ht,if_neg (by decide)]
 show fu _ _ _ 1=_
 unfold fu fu;simp only[];have o:=qt c d b a rest ks (bC (-1) ks.length) (fun k=>(0,1000000)) (AM c d b a rest ks)
 have h:((0:Nat):Int)=0:=rfl;rw[h,o];have g:(cW c d b a rest ks).places.length+2=3:=rfl;rw[g];have hr:ks.map (fun _=>(⟨0,1,0,1000000,0⟩:Ed))=List.replicate ks.length ⟨0,1,0,1000000,0⟩:=by rw[List.map_const']
 simp only[];rw[hr];exact n
end
def gH(nodes src en:Nat)(most:Int)(but:Nat):Nat→Int→List Ed→Option (Int×List Ed)
 | 0,_,_=>none
 | f+1,all,es=>if most≤all then some (all,es)else if es.all (bP nodes)=false∨all<0∨9000000000000<most then none else
  match dV es nodes src (most-all) but (fun n=>if n=en then most else 0)with
  | none=>none
  | some (k,_,es')=>if k=0 then some (all,es')else gH nodes src en most but f (all+k) es'
def jC(nodes i f:Nat)(es:List Ed):Option ((Int×Int)×List Ed):=match es[i]? with
 | none=>none
 | some x=>if bP nodes x=false then none else match gH nodes x.fr x.en (x.now-x.lo) i f 0 es with
  | none=>none
  | some (down,es1)=>match es1[i]? with
   | none=>none
   | some x1=>if bP nodes x1=false∨down < -9000000000000∨9000000000000<down∨bP nodes { x1 with now:=x1.now-down }=false then none else
    match gH nodes x1.en x1.fr (x1.hi-(x1.now-down)) i f 0 (es1.set i { x1 with now:=x1.now-down })with
    | none=>none
    | some (up,es3)=>match es3[i]? with
     | none=>none
     | some x3=>if bP nodes x3=false∨up < -9000000000000∨9000000000000<up then none else some ((x1.now-down,x3.now+up),es3.set i { x3 with now:=x3.now+up })
theorem Iq(c b rest:Int)(a:List Ed)(t g:Int)(h:lS a)(d:a.all (bP 3)=true)(l:aw c)(m:aw b)(n:aw t)(o:aw rest)(f:aw g):jC 3 (a.length+2) 1 (aD c b t rest a g)=some ((g,g),aD c b t rest a g):=by
 have i:=lU c b t rest g a l m n o f d;have hx:bP 3 ⟨1,2, -1099511627776,1099511627776,g⟩=true:=by unfold aw at f;simp[bP];omega
 unfold aw at *;unfold jC;rw[ku];simp only[hx];have j:gH 3 1 2 (g - -1099511627776) (a.length+2) 1 0 (aD c b t rest a g)=some (0,aD c b t rest a g):=by
  rw[gH,if_neg (by omega),if_neg (by rw[i];simp;omega),Ih _ _ _ _ _ _ _ _ h.free]
  rfl
 rw[j];simp only[ku,Int.sub_zero,sX,hx];have k:gH 3 2 1 (1099511627776-g) (a.length+2) 1 0 (aD c b t rest a g)=some (0,aD c b t rest a g):=by
  rw[gH,if_neg (by omega),if_neg (by rw[i];simp;omega),Ii _ _ _ _ _ _ _ _ h (by simp)]
  rfl
 rw[k];simp[ku,sX,hx]
theorem Ir(d f:ByteArray)(a b rest:Int)(ks:List Int)(c:∀k∈ks,aw k)(j:aw ks.sum)(g:aw a)(h:aw b)(i:aw rest)(n:a≤rest+ks.sum)(m:rest+ks.sum≤b) :
  ∃es,dW 3 3 (ce (cW d f a b rest ks) 0 [])=some (true,es)∧∃es',jC 3 ((ce (cW d f a b rest ks) 0 []).length-1) 1 es=some ((ks.sum,ks.sum),es'):=by
 have p:=AK a b rest (ks.map fun k=>⟨0,1,k,k,k⟩) (s9 ks) (ta ks c) (by rw[lV];exact j.1) g h i (by rw[lV];exact n) (by rw[lV];exact m)
 have q:=qt d f a b rest ks [] (fun k=>(k,k)) (sZ d f a b rest ks)
 rw[q];refine⟨_,p, ?_⟩;rw[lV];have o:(aD a b a rest (ks.map fun k=>⟨0,1,k,k,k⟩) 0).length-1=(ks.map fun k=>(⟨0,1,k,k,k⟩:Ed)).length+2:=by unfold aD;simp
 simp only[]at o ⊢;rw[o];have l:=j;unfold aw at j g h i;exact⟨_,Iq a b rest _ (rest+ks.sum) ks.sum (s9 ks) (ta ks c) g h (by unfold aw;omega) i l⟩
theorem Is{b g j d f:Nat}{a all:Int}{i:List Ed}{r:Int×List Ed}(h:gH b g j a d (f+1) all i=some r) :
  (a≤all∧r=(all,i))∨(all<a∧i.all (bP b)=true∧0≤all∧a≤9000000000000∧∃k t c,dV i b g (a-all) d (fun n=>if n=j then a else 0)=some (k,t,c)∧((k=0∧r=(all,c))∨(k≠0∧gH b g j a d f (all+k) c=some r))):=by
 rw[gH]at h;by_cases h0:a≤all
 ·rw[if_pos h0]at h;injection h with h
  exact .inl ⟨h0,h.symm⟩
 ·rw[if_neg h0]at h;by_cases h1:i.all (bP b)=false∨all<0∨9000000000000<a
  ·rw[if_pos h1]at h;cases h
  ·rw[if_neg h1]at h;refine .inr ⟨by omega,by simpa using fun h=>h1 (.inl h),by omega,by omega, ?_⟩
   split at h
   ·cases h
   ·rename_i k t c l;refine⟨k,t,c,l, ?_⟩;by_cases hk:k=0
    ·rw[if_pos hk]at h;injection h with h
     exact .inl ⟨hk,h.symm⟩
    ·rw[if_neg hk]at h;exact .inr ⟨hk,h⟩
end Go.Proofs.YtbillnhcmkpohaaGreatDoor
