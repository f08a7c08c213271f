/- Words for memory: a slice that reads as a list (elements of one cell, elements of several .. -/
import Derived.WalkKit
import Derived.Deep.Draws
import Derived.Test.YtbillnhcmkpohaaGreatDoorProg
import Derived.WalkLawsBesides
import Derived.WalkSpells
import Derived.Lib.Hide
import Derived.Deep.QuietTactic
import Derived.BigQuiet
import Derived.Laws.RangeAny
import Derived.Sort.Row
import Derived.Maps.AppendAt
import Derived.Deep.AppendLies
import Derived.RangeFuncNested
import Derived.RangeFuncBound
import Derived.RangeFuncCalls
import Derived.RangeFuncLeaves
import Derived.RangeFuncWrites
import Derived.Shelf.Abstract
import Derived.Shelf.RegionOpen
import Derived.OwnWalkIn
import Derived.TacticsInMore
import Derived.LoopNIn
import Derived.LoopIn
import Derived.WalkSmall
import Derived.Below
set_option maxRecDepth 1000000
set_option maxHeartbeats 0
namespace Go.Proofs.YtbillnhcmkpohaaGreatDoor
open Go.RowKit
def am{α:Type}(enc:α→Value)(w:World)(B:Nat)(A:Option Addr)(xs:List α):Prop :=
 ∀(i:Nat) (x:α),xs[i]?=some x→∃b off,A=some ⟨b,off,none⟩∧b<B∧w.cell? ⟨b,off+i,none⟩=some (enc x)
def aG{α:Type}(k:Nat)(enc:α→List Value)(w:World)(B:Nat)(A:Option Addr)(xs:List α):Prop :=
 ∀(i:Nat) (x:α),xs[i]?=some x→∃b off,A=some ⟨b,off,none⟩∧b<B ∧
  ∀(j:Nat) (u:Value),(enc x)[j]?=some u→w.cell? ⟨b,off+i*k+j,none⟩=some u
section
variable {α:Type} {enc:α→Value} {encs:α→List Value} {k:Nat} {w w':World} {B B':Nat} {A:Option Addr} {xs:List α}
theorem am.keep(h:am enc w B A xs)(c:∀p:Addr,p.block<B→w'.cell? p=w.cell? p):am enc w' B A xs:=by intro i x hx;obtain⟨b,off,e,hb,hc⟩:=h i x hx;exact⟨b,off,e,hb,(c ⟨b,_,none⟩ hb).trans hc⟩
theorem aG.keep(h:aG k encs w B A xs)(c:∀p:Addr,p.block<B→w'.cell? p=w.cell? p):aG k encs w' B A xs:=by intro i x hx;obtain⟨b,off,e,hb,hc⟩:=h i x hx;exact⟨b,off,e,hb,fun j u hu=>(c ⟨b,_,none⟩ hb).trans (hc j u hu)⟩
theorem am.more(h:am enc w B A xs)(c:B≤B'):am enc w B' A xs:=by intro i x hx;obtain⟨b,off,e,hb,hc⟩:=h i x hx;exact⟨b,off,e,by omega,hc⟩
theorem aG.more(h:aG k encs w B A xs)(c:B≤B'):aG k encs w B' A xs:=by intro i x hx;obtain⟨b,off,e,hb,hc⟩:=h i x hx;exact⟨b,off,e,by omega,hc⟩
theorem am.below(h:am enc w B A xs)(b:Below B' w w')(c:B≤B'):am enc w' B A xs:=h.keep fun _ d=>b.cell (by omega)
theorem aG.below(h:aG k encs w B A xs)(b:Below B' w w')(c:B≤B'):aG k encs w' B A xs:=h.keep fun _ d=>b.cell (by omega)
theorem am.alloc(h:am enc w B A xs)(b:B≤w.heap.size)(o:Obj):am enc (w.alloc o) B A xs:=h.keep fun p _=>World.cell?_alloc_lt w o p (by omega)
theorem aG.alloc(h:aG k encs w B A xs)(b:B≤w.heap.size)(o:Obj):aG k encs (w.alloc o) B A xs:=h.keep fun p _=>World.cell?_alloc_lt w o p (by omega)
theorem am.nil:am enc w B A []:=by intro i x h;simp at h
theorem aG.nil:aG k encs w B A []:=by intro i x h;simp at h
theorem am.take(h:am enc w B A xs)(n:Nat):am enc w B A (xs.take n):=by
 intro i x hx;rw[List.getElem?_take]at hx;split at hx
 ·exact h i x hx
 ·cases hx
theorem aG.take(h:aG k encs w B A xs)(n:Nat):aG k encs w B A (xs.take n):=by
 intro i x hx;rw[List.getElem?_take]at hx;split at hx
 ·exact h i x hx
 ·cases hx
end
theorem Bh{W c:World}{B:Nat}(d:Below B W c):(∀b o,b<B→c.cell? ⟨b,o,none⟩=W.cell? ⟨b,o,none⟩)∧(∀b o,b<B→c.frozen? ⟨b,o,none⟩=W.frozen? ⟨b,o,none⟩) :=
 ⟨fun b o h=>d.cell (p:=⟨b,o,none⟩) h,fun b o h=>d.frozen (p:=⟨b,o,none⟩) h⟩
theorem mI{B:Nat}{a w:World}(h:Below B a w)(n:Nat):Below B a (w.drewN n):=⟨h.os,h.tape,h.output,h.size,h.block⟩
theorem dm{k:IntKind}{a b:Int}(h:a=b):Ending.returned (.int k a)=.returned (.int k b):=by rw[h]
theorem aY{a b:Bool}(h:a=b):Ending.returned (.bool a)=.returned (.bool b):=by rw[h]
abbrev iv(n:Int):Value:=.int .i64 n
abbrev Rt(w:World)(v:Value):Ending→World→Prop:=fun e w'=>e=.returned v∧Below w.heap.size w w'
theorem Lq{p:Prop}(h:p):Hid p:=h
theorem ex{α:Type}(x:α):∃y,x=y:=⟨x,rfl⟩
abbrev BW(a w:World):Prop:=Below a.heap.size a w
abbrev cA(w:World)(g o:Nat)(v:Value):Prop:=w.cell? ⟨g,o,none⟩=some v
abbrev Cs:=Calls Tryz.prog
abbrev pT(g o:Nat):Value:=.pointer (some ⟨g,o,none⟩)
abbrev kL:ByteArray:=⟨#[107,101,101,108]⟩
abbrev tk1:ByteArray:=⟨#[116,97,110,107,49]⟩
abbrev hd1:ByteArray:=⟨#[104,111,108,100,49]⟩
abbrev dK:ByteArray:=⟨#[100,101,99,107]⟩
abbrev pp1:ByteArray:=⟨#[112,105,112,101,49]⟩
theorem gE{α:Type}{l:List α}{i:Nat}(h:i<l.length):l[i]?=some l[i]:=List.getElem?_eq_getElem h
theorem gX{α:Type}{l:List α}{i:Nat}(h:i<l.length):∃x,l[i]?=some x:=⟨_,gE h⟩
theorem lG{α:Type}{l:List α}{i:Nat}{a:α}(h:l[i]?=some a):i<l.length:=(List.getElem?_eq_some_iff.1 h).1
theorem mG{α:Type}{l:List α}{a:α}(h:∃i:Nat,l[i]?=some a):a∈l:=List.mem_iff_getElem?.2 h
theorem lr(n:Nat):n≤n:=Nat.le_refl n
theorem lT{a b c:Nat}(h:a≤b)(d:b≤c):a≤c:=Nat.le_trans h d
theorem lz{a b c:Nat}(h:a<b)(d:b≤c):a<c:=Nat.lt_of_lt_of_le h d
/-! Below,one step at a time: the bound is the heap's size at the start. -/
section
variable {a w w':World}
theorem bR(a:World):Below a.heap.size a a:=Below.refl _ _
theorem bA(h:Below a.heap.size a w)(o:Obj):Below a.heap.size a (w.alloc o):=h.alloc h.size o
theorem cY(h:Below a.heap.size a w)(n:Nat):Below a.heap.size a (w.drewN n):=mI h n
theorem bT(h:Below a.heap.size a w)(b:Below w.heap.size w w'):Below a.heap.size a w':=h.trans (b.mono h.size)
theorem aH(h:Below a.heap.size a w){p:Addr}(b:a.heap.size≤p.block)(u:Value):Below a.heap.size a (w.setCell p u):=h.setCell b u
end
/-! What is looked at: a part,a weighing;joints and spans are pairs of numbers. -/
theorem nA(w:World)(o:Obj):∃W,w.alloc o=W∧Below w.heap.size w W:=⟨_,rfl,bA (bR w) o⟩
theorem nn(k:Nat):(0:Int)≤(k:Int):=by omega
section
variable{hi lo n:Int}
def inB(lo hi n:Int):Bool:=decide (lo≤n∧n≤hi)
theorem iM(h:inB lo hi n=true):lo≤n∧n≤hi:=by simpa[inB]using h
theorem cX(a:lo≤n)(b:n≤hi):inB lo hi n=true:=by simp[inB,a,b]
theorem Bi(h:n<lo∨hi<n):inB lo hi n=false:=by simp[inB];omega
theorem iN(n lo hi:Int)(w:World):Cs 15 #[iv n,iv lo,iv hi] w fun e w'=>e=.returned (.bool (inB lo hi n))∧w=w':=by
 by_cases h1:lo≤n
 ·go_enter Tryz.func15,Tryz.ntmps15
  go_wp2
  go_ret
  exact⟨aY (by unfold inB;rw[Bool.eq_iff_iff];simp;omega),rfl⟩
 ·go_enter Tryz.func15,Tryz.ntmps15
  go_wp2
  go_ret
  exact⟨aY (by unfold inB;rw[Bool.eq_iff_iff];simp;omega),rfl⟩
theorem th(n lo hi:Int)(a b:Addr)(w:World)(c:w.cell? a=some (iv lo))(d:w.cell? b=some (iv hi)) :
  Cs 31 #[iv n,.pointer (some a),.pointer (some b)] w fun e w'=>e=.returned (.bool (!inB lo hi n))∧w=w':=by
 by_cases h1:n<lo
 ·go_enter Tryz.func31,Tryz.ntmps31
  go_wp2
  go_ret
  exact⟨aY (by unfold inB;rw[Bool.eq_iff_iff];simp;omega),rfl⟩
 ·go_enter Tryz.func31,Tryz.ntmps31
  go_wp2
  go_ret
  exact⟨aY (by unfold inB;rw[Bool.eq_iff_iff];simp;omega),rfl⟩
def qB(b:Bool)(w:World)(e:Ending)(w':World):Prop:=∃r:Int,e=.returned (iv r)∧decide (0≤r)=b∧w=w'
def allIn(lo hi:Int)(xs:List Int):Bool:=xs.all (inB lo hi)
theorem ti(lo hi:Int)(xs:List Int)(k:Nat)(x:Int)(hx:xs[k]?=some x):allIn lo hi (xs.take (k+1))=(allIn lo hi (xs.take k)&&inB lo hi x):=by unfold allIn;obtain⟨h,rfl⟩:=List.getElem?_eq_some_iff.1 hx;rw[List.take_succ_eq_append_getElem h,List.all_append];simp
theorem tj(lo hi:Int)(xs:List Int)(k:Nat)(x:Int)(hx:xs[k]?=some x)(h:inB lo hi x=false):allIn lo hi xs=false:=by unfold allIn;rw[List.all_eq_false];exact⟨x,List.mem_of_getElem? hx,by simp[h]⟩
theorem Bj(A:Option Addr)(xs:List Int)(B cap:Nat)(lo hi:Int)(d f:Addr)(w:World)(m:xs.length≤maxLen)(j:am iv w B A xs)(g:w.cell? d=some (iv lo))(h:w.cell? f=some (iv hi)) :
  Cs 85 #[.slice A xs.length cap,.func (.func 31) #[] #[.pointer (some d),.pointer (some f)]] w (qB (!allIn lo hi xs) w):=by
 unfold maxLen at m;go_enter Tryz.func85,Tryz.ntmps85
 go_wp2
 go_loop [8] (fun i=>∃k:Nat,k≤xs.length∧i=iv k∧allIn lo hi (xs.take k)=true) (fun i=>xs.length-(intOf i).toNat)
 case atStart=>exact⟨0,Nat.zero_le _,rfl,by simp[allIn]⟩
 case round =>
  obtain⟨k,o,rfl,a⟩:=hrel;by_cases hlt:k<xs.length
  ·obtain⟨x,hx⟩:=gX (l:=xs) (i:=k) hlt;obtain⟨b,off,rfl,_,hck⟩:=j k x hx;have Hx:=Lq hx;clear hx;by_cases hp:inB lo hi x=true
   ·go_wp2_with (go_at_call 31;refine(th _ lo hi _ _ _ g h).mono ?_;rintro e w' ⟨rfl,rfl⟩)
    go_round
    case rel=>exact⟨k+1,by omega,by go_num,by rw[ti _ _ _ _ _ Hx.out,a,hp];rfl⟩
    case measure=>simp[intOf];omega
   ·have c:inB lo hi x=false:=by simpa using hp
    go_wp2_with (go_at_call 31;refine(th _ lo hi _ _ _ g h).mono ?_;rintro e w' ⟨rfl,rfl⟩)
    go_ret
    exact⟨k,rfl,by rw[tj _ _ _ _ _ Hx.out c];simp,rfl⟩
  ·go_wp2
   go_ret
   refine⟨-1,rfl, ?_,rfl⟩;rw[List.take_of_length_le (by omega)]at a
   rw[a];rfl
theorem Bm(A:Option Addr)(xs:List Int)(B cap:Nat)(lo hi:Int)(a b:Addr)(w:World)(g:xs.length≤maxLen)(c:am iv w B A xs)(d:w.cell? a=some (iv lo))(f:w.cell? b=some (iv hi)) :
  Cs 30 #[.slice A xs.length cap,.func (.func 31) #[] #[.pointer (some a),.pointer (some b)]] w fun e w'=>e=.returned (.bool (!allIn lo hi xs))∧w=w':=by
 go_enter Tryz.func30,Tryz.ntmps30
 go_wp2_with (go_at_call 85;refine(Bj _ xs B cap lo hi _ _ _ g c d f).mono ?_;rintro e w' ⟨r,rfl,h,rfl⟩)
 go_ret
 exact⟨by rw[←h];rfl,rfl⟩
theorem tl(A:Option Addr)(xs:List Int)(B cap:Nat)(lo hi:Int)(w:World)(d:xs.length≤maxLen)(c:am iv w B A xs)(b:B≤w.heap.size) :
  Cs 13 #[iv lo,iv hi,.slice A xs.length cap] w (Rt w (.bool (!allIn lo hi xs))):=by
 have a:=(c.alloc b (.cells #[iv lo] 3)).alloc (by simp;omega) (.cells #[iv hi] 3)
 go_enter Tryz.func13,Tryz.ntmps13
 go_wp2_with (go_at_call 30;refine(Bm _ xs B cap lo hi _ _ _ d a (by go_simp) (by go_simp)).mono ?_;rintro e w' ⟨rfl,rfl⟩)
 go_ret
 exact⟨rfl,((Below.refl _ _).alloc (lr _) _).alloc (by simp) _⟩
end
section
variable{H L hi lo:Int}
theorem kR(lo hi x:Int)(g:Nat)(w:World)(hc:w.cell? ⟨g,0,none⟩=some (iv x))(d:g<w.heap.size) :
  Cs 13 #[iv lo,iv hi,.slice (some ⟨g,0,none⟩) 1 1] w (Rt w (.bool (!inB lo hi x))):=by
 have b:am iv w w.heap.size (some ⟨g,0,none⟩) [x]:=by
  intro i y a
  match i,a with
  | 0,a=>simp at a;subst a;exact⟨g,0,rfl,d,hc⟩
 refine(tl _ [x] w.heap.size 1 lo hi w (by simp[maxLen]) b (lr _)).mono ?_
 rintro e w' ⟨rfl,c⟩;exact⟨aY (by simp[allIn]),c⟩
theorem qD(lo hi x y:Int)(g:Nat)(w:World)(hc:w.cell? ⟨g,0,none⟩=some (iv x))(f:w.cell? ⟨g,1,none⟩=some (iv y))(b:g<w.heap.size) :
  Cs 13 #[iv lo,iv hi,.slice (some ⟨g,0,none⟩) 2 2] w (Rt w (.bool (!(inB lo hi x&&inB lo hi y)))):=by
 have c:am iv w w.heap.size (some ⟨g,0,none⟩) [x,y]:=by
  intro i z a
  match i,a with
  | 0,a=>simp at a;subst a;exact⟨g,0,rfl,b,hc⟩
  | 1,a=>simp at a;subst a;exact⟨g,0,rfl,b,f⟩
 refine(tl _ [x,y] w.heap.size 2 lo hi w (by simp[maxLen]) c (lr _)).mono ?_
 rintro e w' ⟨rfl,d⟩;exact⟨aY (by simp[allIn]),d⟩
def jk(L H lo hi:Int):Int:=if inB L H lo&&inB L H hi then(if hi<lo then 2 else 0)else 7
theorem Bn(h:(inB L H lo&&inB L H hi)=false):jk L H lo hi=7:=by simp[jk,h]
theorem Bo(h:(inB L H lo&&inB L H hi)=true)(a:hi<lo):jk L H lo hi=2:=by simp only[jk,h,if_true,if_pos a]
theorem qE(h:(inB L H lo&&inB L H hi)=true)(a:lo≤hi):jk L H lo hi=0:=by simp only[jk,h,if_true];rw[if_neg (by omega)]
theorem Bq(L H lo hi:Int)(g cap:Nat)(w:World)(d:w.cell? ⟨g,0,none⟩=some (iv lo))(f:w.cell? ⟨g,1,none⟩=some (iv hi)) :
  Cs 86 #[.slice (some ⟨g,0,none⟩) 1 cap,iv L,iv H] w fun e w'=>e=.returned (iv (jk L H lo hi))∧∃n,w'=w.drewN n:=by
 cases h:(inB L H lo&&inB L H hi)
 ·have a:=Lq (Bn h);cases b:inB L H lo
  ·clear h;go_enter Tryz.func86,Tryz.ntmps86
   go_wp2
   refine wp_loop_rounds 1 ?_;rw[rounds_succ];go_wp2_with (go_at_call 15;refine(iN _ _ _ _).mono ?_;rintro e w' ⟨rfl,rfl⟩)
   go_ret
   exact⟨by rw[a.out];rfl,0,rfl⟩
  ·have c:inB L H hi=false:=by rw[b]at h;simpa using h
   clear h;go_enter Tryz.func86,Tryz.ntmps86
   go_wp2
   refine wp_loop_rounds 1 ?_;rw[rounds_succ];go_wp2_with (go_at_call 15;refine(iN _ _ _ _).mono ?_;rintro e w' ⟨rfl,rfl⟩)
   go_ret
   exact⟨by rw[a.out];rfl,0,rfl⟩
 ·obtain⟨b,c⟩:inB L H lo=true∧inB L H hi=true:=by simpa using h
  by_cases h2:hi<lo
  ·have a:=Lq (Bo h h2);clear h;go_enter Tryz.func86,Tryz.ntmps86
   go_wp2
   refine wp_loop_rounds 2 ?_;rw[rounds_succ];go_wp2_with (go_at_call 15;refine(iN _ _ _ _).mono ?_;rintro e w' ⟨rfl,rfl⟩)
   go_quiet (fail)
   go_wp2
   rw[rounds_succ];go_wp2
   go_ret
   exact⟨by rw[a.out];rfl,_,rfl⟩
  ·have a:=Lq (qE h (by omega))
   clear h;go_enter Tryz.func86,Tryz.ntmps86
   go_wp2
   refine wp_loop_rounds 2 ?_;rw[rounds_succ];go_wp2_with (go_at_call 15;refine(iN _ _ _ _).mono ?_;rintro e w' ⟨rfl,rfl⟩)
   go_quiet (fail)
   go_wp2
   rw[rounds_succ];go_wp2
   go_ret
   exact⟨by rw[a.out];rfl,_,rfl⟩
theorem Br(L H lo hi:Int)(w:World) :
  Cs 34 #[.agg #[iv lo,iv hi],iv L,iv H] w (Rt w (iv (jk L H lo hi))):=by
 go_enter Tryz.func34,Tryz.ntmps34
 go_wp2_with (go_at_call 86;refine(Bq L H lo hi _ _ _ (by go_simp) (by go_simp)).mono ?_;rintro e a ⟨rfl,n,rfl⟩)
 go_ret
 exact⟨rfl,mI (((Below.refl _ _).alloc (lr _) _).alloc (by simp) _) _⟩
end
section
variable{s:ByteArray}{n:Nat}
def gW(s:ByteArray)(i:Nat):Nat:=if h:i<s.size then(s[i]'h).toNat else 0
def dZ(i c:Nat):Bool:=(decide (97≤c)&&decide (c≤122))||((decide (48≤c)&&decide (c≤57))&&i != 0)
def jF(s:ByteArray)(n:Nat):Bool:=(List.range n).all fun i=>dZ i (gW s i)
def du(s:ByteArray):Bool:=jF s s.size&&decide (1≤s.size)&&decide (s.size≤16)
theorem nL(s:ByteArray)(n:Nat):jF s (n+1)=(jF s n&&dZ n (gW s n)):=by unfold jF;rw[List.range_succ,List.all_append];simp
theorem Bs{m:Nat}(h:dZ n (gW s n)=false)(a:n<m):jF s m=false:=by unfold jF;rw[List.all_eq_false];exact⟨n,by simpa using a,by simp[h]⟩
theorem ky(h:dZ n (gW s n)=false)(a:n<s.size):du s=false:=by unfold du;rw[Bs h a];rfl
theorem Bt{a c:Nat}(h:a=0)(b:gW s a=c)(hc:c<97):dZ a (gW s a)=false:=by rw[b,h];simp[dZ];omega
theorem Bu(h:s.toList=[]):s.size=0:=by
 rw[ByteArray.toList_eq]at h;have:s.data.toList.length=0:=by rw[h];rfl
 simpa using this
theorem Bv(h:¬s.toList=[]):1≤s.size:=by
 rw[ByteArray.toList_eq]at h;have:s.data.toList.length≠0:=fun e=>h (List.length_eq_zero_iff.1 e)
 have a:s.data.toList.length=s.size:=by simp
 omega
theorem oU(s:ByteArray)(w:World)(u:s.size≤maxLen) :
  Cs 53 #[.string s] w (Rt w (.bool (du s))):=by
 unfold maxLen at u;go_enter Tryz.func53,Tryz.ntmps53
 go_wp2
 go_loopw [3] (fun _ w'=>∃a:Nat,w'=w.iter s a∧a≤s.size∧jF s a=true) (fun _ w'=>s.size-w'.iterPos w.heap.size)
 case atStart=>exact⟨0,rfl,Nat.zero_le _,rfl⟩
 case round =>
  obtain⟨a,rfl,B,p⟩:=hrel;have HO:=Lq p;clear p;by_cases hlt:a<s.size
  ·by_cases ha:(s[a]'hlt).toNat<128
   ·have b:∀ty,(Instr.next (pT w.heap.size 0) true ty).run Tryz.prog (w.iter s a)=_:=fun ty=>run_next_ascii w s a ty hlt ha
    obtain⟨c,hc⟩:∃c:Nat,(s[a]'hlt).toNat=c:=⟨_,rfl⟩;rw[hc]at ha b;have hb:gW s a=c:=by simp[gW,hlt,hc]
    have f:=Lq hb;clear hb hc;by_cases c1:c<48
    ·have t:c<97:=by omega
     go_wp2
     go_ret
     exact⟨aY (ky (n:=a) (by rw[f.out];simp[dZ];omega) hlt).symm,(Below.refl _ _).alloc (lr _) _⟩
    by_cases t:c≤57
    ·have k:c<97:=by omega
     have l:48≤c:=by omega
     by_cases g:a=0
     ·have m:((a:Int)==0)=true:=beq_iff_eq.2 (by omega)
      have i:=Lq g;clear g;go_wp2
      go_ret
      exact⟨aY (ky (n:=a) (Bt i.out f.out k) hlt).symm,(Below.refl _ _).alloc (lr _) _⟩
     ·have m:((a:Int)==0)=false:=beq_eq_false_iff_ne.2 (by omega)
      have i:=Lq g;clear g;go_wp2
      go_roundw
      case rel=>exact⟨a+1,rfl,by omega,by rw[nL,HO.out,f.out];have:=i.out;simp[dZ];omega⟩
      case measure=>simp;omega
    by_cases k:c<97
    ·have l:57<c:=by omega
     have g:48≤c:=by omega
     go_wp2
     go_ret
     exact⟨aY (ky (n:=a) (by rw[f.out];simp[dZ];omega) hlt).symm,(Below.refl _ _).alloc (lr _) _⟩
    have l:57<c:=by omega
    have g:48≤c:=by omega
    have m:97≤c:=by omega
    by_cases c7:c≤122
    ·go_wp2
     go_roundw
     case rel=>exact⟨a+1,rfl,by omega,by rw[nL,HO.out,f.out];simp[dZ];omega⟩
     case measure=>simp;omega
    ·have v:decide ((c:Int)≤122)=false:=by simp;omega
     go_wp2
     go_ret
     exact⟨aY (ky (n:=a) (by rw[f.out];simp[dZ];omega) hlt).symm,(Below.refl _ _).alloc (lr _) _⟩
   ·have b:∀ty,(Instr.next (pT w.heap.size 0) true ty).run Tryz.prog (w.iter s a)=_:=fun ty=>run_next_any w s a ty hlt
    obtain⟨j,o⟩:=decode_high s a hlt (by omega)
    obtain⟨r,q⟩:∃r:Nat,(Utf8.decode s a).1=r:=⟨_,rfl⟩;obtain⟨d,hd⟩:∃d:Nat,(Utf8.decode s a).2=d:=⟨_,rfl⟩;rw[q]at j b;rw[hd]at o b;have hb:128≤gW s a:=by simp only[gW,hlt,dif_pos];omega
    clear q hd ha;have x:97≤r:=by omega
    have y:decide ((r:Int)≤122)=false:=by simp;omega
    have z:48≤r:=by omega
    have A:decide ((r:Int)≤57)=false:=by simp;omega
    go_wp2
    go_ret
    exact⟨aY (ky (n:=a) (by simp[dZ];omega) hlt).symm,(Below.refl _ _).alloc (lr _) _⟩
  ·have b:∀ty,(Instr.next (pT w.heap.size 0) true ty).run Tryz.prog (w.iter s a)=_:=fun ty=>run_next_end w s a ty hlt
   obtain rfl:a=s.size:=by omega
   go_wp2
   ·have h:s.toList=[]:=by assumption
    go_ret
    exact⟨aY (by unfold du;rw[Bu h];simp),(Below.refl _ _).alloc (lr _) _⟩
   ·have h:¬s.toList=[]:=by assumption
    go_ret
    refine⟨aY ?_,(Below.refl _ _).alloc (lr _) _⟩;show(!s.toList.isEmpty&&decide ((s.size:Int)≤16))=du s
    have j:s.toList.isEmpty=false:=by simpa using h
    have o:=Bv h;unfold du;rw[j,HO.out,Bool.eq_iff_iff];simp;omega
end
end Go.Proofs.YtbillnhcmkpohaaGreatDoor
namespace Go.Proofs.YtbillnhcmkpohaaGreatDoor
section
variable{s:ByteArray}{i j:Nat}
structure ah where
 name:ByteArray
 kind:Int
 first:Int
 last:Int
 on:List ByteArray
 wlo:Int
 whi:Int
structure bQ where
 what:Int
 day:Int
 name:ByteArray
 part:ah
def eqS(a b:ByteArray):Bool:=a.toList==b.toList
theorem gY{a b:ByteArray}:eqS a b=true↔a.toList=b.toList:=by simp[eqS]
def aX(s:ByteArray)(p:ah):Bool:=eqS p.name s
theorem dM{p:ah}:aX s p=true↔p.name.toList=s.toList:=gY
def hasP(l:List ah)(s:ByteArray):Bool:=l.any (aX s)
def aL(l:List ah)(s:ByteArray):Nat:=l.findIdx (aX s)
def ct(l:List ah)(s:ByteArray):Int:=if aL l s<l.length then(aL l s:Int)else -1
def standsB(p:ah)(s:ByteArray):Bool:=p.on.any fun o=>eqS o s
def dN(a b:ah):Bool:=decide (a.first≤b.last)&&decide (b.first≤a.last)
theorem nN{l:List ah}:aL l s<l.length↔∃p∈l,p.name.toList=s.toList:=by unfold aL;rw[List.findIdx_lt_length];simp only[dM]
theorem im{l:List ah}:hasP l s=true↔∃p∈l,p.name.toList=s.toList:=by simp[hasP,dM]
theorem kS{l:List ah}:hasP l s=false↔∀p∈l,p.name.toList≠s.toList:=by rw[Bool.eq_false_iff,Ne,im];exact⟨fun h p a e=>h ⟨p,a,e⟩,fun h ⟨p,a,e⟩=>h p a e⟩
theorem iO{l:List ah}:ct l s<0↔hasP l s=false:=by
 rw[kS];unfold ct;by_cases h:aL l s<l.length
 ·rw[if_pos h];obtain⟨p,a,e⟩:=nN.1 h;exact⟨fun h0=>by omega,fun h0=>absurd e (h0 p a)⟩
 ·rw[if_neg h];exact⟨fun _ p a e=>h (nN.2 ⟨p,a,e⟩),fun _=>by omega⟩
theorem fU{l:List ah}(h:hasP l s=true):ct l s=(aL l s:Int)∧aL l s<l.length∧∃p,l[aL l s]?=some p∧p.name.toList=s.toList:=by
 have a:=nN.2 (im.1 h);refine⟨by unfold ct;rw[if_pos a],a,l[aL l s],gE a, ?_⟩
 exact dM.1 (List.findIdx_getElem (w:=a))
structure cQ(x:ah)(before others:List ah):Prop where
 nm:du x.name=true
 new:∀p∈others,p.name.toList≠x.name.toList
 kind:1≤x.kind∧x.kind≤5
 fr:0≤x.first∧x.first≤x.last∧x.last≤40
 wt:1≤x.wlo∧x.wlo≤x.whi∧x.whi≤1000000
 on:∀o∈x.on,∃y,before.find? (aX o)=some y∧dN x y=true
 dup:(x.on.map ByteArray.toList).Nodup
structure aE(l:List ah):Prop where
 len:l.length≤12
 part:∀i p,l[i]?=some p→cQ p (l.take i) (l.take i)
def jl(x:ah):Bool:=x.name.toList.isEmpty&&x.kind==0&&x.first==0&&x.last==0&&x.on.length==0&&x.wlo==0&&x.whi==0
def cR(old new:ByteArray)(s:ByteArray):ByteArray:=if eqS s old then new else s
def jG(old new:ByteArray)(q:ah):ah:={ q with on:=q.on.map (cR old new) }
def cB(l:List ah)(at':Nat)(old:ByteArray)(x:ah):List ah:=l.take at'++x::(l.drop (at'+1)).map (jG old x.name)
open Classical in
noncomputable def bL(l:List ah)(c:bQ):Option (List ah) :=
 if c.what=1 then(if c.name.toList.isEmpty=true∧l.length<12∧cQ c.part l l then some (l++[c.part])else none)
 else if c.what=2 then(if jl c.part=true∧hasP l c.name=true∧(∀q∈l,standsB q c.name=false)then some (l.eraseIdx (aL l c.name))else none)
 else if c.what=3 then(if hasP l c.name=true∧cQ c.part (l.take (aL l c.name)) (l.eraseIdx (aL l c.name))∧(∀q∈l.drop (aL l c.name+1),standsB q c.name=true→dN q c.part=true)then some (cB l (aL l c.name) c.name c.part)else none)
 else none
theorem aE.ne{l:List ah}(h:aE l){p q:ah}(b:l[i]?=some p)(c:l[j]?=some q)(a:i<j):p.name.toList≠q.name.toList :=
 (h.part j q c).new p (mG ⟨i,by rw[List.getElem?_take_of_lt a];exact b⟩)
theorem aE.inj{l:List ah}(h:aE l){p q:ah}(a:l[i]?=some p)(b:l[j]?=some q)(e:p.name.toList=q.name.toList):i=j:=by
 rcases Nat.lt_trichotomy i j with hlt | rfl | hlt
 ·exact absurd e (h.ne a b hlt)
 ·rfl
 ·exact absurd e.symm (h.ne b a hlt)
theorem nO{l:List ah}{y:ah}(h:l.find? (aX s)=some y):∃j,j=aL l s∧l[j]?=some y∧y.name.toList=s.toList:=by
 have a:=List.mem_of_find?_eq_some h;have hp:=List.find?_some h;have hl:aL l s<l.length:=nN.2 ⟨y,a,dM.1 hp⟩;refine⟨_,rfl, ?_,dM.1 hp⟩;rw[List.find?_eq_some_iff_getElem]at h;obtain⟨_,i,hi,e,hb⟩:=h;have e2:aL l s=i:=by unfold aL;rw[List.findIdx_eq hi];exact⟨by rw[e];exact hp,fun j hj=>by have:=hb j hj;simpa using this⟩
 rw[e2,gE hi,e]
theorem aE.find{l:List ah}(h:aE l){p:ah}(a:l[i]?=some p)(e:p.name.toList=s.toList):l.find? (aX s)=some p∧aL l s=i∧hasP l s=true:=by
 have c:p∈l:=mG ⟨i,a⟩;have hh:hasP l s=true:=im.2 ⟨p,c,e⟩;cases hf:l.find? (aX s)with
 | none=>exact absurd (dM.2 e) (by have:=List.find?_eq_none.1 hf p c;simpa using this)
 | some y =>
  obtain⟨j,f,b,d⟩:=nO hf;obtain rfl:=h.inj b a (d.trans e.symm);rw[a]at b;exact⟨b.symm,f.symm,hh⟩
end
section
variable{s:ByteArray}{k:Nat}
theorem cQ.mono{x:ah}{b a o c:List ah}(h:cQ x b o)(f:∀p∈c,p∈o)(d:∀s∈x.on,a.find? (aX s)=b.find? (aX s)):cQ x a c :=
 ⟨h.nm,fun p g=>h.new p (f p g),h.kind,h.fr,h.wt,fun s hs=>by rw[d s hs];exact h.on s hs,h.dup⟩
theorem aE.append{l:List ah}{x:ah}(h:aE l)(b:l.length<12)(hx:cQ x l l):aE (l++[x]):=by
 refine⟨by simp;omega,fun i p a=>?_⟩
 rcases Nat.lt_trichotomy i l.length with hlt | rfl | hlt
 ·rw[List.getElem?_append_left hlt]at a;rw[List.take_append_of_le_length (Nat.le_of_lt hlt)];exact h.part i p a
 ·rw[List.getElem?_append_right (lr _)]at a;simp at a;subst a
  simpa using hx
 ·rw[List.getElem?_eq_none (by simp;omega)]at a
  cases a
theorem Bw{q:ah→Bool}:∀(l:List ah) (k:Nat),(∀p,l[k]?=some p→q p=false)→(l.eraseIdx k).find? q=l.find? q:=by
 intro l;induction l with
 | nil=>intro k _;rfl
 | cons a l ih =>
  intro k b;cases k with
  | zero=>have:=b a rfl;simp[this]
  | succ k =>
   have:=ih k (fun p hp=>b p (by simpa using hp))
   simp only[List.eraseIdx_cons_succ,List.find?_cons,this]
theorem Bx:∀(l:List ah) (k i:Nat),k≤i→(l.eraseIdx k).take i=(l.take (i+1)).eraseIdx k:=by
 intro l;induction l with
 | nil=>intro k i _;simp
 | cons a l ih =>
  intro k i b;cases k with
  | zero=>simp
  | succ k =>
   obtain⟨i,rfl⟩:∃j,i=j+1:=⟨i-1,by omega⟩
   simp only[List.eraseIdx_cons_succ,List.take_succ_cons,ih k i (by omega)]
theorem By:∀(l:List ah) (k i:Nat),i≤k→(l.eraseIdx k).take i=l.take i:=by
 intro l;induction l with
 | nil=>intro k i _;simp
 | cons a l ih =>
  intro k i b;cases i with
  | zero=>simp
  | succ i =>
   obtain⟨k,rfl⟩:∃j,k=j+1:=⟨k-1,by omega⟩
   simp only[List.eraseIdx_cons_succ,List.take_succ_cons,ih k i (by omega)]
theorem tm{q:ah}(h:standsB q s=false):∀o∈q.on,o.toList≠s.toList:=by
 intro o a e;have:standsB q s=true:=by unfold standsB;exact List.any_eq_true.2 ⟨o,a,gY.2 e⟩
 rw[h]at this;cases this
theorem aE.erase{l:List ah}(h:aE l){c:ah}(j:l[k]?=some c)(e:c.name.toList=s.toList)(t:∀q∈l,standsB q s=false):aE (l.eraseIdx k):=by
 have f:∀(m:List ah) (q:ah),q∈l→(∀p,m[k]?=some p→p=c)→∀o∈q.on,(m.eraseIdx k).find? (aX o)=m.find? (aX o):=by
  intro m q a n o r;refine Bw m k fun p hp=>?_
  rw[n p hp];have:=tm (t q a) o r;cases hb:aX o c with
  | false=>rfl
  | true=>exact absurd ((dM.1 hb).symm.trans e) this
 refine⟨lT (List.length_eraseIdx_le _ _) h.len,fun i p b=>?_⟩
 rw[List.getElem?_eraseIdx]at b;split at b
 ·rename_i d;rw[By l k i (Nat.le_of_lt d)];exact h.part i p b
 ·rename_i g;rw[Bx l k i (by omega)]
  refine(h.part (i+1) p b).mono (fun q a=>List.mem_of_mem_eraseIdx a) ?_
  refine f _ p (mG ⟨_,b⟩) fun q a=>?_
  rw[List.getElem?_take]at a;split at a
  ·rw[j]at a;injection a with a;exact a.symm
  ·cases a
theorem oV{l:List ah}{i:Nat}{q:ah}(b:l[i]?=some q)(a:i≠k):q∈l.eraseIdx k:=by rw[List.mem_eraseIdx_iff_getElem?];exact⟨i,a,b⟩
theorem Bz(s n o:ByteArray)(R:List ah):(R.map (jG s n)).find? (aX o)=(R.find? (aX o)).map (jG s n):=by rw[List.find?_map];rfl
theorem aE.swap{l:List ah}(h:aE l){A x:ah}(r:l[k]?=some A)(e:A.name.toList=s.toList)(hx:cQ x (l.take k) (l.eraseIdx k))(O:∀q∈l.drop (k+1),standsB q s=true→dN q x=true):aE (cB l k s x):=by
 have u:k<l.length:=(lG r);have hlt:(l.take k).length=k:=by rw[List.length_take];omega
 have g:∀p∈l.take k,p∈l.eraseIdx k:=by
  intro p N;obtain⟨j,hj⟩:=List.mem_iff_getElem?.1 N;rw[List.getElem?_take]at hj;split at hj
  ·rename_i t;exact oV hj (by omega)
  ·cases hj
 refine⟨by unfold cB;simp;have:=h.len;omega,fun i p hi=>?_⟩
 unfold cB at hi ⊢;rcases Nat.lt_trichotomy i k with hik | rfl | hik
 ·rw[List.getElem?_append_left (by omega),List.getElem?_take_of_lt hik]at hi
  rw[List.take_append_of_le_length (by omega),List.take_take,Nat.min_eq_left (by omega)]
  exact h.part i p hi
 ·rw[List.getElem?_append_right (by omega),hlt,Nat.sub_self,List.getElem?_cons_zero]at hi
  injection hi with hi
  subst hi;rw[List.take_append_of_le_length (by omega),List.take_take,Nat.min_self]
  exact hx.mono g (fun _ _=>rfl)
 ·obtain⟨d,rfl⟩:∃d,i=k+1+d:=⟨i-k-1,by omega⟩
  rw[List.getElem?_append_right (by omega),hlt,show k+1+d-k=d+1 by omega,List.getElem?_cons_succ,List.getElem?_map,List.getElem?_drop]at hi
  cases hq:l[k+1+d]? with
  | none=>rw[hq]at hi;cases hi
  | some q =>
   rw[hq]at hi;injection hi with hi
   subst hi;have Q:=h.part _ q hq;have hqm:q∈l.drop (k+1):=mG ⟨d,by rw[List.getElem?_drop];exact hq⟩
   have L:(l.take k++x::(l.drop (k+1)).map (jG s x.name)).take (k+1+d)=l.take k++x::((l.drop (k+1)).take d).map (jG s x.name):=by rw[List.take_append,hlt,List.take_take,Nat.min_eq_right (by omega),show k+1+d-k=d+1 by omega,List.take_succ_cons,List.map_take]
   have D:l.take (k+1+d)=l.take k++A::(l.drop (k+1)).take d:=by
    rw[Nat.add_assoc,List.take_add,Nat.add_comm 1 d,List.drop_eq_getElem_cons u,List.take_succ_cons];rw[gE u]at r;injection r with r
    rw[r]
   have K:∀y∈(l.drop (k+1)).take d,y∈l.eraseIdx k∧y∈l.take (k+1+d):=by
    intro y c;obtain⟨j,hj⟩:=List.mem_iff_getElem?.1 c;rw[List.getElem?_take]at hj;split at hj
    ·rw[List.getElem?_drop]at hj;exact⟨oV hj (by omega),by rw[D];simp[c]⟩
    ·cases hj
   have n:∀y∈l.eraseIdx k,y.name.toList≠x.name.toList:=hx.new;have hkey:∀o∈q.on,o.toList≠s.toList→o.toList≠x.name.toList:=by
    intro o v F B;obtain⟨y,c,_⟩:=Q.on o v;obtain⟨j,_,hj,ey⟩:=nO c;rw[List.getElem?_take]at hj;split at hj
    ·refine n y (oV hj ?_) (ey.trans B);intro t;subst t;rw[r]at hj;injection hj with hj
     subst hj;exact F (ey.symm.trans e)
    ·cases hj
   rw[L];refine⟨Q.nm, ?_,Q.kind,Q.fr,Q.wt, ?_, ?_⟩
   ·intro y c;simp only[List.mem_append,List.mem_cons,List.mem_map]at c;rcases c with c | rfl | ⟨z,hz,rfl⟩
    ·exact Q.new y (by rw[D];simp[c])
    ·exact fun B=>n q (oV hq (by omega)) B.symm
    ·exact Q.new z (K z hz).2
   ·intro R G;obtain⟨o,v,rfl⟩:=List.mem_map.1 G;by_cases eo:o.toList=s.toList
    ·refine⟨x, ?_, ?_⟩
     ·have C:cR s x.name o=x.name:=by unfold cR;rw[if_pos (gY.2 eo)]
      rw[C,List.find?_append];have M:(l.take k).find? (aX x.name)=none:=by rw[List.find?_eq_none];intro y c f;exact n y (g y c) (dM.1 f)
      rw[M,List.find?_cons,dM.2 rfl];rfl
     ·exact O q hqm (List.any_eq_true.2 ⟨o,v,gY.2 eo⟩)
    ·have C:cR s x.name o=o:=by
      unfold cR;rw[if_neg];intro f;exact eo (gY.1 f)
     rw[C];obtain⟨y,c,H⟩:=Q.on o v;rw[D,List.find?_append]at c;rw[List.find?_append];cases hf:(l.take k).find? (aX o)with
     | some z =>
      rw[hf]at c;injection c with c
      subst c;exact⟨z,rfl,H⟩
     | none =>
      rw[hf,Option.none_or,List.find?_cons]at c;have I:aX o A=false:=by
       cases f:aX o A with
       | false=>rfl
       | true=>exact absurd ((dM.1 f).symm.trans e) eo
      have J:aX o x=false:=by
       cases f:aX o x with
       | false=>rfl
       | true=>exact absurd (dM.1 f).symm (hkey o v eo)
      rw[I]at c;simp only[Option.none_or,List.find?_cons,J,Bz];simp only at c;rw[c];exact⟨_,rfl,H⟩
   ·show(List.map ByteArray.toList (List.map (cR s x.name) q.on)).Nodup
    have E:=Q.dup;unfold List.Nodup at E ⊢;rw[List.map_map,List.pairwise_map];rw[List.pairwise_map]at E;refine E.imp_of_mem fun{a b} ha f hab=>?_
    show(cR s x.name a).toList≠(cR s x.name b).toList
    unfold cR;by_cases ea:a.toList=s.toList
    ·rw[if_pos (gY.2 ea),if_neg (fun m=>hab (ea.trans (gY.1 m).symm))]
     exact(hkey b f (fun m=>hab (ea.trans m.symm))).symm
    ·rw[if_neg (fun m=>ea (gY.1 m))]
     by_cases eb:b.toList=s.toList
     ·rw[if_pos (gY.2 eb)];exact hkey a ha ea
     ·rw[if_neg (fun m=>eb (gY.1 m))]
      exact hab
theorem qG{l d:List ah}{c:bQ}(h:aE l)(hc:bL l c=some d):aE d:=by
 unfold bL at hc;split at hc
 ·split at hc
  ·rename_i a;injection hc with hc
   subst hc;exact h.append a.2.1 a.2.2
  ·cases hc
 ·split at hc
  ·split at hc
   ·rename_i a;injection hc with hc
    subst hc;obtain⟨_,_,p,b,e⟩:=fU a.2.1;exact h.erase b e a.2.2
   ·cases hc
  ·split at hc
   ·split at hc
    ·rename_i a;injection hc with hc
     subst hc;obtain⟨_,_,p,b,e⟩:=fU a.1;exact h.swap b e a.2.1 a.2.2
    ·cases hc
   ·cases hc
end
section
variable{s:ByteArray}{day:Int}{i k:Nat}
noncomputable def fa(day:Int)(s:Option (List ah×Int×List ah))(c:bQ):Option (List ah×Int×List ah) :=
 match s with
 | none=>none
 | some (l,last,now)=>if inB last 40000 c.day then(bL l c).map fun l'=>(l',c.day,if c.day≤day then l' else now)else none
noncomputable def dd(day:Int)(l:List ah)(cs:List bQ):Option (List ah×Int×List ah):=cs.foldl (fa day) (some (l,0,l))
structure bS(l:List ah)(cs:List bQ):Prop where
 ship:aE l
 len:cs.length≤8
 run:(dd 0 l cs).isSome=true
noncomputable def aA(day:Int)(l:List ah)(cs:List bQ):List ah:=match dd day l cs with
 | some s=>s.2.2
 | none=>[]
theorem nP{l:List ah}{cs:List bQ}{c:bQ}(h:cs[k]?=some c):dd day l (cs.take (k+1))=fa day (dd day l (cs.take k)) c:=by unfold dd;rw[List.take_add_one,h];simp
theorem tp(day:Int)(cs:List bQ):cs.foldl (fa day) none=none:=by
 induction cs with
 | nil=>rfl
 | cons c cs ih=>exact ih
theorem qH{l:List ah}{cs:List bQ}(h:dd day l (cs.take k)=none):dd day l cs=none:=by
 have e:dd day l cs=(cs.drop k).foldl (fa day) (dd day l (cs.take k)):=by unfold dd;rw[←List.foldl_append,List.take_append_drop]
 rw[e,h,tp]
theorem BA(d f:Int)(s b:Option (List ah×Int×List ah))(c:bQ)(h:s.map (fun x=>(x.1,x.2.1))=b.map (fun x=>(x.1,x.2.1))) :
  (fa d s c).map (fun x=>(x.1,x.2.1))=(fa f b c).map (fun x=>(x.1,x.2.1)):=by
 cases s with
 | none=>cases b with
  | none=>rfl
  | some y=>cases h
 | some x=>cases b with
  | none=>cases h
  | some y =>
   obtain⟨l,a,n⟩:=x;obtain⟨l',a',n'⟩:=y;simp only[Option.map_some,Option.some.injEq,Prod.mk.injEq]at h;obtain⟨rfl,rfl⟩:=h;unfold fa;simp only;split
   ·cases bL l c<;>rfl
   ·rfl
theorem BC(d b:Int)(l:List ah)(cs:List bQ):(dd d l cs).map (fun x=>(x.1,x.2.1))=(dd b l cs).map (fun x=>(x.1,x.2.1)):=by
 have:∀(cs:List bQ) (s a:Option (List ah×Int×List ah)),s.map (fun x=>(x.1,x.2.1))=a.map (fun x=>(x.1,x.2.1))→(cs.foldl (fa d) s).map (fun x=>(x.1,x.2.1))=(cs.foldl (fa b) a).map (fun x=>(x.1,x.2.1)):=by
  intro cs;induction cs with
  | nil=>intro s a h;exact h
  | cons c cs ih=>intro s a h;exact ih _ _ (BA d b s a c h)
 exact this cs _ _ rfl
theorem oX(d a:Int)(l:List ah)(cs:List bQ):(dd d l cs).isSome=(dd a l cs).isSome:=by have:=BC d a l cs;cases h:dd d l cs<;>cases h':dd a l cs<;>rw[h,h']at this<;>first | rfl | cases this
theorem tq{l:List ah}{last:Int}{now:List ah}{c:bQ}{x:List ah×Int×List ah}(b:aE l)(d:aE now)(h:fa day (some (l,last,now)) c=some x):aE x.1∧aE x.2.2:=by
 unfold fa at h;simp only at h;split at h
 ·cases hc:bL l c with
  | none=>rw[hc]at h;cases h
  | some l' =>
   rw[hc]at h;injection h with h
   subst h;have a:=qG b hc;refine⟨a, ?_⟩;show aE (if c.day≤day then l' else now)
   split
   ·exact a
   ·exact d
 ·cases h
theorem BD{l:List ah}(g:aE l):∀(cs:List bQ) (x:List ah×Int×List ah),dd day l cs=some x→aE x.1∧aE x.2.2:=by
 have:∀(cs:List bQ) (s:List ah×Int×List ah),aE s.1→aE s.2.2→∀x,cs.foldl (fa day) (some s)=some x→aE x.1∧aE x.2.2:=by
  intro cs;induction cs with
  | nil=>intro s d f x h;injection h with h;subst h;exact⟨d,f⟩
  | cons c cs ih =>
   intro s d f x h;obtain⟨a,b,n⟩:=s;rw[List.foldl_cons]at h;cases hs:fa day (some (a,b,n)) c with
   | none=>rw[hs,tp]at h;cases h
   | some y =>
    rw[hs]at h;obtain⟨j,m⟩:=tq d f hs;exact ih y j m x h
 exact fun cs x h=>this cs _ g g x h
theorem kT{l:List ah}{cs:List bQ}(h:bS l cs)(day:Int):aE (aA day l cs):=by
 have a:=h.run;rw[oX 0 day]at a;unfold aA;cases hr:dd day l cs with
 | none=>rw[hr]at a;cases a
 | some x=>exact(BD h.ship cs x hr).2
def kU(l:List ah)(s:ByteArray):Nat→List Bool
 | 0=>[]
 | n+1=>kU l s n++[match l[n]? with
  | none=>false
  | some p=>standsB p s||p.on.any fun o=>(kU l s n).getD (aL l o) false]
theorem qI(l:List ah)(s:ByteArray):∀n,(kU l s n).length=n:=by
 intro n;induction n with
 | zero=>rfl
 | succ n ih=>simp[kU,ih]
def jn(l:List ah)(s:ByteArray)(i:Nat):Bool:=(kU l s (i+1)).getD i false
theorem tt(l:List ah)(s:ByteArray)(i n:Nat)(h:i<n):(kU l s n).getD i false=jn l s i:=by
 induction n with
 | zero=>omega
 | succ n ih =>
  rcases Nat.lt_or_ge i n with hlt | hge
  ·rw[←ih hlt];show(kU l s n++_).getD i false=_
   rw[List.getD_eq_getElem?_getD,List.getElem?_append_left (by rw[qI];exact hlt),←List.getD_eq_getElem?_getD]
  ·obtain rfl:i=n:=by omega
   rfl
theorem BE{l:List ah}{p:ah}(c:l[i]?=some p)(b:∀o∈p.on,aL l o<i) :
  jn l s i=(standsB p s||p.on.any fun o=>jn l s (aL l o)):=by
 unfold jn;show(kU l s i++_).getD i false=_
 rw[List.getD_eq_getElem?_getD,List.getElem?_append_right (by rw[qI];omega),qI,Nat.sub_self,List.getElem?_cons_zero,c]
 simp only[Option.getD_some]
 congr 1
 rw[Bool.eq_iff_iff];simp only[List.any_eq_true];constructor
 ·rintro⟨o,a,h⟩;exact⟨o,a,by rw[tt l s _ _ (b o a)]at h;exact h⟩
 ·rintro⟨o,a,h⟩;exact⟨o,a,by rw[tt l s _ _ (b o a)];exact h⟩
theorem aE.below{l:List ah}(h:aE l){p:ah}(b:l[i]?=some p){o:ByteArray}(d:o∈p.on):aL l o<i∧∃y,l[aL l o]?=some y∧y.name.toList=o.toList∧dN p y=true:=by
 obtain⟨y,f,c⟩:=(h.part i p b).on o d;obtain⟨j,_,hj,ey⟩:=nO f;rw[List.getElem?_take]at hj;split at hj
 ·rename_i a;obtain⟨_,e2,_⟩:=h.find hj ey;rw[e2];exact⟨a,y,hj,ey,c⟩
 ·cases hj
def jH(l:List ah)(s:ByteArray)(n:Nat):List ByteArray:=(List.range n).filterMap fun i=>match l[i]? with
 | none=>none
 | some p=>if jn l s i then some p.name else none
theorem BF{l:List ah}{n:Nat}{p:ah}(h:l[n]?=some p):jH l s (n+1)=jH l s n++(if jn l s n then[p.name]else[]):=by unfold jH;rw[List.range_succ,List.filterMap_append];simp only[List.filterMap_cons,List.filterMap_nil,h];split<;>rename_i a<;>split at a<;>first | (injection a with a;subst a;simp_all) | simp_all
end
end Go.Proofs.YtbillnhcmkpohaaGreatDoor
namespace Go.Proofs.YtbillnhcmkpohaaGreatDoor
open Go.RowKit
section
variable{x:ByteArray}{c i:Nat}
theorem tu(a:i≠0)(h:(97≤c∧c≤122)∨(48≤c∧c≤57)):dZ i c=true:=by simp[dZ,a];omega
theorem qJ(h:¬((97≤c∧c≤122)∨(48≤c∧c≤57))):dZ i c=false:=by simp[dZ];omega
theorem BG(s:ByteArray)(w:World)(B:s.size≤maxLen) :
  Cs 32 #[.string s] w (Rt w (.bool (du s))):=by
 unfold maxLen at B;by_cases hb:1≤s.size∧s.size≤16
 ·obtain⟨v,y⟩:=hb;have p:inB 1 16 (s.size:Int)=true:=cX (by omega) (by omega)
  obtain⟨c,hc⟩:∃c:Nat,(s[0]'(by omega)).toNat=c:=⟨_,rfl⟩
  have g:gW s 0=c:=by rw[←hc];simp only[gW];rw[dif_pos (by omega)]
  have f:=Lq g;clear g;have fin0:dZ 0 c=false→du s=false:=fun h=>ky (n:=0) (by rw[f.out];exact h) (by omega)
  have a:=Lq fin0;clear fin0;by_cases c1:c<97
  ·go_enter Tryz.func32,Tryz.ntmps32
   go_wp2_with (go_at_call 15;refine(iN _ _ _ _).mono ?_;rintro e w' ⟨rfl,rfl⟩)
   go_ret
   exact⟨aY (a.out (by simp[dZ];omega)).symm,Below.refl _ _⟩
  by_cases c2:122<c
  ·have u:97≤c:=by omega
   go_enter Tryz.func32,Tryz.ntmps32
   go_wp2_with (go_at_call 15;refine(iN _ _ _ _).mono ?_;rintro e w' ⟨rfl,rfl⟩)
   go_ret
   exact⟨aY (a.out (by simp[dZ];omega)).symm,Below.refl _ _⟩
  have u:97≤c:=by omega
  have C:c≤122:=by omega
  have q:jF s 1=true:=by rw[nL,f.out];simp[jF,dZ];omega
  have t:=Lq q;clear q;go_enter Tryz.func32,Tryz.ntmps32
  go_wp2_with (go_at_call 15;refine(iN _ _ _ _).mono ?_;rintro e w' ⟨rfl,rfl⟩)
  go_loopw [3] (fun i w'=>∃k n:Nat,w'=w.drewN n∧1≤k∧k≤s.size∧i=iv k∧jF s k=true) (fun i _=>s.size-(intOf i).toNat)
  case atStart=>exact⟨1,0,rfl,by omega,by omega,rfl,t.out⟩
  case round =>
   obtain⟨k,n,rfl,A,D,rfl,r⟩:=hrel;have HO:=Lq r;clear r hc;by_cases hlt:k<s.size
   ·obtain⟨d,z⟩:∃d:Nat,(s[k]'hlt).toNat=d:=⟨_,rfl⟩;have hb:gW s k=d:=by rw[←z];simp only[gW];rw[dif_pos hlt]
    have b:=Lq hb;clear hb;by_cases d1:d<48
    ·skip;have j:decide ((97:Int)≤(d:Int))=false:=by simp;omega
     have l:decide ((d:Int)≤122)=true:=by simp;omega
     have m:decide ((48:Int)≤(d:Int))=false:=by simp;omega
     have o:decide ((d:Int)≤57)=true:=by simp;omega
     go_wp2
     go_quiet (fail)
     go_wp2
     go_ret
     exact⟨aY (ky (n:=k) (by rw[b.out];exact qJ (by omega)) hlt).symm,mI (Below.refl _ _) _⟩
    by_cases d2:d≤57
    ·skip;have j:decide ((97:Int)≤(d:Int))=false:=by simp;omega
     have l:decide ((d:Int)≤122)=true:=by simp;omega
     have m:decide ((48:Int)≤(d:Int))=true:=by simp;omega
     have o:decide ((d:Int)≤57)=true:=by simp;omega
     go_wp2
     go_quiet (fail)
     go_wp2
     go_roundw
     case rel=>exact⟨k+1,_,rfl,by omega,by omega,by go_num,by rw[nL,HO.out,b.out,tu (by omega) (by omega)];rfl⟩
     case measure=>simp[intOf];omega
    by_cases d3:d<97
    ·skip;have j:decide ((97:Int)≤(d:Int))=false:=by simp;omega
     have l:decide ((d:Int)≤122)=true:=by simp;omega
     have m:decide ((48:Int)≤(d:Int))=true:=by simp;omega
     have o:decide ((d:Int)≤57)=false:=by simp;omega
     go_wp2
     go_quiet (fail)
     go_wp2
     go_ret
     exact⟨aY (ky (n:=k) (by rw[b.out];exact qJ (by omega)) hlt).symm,mI (Below.refl _ _) _⟩
    by_cases d4:d≤122
    ·skip;have j:decide ((97:Int)≤(d:Int))=true:=by simp;omega
     have l:decide ((d:Int)≤122)=true:=by simp;omega
     have m:decide ((48:Int)≤(d:Int))=true:=by simp;omega
     have o:decide ((d:Int)≤57)=false:=by simp;omega
     go_wp2
     go_quiet (fail)
     go_wp2
     go_roundw
     case rel=>exact⟨k+1,_,rfl,by omega,by omega,by go_num,by rw[nL,HO.out,b.out,tu (by omega) (by omega)];rfl⟩
     case measure=>simp[intOf];omega
    ·skip;have j:decide ((97:Int)≤(d:Int))=true:=by simp;omega
     have l:decide ((d:Int)≤122)=false:=by simp;omega
     have m:decide ((48:Int)≤(d:Int))=true:=by simp;omega
     have o:decide ((d:Int)≤57)=false:=by simp;omega
     go_wp2
     go_quiet (fail)
     go_wp2
     go_ret
     exact⟨aY (ky (n:=k) (by rw[b.out];exact qJ (by omega)) hlt).symm,mI (Below.refl _ _) _⟩
   ·go_wp2
    go_ret
    obtain rfl:k=s.size:=by omega
    exact⟨aY (by unfold du;rw[HO.out];simp;omega),mI (Below.refl _ _) _⟩
 ·have p:inB 1 16 (s.size:Int)=false:=Bi (by omega)
  have b:=Lq hb;clear hb;go_enter Tryz.func32,Tryz.ntmps32
  go_wp2_with (go_at_call 15;refine(iN _ _ _ _).mono ?_;rintro e w' ⟨rfl,rfl⟩)
  go_ret
  exact⟨aY (by have:=b.out;unfold du;rw[Bool.eq_iff_iff];simp;omega),Below.refl _ _⟩
def cK(l:List ByteArray)(s:ByteArray):Bool:=l.any fun x=>x.toList==s.toList
theorem toList_inj{y:ByteArray}(h:x.toList=y.toList):x=y:=by rw[ByteArray.toList_eq,ByteArray.toList_eq]at h;cases x;cases y;simp only at h;rw[Array.toList_inj]at h;rw[h]
theorem tw(l:List ByteArray)(s:ByteArray)(k:Nat)(x:ByteArray)(hx:l[k]?=some x):cK (l.take (k+1)) s=(cK (l.take k) s||x.toList==s.toList):=by unfold cK;obtain⟨h,rfl⟩:=List.getElem?_eq_some_iff.1 hx;rw[List.take_succ_eq_append_getElem h,List.any_append];simp
theorem tx{l:List ByteArray}{s:ByteArray}{k:Nat}(hx:l[k]?=some x)(h:(x.toList==s.toList)=true):cK l s=true:=by unfold cK;rw[List.any_eq_true];exact⟨x,List.mem_of_getElem? hx,h⟩
theorem BH(A:Option Addr)(l:List ByteArray)(B cap:Nat)(s:ByteArray)(w:World)(g:l.length≤maxLen)(f:am .string w B A l) :
  Cs 35 #[.slice A l.length cap,.string s] w (qB (cK l s) w):=by
 unfold maxLen at g;go_enter Tryz.func35,Tryz.ntmps35
 go_wp2
 go_loop [5] (fun i=>∃k:Nat,k≤l.length∧i=iv k∧cK (l.take k) s=false) (fun i=>l.length-(intOf i).toNat)
 case atStart=>exact⟨0,Nat.zero_le _,rfl,by simp[cK]⟩
 case round =>
  obtain⟨k,h,rfl,a⟩:=hrel;have HN:=Lq a;clear a;by_cases hlt:k<l.length
  ·obtain⟨x,hx⟩:=gX (l:=l) (i:=k) hlt;obtain⟨b,off,rfl,_,hck⟩:=f k x hx;have HX:=Lq hx;clear hx;cases hp:(x.toList==s.toList)
   ·have d:=Lq hp;go_wp2
    go_round
    case rel=>exact⟨k+1,by omega,by go_num,by rw[tw _ _ _ _ HX.out,HN.out,d.out];rfl⟩
    case measure=>simp[intOf];omega
   ·have d:=Lq hp;go_wp2
    go_ret
    exact⟨k,rfl,by rw[tx HX.out d.out];simp,rfl⟩
  ·go_wp2
   go_ret
   refine⟨-1,rfl, ?_,rfl⟩;have a:=HN.out;rw[List.take_of_length_le (by omega)]at a
   rw[a];rfl
end
section
variable{b o:Nat}{v:Value}
theorem br{w:World}(h:w.cell? ⟨b,o,none⟩=some v):b<w.heap.size:=by
 rcases Nat.lt_or_ge b w.heap.size with hlt | hge
 ·exact hlt
 ·simp[World.cell?,Array.getElem?_eq_none hge]at h
theorem kC{W a:World}(c:BW W a)(h:W.cell? ⟨b,o,none⟩=some v):a.cell? ⟨b,o,none⟩=some v :=
 (c.cell (p:=⟨b,o,none⟩) (br h)).trans h
end
section
variable{base n size:Nat}{v:Value}{w:World}
abbrev nv(n:Nat):Value:=iv (n:Int)
theorem gI{e:TypeId}{xs:List Value}(h:w.ownsRow base e size v n xs)(b:0<n) :
  ∃g cap,v=.slice (some ⟨g,0,none⟩) n cap∧base≤g∧g<w.heap.size∧n≤cap:=by
 obtain⟨_,a⟩:=h;rcases a with⟨_,h0⟩ | ⟨g,cap,cur,hv,hb,hh,hc,_⟩
 ·omega
 ·refine⟨g,cap,hv,hb, ?_,hc⟩;rcases Nat.lt_or_ge g w.heap.size with hlt | hge
  ·exact hlt
  ·rw[Array.getElem?_eq_none hge]at hh;cases hh
theorem io{α:Type}{enc:α→Value}{e:TypeId}{xs:List α}(h:w.ownsRow base e 1 v xs.length (xs.map enc)) :
  ∃A cap,v=.slice A xs.length cap∧am enc w w.heap.size A xs∧(∀b a,A=some ⟨b,a,none⟩→base≤b∧a=0):=by
 have c:=h;obtain⟨_,h2⟩:=h;rcases h2 with⟨rfl,h0⟩ | ⟨g,cap,cur,hv,hb,hh,hc,_⟩
 ·exact⟨none,0,by rw[h0],by have:xs=[]:=List.length_eq_zero_iff.1 h0;subst this;exact am.nil,by intro b a h;cases h⟩
 ·refine⟨some ⟨g,0,none⟩,cap,hv, ?_,by intro b a h;injection h with h;injection h with h1 h2;subst h1 h2;exact⟨hb,rfl⟩⟩
  intro i x hx;have hlt:g<w.heap.size:=by
   rcases Nat.lt_or_ge g w.heap.size with hlt | hge
   ·exact hlt
   ·rw[Array.getElem?_eq_none hge]at hh;cases hh
  subst hv;refine⟨g,0,rfl,hlt, ?_⟩;have d:i<xs.length:=(lG hx);rw[Nat.zero_add,c.cellAt i (by omega),List.getElem?_map,hx]
  rfl
theorem cC{a w':World}{e:TypeId}{xs:List Value}(h:w.ownsRow base e size v n xs)(c:w.grownBy w' v.ownBlock)(f:a.heap.size≤base)(b:BW a w):BW a w' :=
 b.grown c b.size (fun k d=>by have:=(h.lt k d).1;omega)
theorem fK(w:World)(v:Value)(t:TypeId):∀j u,[v][j]?=some u→(w.alloc (.cells #[v] t)).cell? ((⟨w.heap.size,0,none⟩:Addr).add j)=some u:=cell_one_new w v t
end
section
variable{k:Nat}
theorem fV{α:Type}{encs:α→List Value}(a:∀x,(encs x).length=k):∀xs:List α,(xs.flatMap encs).length=xs.length*k:=by
 intro xs;induction xs with
 | nil=>simp
 | cons x xs ih=>simp[List.flatMap_cons,a,ih,Nat.succ_mul];omega
theorem jo{α:Type}{encs:α→List Value}(a:∀x,(encs x).length=k):∀(xs:List α) (i:Nat) (x:α),xs[i]?=some x→∀j v,(encs x)[j]?=some v→(xs.flatMap encs)[i*k+j]?=some v:=by
 intro xs;induction xs with
 | nil=>intro i x h;simp at h
 | cons y xs ih =>
  intro i x h j v b;have hj:j<k:=by rw[←a x];exact(lG b)
  cases i with
  | zero =>
   simp only[List.getElem?_cons_zero,Option.some.injEq]at h;subst h;rw[List.flatMap_cons,Nat.zero_mul,Nat.zero_add,List.getElem?_append_left (by rw[a];exact hj)]
   exact b
  | succ i =>
   simp only[List.getElem?_cons_succ]at h;rw[List.flatMap_cons,List.getElem?_append_right (by rw[a,Nat.succ_mul];omega),a]
   have e:(i+1)*k+j-k=i*k+j:=by rw[Nat.succ_mul];omega
   rw[e];exact ih i x h j v b
theorem jp{α:Type}{encs:α→List Value}(c:∀x,(encs x).length=k){w:World}{base:Nat}{e:TypeId}{v:Value}{xs:List α}(h:w.ownsRow base e k v xs.length (xs.flatMap encs)) :
  ∃A cap,v=.slice A xs.length cap∧aG k encs w w.heap.size A xs∧(∀b a,A=some ⟨b,a,none⟩→base≤b∧a=0)∧xs.length≤cap∧cap≤maxLen:=by
 have d:=h;obtain⟨_,h2⟩:=h;rcases h2 with⟨rfl,h0⟩ | ⟨g,cap,cur,hv,hb,hh,hc,hcm,_⟩
 ·have:xs=[]:=List.length_eq_zero_iff.1 h0;subst this;exact⟨none,0,rfl,aG.nil,(by intro b a h;cases h),lr _,Nat.zero_le _⟩
 ·refine⟨some ⟨g,0,none⟩,cap,hv, ?_,by intro b a h;injection h with h;injection h with h1 h2;subst h1 h2;exact⟨hb,rfl⟩,hc,hcm⟩
  intro i x hx;have hlt:g<w.heap.size:=by
   rcases Nat.lt_or_ge g w.heap.size with hlt | hge
   ·exact hlt
   ·rw[Array.getElem?_eq_none hge]at hh;cases hh
  subst hv;refine⟨g,0,rfl,hlt, ?_⟩;intro j u f;have hf:=jo c xs i x hx j u f;have hlt2:i*k+j<(xs.flatMap encs).length:=(lG hf);rw[fV c]at hlt2;rw[Nat.zero_add,d.cellAt (i*k+j) hlt2];exact hf
theorem fW(w:World)(l:List Value)(t:TypeId):∀j u,l[j]?=some u→(w.alloc (.cells l.toArray t)).cell? ((⟨w.heap.size,0,none⟩:Addr).add j)=some u:=by
 intro j u h;have hh:(w.alloc (.cells l.toArray t)).heap[w.heap.size]?=some (.cells l.toArray t):=by rw[←World.alloc_eq];simp
 have hc:∀o,(w.alloc (.cells l.toArray t)).cell? ⟨w.heap.size,o,none⟩=l[o]?:=fun o=>by simp only[World.cell?,hh];simp
 rcases Nat.eq_zero_or_pos j with rfl | hj
 ·rw[show(⟨w.heap.size,0,none⟩:Addr).add 0=⟨w.heap.size,0,none⟩from rfl,hc];exact h
 ·rw[show(⟨w.heap.size,0,none⟩:Addr).add j=⟨w.heap.size,j,none⟩from by unfold Addr.add;rw[if_neg (by omega)];simp,hc];exact h
end
section
variable{B b base k n o:Nat}{A:Option Addr}{v:Value}{w:World}
structure ai(W wx:World)(g:Nat):Prop where
 os:wx.os=W.os
 tape:wx.tape=W.tape
 output:wx.output=W.output
 size:W.heap.size≤wx.heap.size
 block:∀k,k<W.heap.size→k≠g→wx.heap[k]?=W.heap[k]?
section
variable {a W wx:World} {g:Nat}
theorem ai.of_below(h:BW W wx)(g:Nat):ai W wx g:=⟨h.os,h.tape,h.output,h.size,fun k c _=>h.block k c⟩
theorem ai.of_set(h:BW W wx)(g k:Nat)(u:Value):ai W (wx.setCell ⟨g,k,none⟩ u) g :=
 ⟨h.os,h.tape,h.output,by simp only[World.size_setCell];exact h.size,fun i d c=>(Below.heap_setCell wx ⟨g,k,none⟩ u i c).trans (h.block i d)⟩
theorem ai.drew(h:ai W wx g):ai W wx.drew g:=⟨h.os,h.tape,h.output,h.size,h.block⟩
theorem ai.set(h:ai W wx g)(k:Nat)(u:Value):ai W (wx.setCell ⟨g,k,none⟩ u) g :=
 ⟨h.os,h.tape,h.output,by simp only[World.size_setCell];exact h.size,fun i d c=>(Below.heap_setCell wx ⟨g,k,none⟩ u i c).trans (h.block i d c)⟩
theorem ai.cell(h:ai W wx g)(hc:W.cell? ⟨b,o,none⟩=some v)(c:b≠g):wx.cell? ⟨b,o,none⟩=some v :=
 (World.cell?_of_block (w:=W) (a:=⟨b,o,none⟩) (h.block b (br hc) c)).trans hc
theorem ai.frozen(h:ai W wx g)(o:Nat)(c:b<W.heap.size)(d:b≠g):wx.frozen? ⟨b,o,none⟩=W.frozen? ⟨b,o,none⟩ :=
 World.frozen?_of_block (w:=W) (a:=⟨b,o,none⟩) (h.block b c d)
theorem ai.below(h:ai W wx g)(c:BW a W)(f:a.heap.size≤g):BW a wx :=
 ⟨h.os.trans c.os,h.tape.trans c.tape,h.output.trans c.output,lT c.size h.size,fun k d=>(h.block k (lz d c.size) (by omega)).trans (c.block k d)⟩
theorem ai.rd1{α:Type}{enc:α→Value}{xs:List α}(h:ai W wx g)(c:am enc W B A xs)(d:B≤g):am enc wx B A xs:=by intro i x hx;obtain⟨b,off,e,hb,hc⟩:=c i x hx;exact⟨b,off,e,hb,h.cell hc (by omega)⟩
theorem ai.rdN{α:Type}{enc:α→List Value}{xs:List α}(h:ai W wx g)(c:aG k enc W B A xs)(d:B≤g):aG k enc wx B A xs:=by intro i x hx;obtain⟨b,off,e,hb,hc⟩:=c i x hx;exact⟨b,off,e,hb,fun j u hu=>h.cell (hc j u hu) (by omega)⟩
theorem ai.own{e:TypeId}{size:Nat}{xs:List Value}(h:ai W wx g)(i:W.ownsRow base e size v n xs)(f:v.ownBlock≠some g):wx.ownsRow base e size v n xs:=by
 obtain⟨c,d⟩:=i;refine⟨c,d.imp id ?_⟩;rintro⟨g',cap,cur,hv,hb,hh,r⟩;subst hv;have hlt:g'<W.heap.size:=by
  rcases Nat.lt_or_ge g' W.heap.size with hlt | hge
  ·exact hlt
  ·rw[Array.getElem?_eq_none hge]at hh;cases hh
 exact⟨g',cap,cur,rfl,hb,(h.block g' hlt (fun e=>f (by rw[e];rfl))).trans hh,r⟩
end
theorem fc{a:World}(h:Below B a w):Below B a w.drew:=⟨h.os,h.tape,h.output,h.size,h.block⟩
theorem kV{g:Nat}{u:Value}(h:w.cell? ⟨b,o,none⟩=some v)(c:b≠g):(w.setCell ⟨g,k,none⟩ u).cell? ⟨b,o,none⟩=some v :=
 (World.cell?_of_block (w:=w) (a:=⟨b,o,none⟩) (Below.heap_setCell w ⟨g,k,none⟩ u b c)).trans h
theorem BI{α:Type}{enc:α→Value}{e:TypeId}{cap:Nat}{xs:List α}(h:w.ownsRow base e 1 (.slice A n cap) n (xs.map enc))(i:xs.length=n):am enc w w.heap.size A xs:=by
 subst i;obtain⟨j,d,c,f,_⟩:=io h;injection c with c _ _
 subst c;exact f
/-! A copy with one element more: the empty literal,and the element's own block,in either order. -/
theorem kW(b:Nat)(j:Nat):((⟨b,0,none⟩:Addr).add j)=⟨b,j,none⟩:=by
 unfold Addr.add;rcases Nat.eq_zero_or_pos j with rfl | hj
 ·rfl
 ·rw[if_neg (by omega)];simp
theorem lX(b o:Nat)(j:Nat):((⟨b,o,none⟩:Addr).add j)=⟨b,o+j,none⟩:=by
 unfold Addr.add;rcases Nat.eq_zero_or_pos j with rfl | hj
 ·rfl
 ·rw[if_neg (by omega)]
end
def fX(w:World)(size:Nat)(src:Value)(m:Nat)(news:List Value):Prop :=
 (src=.slice none 0 0∧m=0∧news=[])∨∃(ad:Addr) (c:Nat),src=.slice (some ad) m c∧news.length=m*size∧(∀j u,news[j]?=some u→w.cell? (ad.add j)=some u)∧∀u∈news,u.oneCell'=true
theorem oY(w:World)(r:Option Nat):w.grownBy w r:=⟨rfl,rfl,rfl,lr _,fun _ _ _=>rfl⟩
theorem kX{P:Program}{w:World}{ops:Array Oper}{o:Oper}{a:Act}{K:Act→World→Prop}{Q:Exit→Act→World→Prop}{E:Prop}(u:o.guard=none)(s x:Operand)(t:TypeId)(D:o.op=.call { callee:=.builtin .append,args:=#[s,x],argTypes:=#[t,t] })(base:Nat)(e:TypeId)(i:TypeInfo)(z:Value)(size b:Nat)(G:P.underlying t=some (.slice e))(C:P.info? e=some i)(L:i.zero=some z)(k:i.size=size)(r:i.bytes=b)(B:z.cells.size=size)(A:0<size)(v:Value)(n:Nat)(xs:List Value)(F:a.eval s=v)(d:w.ownsRow base e size v n xs)(p:Value)(m:Nat)(f:List Value)(hx:a.eval x=p)(l:fX w size p m f)(q:n+m≤maxLen)(g:(n+m)*b≤140737488355328)(j:base≤w.heap.size)(h:∀v' w',w'.ownsRow base e size v' (n+m) (xs++f)→w.grownBy w' v.ownBlock→K (a.put o.dst v') w') :
  if Region.wanted o (yielded ops a.tmps)=true then Oper.wp P o a w K Q else E:=by
 have J:Region.wanted o (yielded ops a.tmps)=true:=by simp[Region.wanted,u]
 rw[if_pos J];rcases l with⟨rfl,rfl,rfl⟩ | ⟨ad,c,rfl,hl,hnews,h1⟩
 ·have y:=run_append_owned_none (P:=P) w base t o.type e i size G C v n xs d;unfold Oper.wp execOp;simp only[D,resolve,invoke,builtin,Sem.run_bind,Sem.run_pure,Result.andThen_ok,List.map_toArray,List.map_cons,List.map_nil,F,hx,y];exact h v w (by simpa using d) (oY _ _)
 ·obtain⟨v',w',y,H,I,_,_⟩:=run_append_own_at (P:=P) w base t o.type e i z size b G C L k r B A v n xs d ad m c f hl hnews h1 q g j;unfold Oper.wp execOp;simp only[D,resolve,invoke,builtin,Sem.run_bind,Sem.run_pure,Result.andThen_ok,List.map_toArray,List.map_cons,List.map_nil,F,hx,y];exact h v' w' H I
end Go.Proofs.YtbillnhcmkpohaaGreatDoor
namespace Go.Proofs.YtbillnhcmkpohaaGreatDoor
open Go.RowKit Go.Shelf
def aa(w:World)(g:Nat)(t:TypeId)(cs:Array Value):Prop:=w.heap[g]?=some (.cells cs t (0,0))
section
variable {w w':World} {g:Nat} {t:TypeId} {cs:Array Value}
theorem aa.lt(h:aa w g t cs):g<w.heap.size:=by
 rcases Nat.lt_or_ge g w.heap.size with hlt | hge
 ·exact hlt
 ·unfold aa at h;rw[Array.getElem?_eq_none hge]at h;cases h
theorem aa.cell(h:aa w g t cs)(i:Nat):w.cell? ⟨g,i,none⟩=cs[i]?:=by unfold aa at h;simp[World.cell?,h]
theorem aa.frozen(h:aa w g t cs)(i:Nat):w.frozen? ⟨g,i,none⟩=false:=by unfold aa at h;simp[World.frozen?,h]
theorem aa.new(w:World)(t:TypeId)(cs:Array Value):aa (w.alloc (.cells cs t)) w.heap.size t cs:=by unfold aa;exact World.alloc_heap_new w _
theorem aa.alloc(h:aa w g t cs)(o:Obj):aa (w.alloc o) g t cs:=(Below.heap_alloc w o g h.lt).trans h
theorem aa.set_(h:aa w g t cs)(i:Nat)(u:Value):aa (w.setCell ⟨g,i,none⟩ u) g t (cs.setIfInBounds i u):=by unfold aa at h ⊢;simp[World.setCell,Array.getElem?_modify,h]
theorem aa.far(h:aa w g t cs){p:Addr}(a:g≠p.block)(u:Value):aa (w.setCell p u) g t cs:=(Below.heap_setCell w p u g a).trans h
theorem aa.same(h:aa w g t cs)(a:w'.heap[g]?=w.heap[g]?):aa w' g t cs:=a.trans h
theorem aa.grown{a:Option Nat}(h:aa w g t cs)(b:w.grownBy w' a)(c:some g≠a):aa w' g t cs:=(b.block g h.lt c).trans h
theorem ax{base:Nat}{e:TypeId}{size:Nat}{v:Value}{n:Nat}{xs:List Value}(h:w.ownsRow base e size v n xs)(b:aa w g t cs)(c:t≠e):some g≠v.ownBlock:=by
 intro a;rcases h.2 with⟨rfl,_⟩ | ⟨g',cap,cur,rfl,_,hg,_⟩
 ·cases a
 ·simp only[Value.ownBlock,Option.some.injEq]at a;subst a;unfold aa at b;rw[b]at hg;injection hg with hg
  injection hg with _ h2 _
  exact c h2
end
theorem hdd(k:Nat):(Fence.wide.depth.isSome=true→1≤k):=fun h=>by cases h
theorem oZ{B:Nat}(X:World){k:Nat}(b:B≤k)(o:Obj):Below B X (X.putObj k o) :=
 ⟨rfl,rfl,rfl,by simp[World.putObj],fun i a=>World.putObj_heap_other (by omega)⟩
theorem aa.c{w:World}{g:Nat}{t:TypeId}{cs:Array Value}(h:aa w g t cs)(i:Nat){v:Value}(a:cs[i]?=some v:=by(simp only[List.getElem?_toArray,List.getElem?_cons_zero,List.getElem?_cons_succ])<;>rfl):w.cell? ⟨g,i,none⟩=some v:=(h.cell i).trans a
theorem aa.c2{w:World}{g:Nat}{t:TypeId}{a b:Value}{l:List Value}(h:aa w g t (a::b::l).toArray):w.cell? ⟨g,0,none⟩=some a∧w.cell? ⟨g,1,none⟩=some b:=⟨h.cell 0,h.cell 1⟩
theorem aa.f2{w:World}{g:Nat}{t:TypeId}{cs:Array Value}(h:aa w g t cs):w.frozen? ⟨g,0,none⟩=false∧w.frozen? ⟨g,1,none⟩=false:=⟨h.frozen 0,h.frozen 1⟩
theorem aa.c3{w:World}{g:Nat}{t:TypeId}{a b c:Value}{l:List Value}(h:aa w g t (a::b::c::l).toArray):w.cell? ⟨g,0,none⟩=some a∧w.cell? ⟨g,1,none⟩=some b∧w.cell? ⟨g,2,none⟩=some c:=⟨h.cell 0,h.cell 1,h.cell 2⟩
theorem aa.f3{w:World}{g:Nat}{t:TypeId}{cs:Array Value}(h:aa w g t cs):w.frozen? ⟨g,0,none⟩=false∧w.frozen? ⟨g,1,none⟩=false∧w.frozen? ⟨g,2,none⟩=false:=⟨h.frozen 0,h.frozen 1,h.frozen 2⟩
theorem aa.c4{w:World}{g:Nat}{t:TypeId}{a b c d:Value}{l:List Value}(h:aa w g t (a::b::c::d::l).toArray):w.cell? ⟨g,0,none⟩=some a∧w.cell? ⟨g,1,none⟩=some b∧w.cell? ⟨g,2,none⟩=some c∧w.cell? ⟨g,3,none⟩=some d:=⟨h.cell 0,h.cell 1,h.cell 2,h.cell 3⟩
theorem aa.f4{w:World}{g:Nat}{t:TypeId}{cs:Array Value}(h:aa w g t cs):w.frozen? ⟨g,0,none⟩=false∧w.frozen? ⟨g,1,none⟩=false∧w.frozen? ⟨g,2,none⟩=false∧w.frozen? ⟨g,3,none⟩=false:=⟨h.frozen 0,h.frozen 1,h.frozen 2,h.frozen 3⟩
theorem aa.c5{w:World}{g:Nat}{t:TypeId}{a b c d f:Value}{l:List Value}(h:aa w g t (a::b::c::d::f::l).toArray):w.cell? ⟨g,0,none⟩=some a∧w.cell? ⟨g,1,none⟩=some b∧w.cell? ⟨g,2,none⟩=some c∧w.cell? ⟨g,3,none⟩=some d∧w.cell? ⟨g,4,none⟩=some f:=⟨h.cell 0,h.cell 1,h.cell 2,h.cell 3,h.cell 4⟩
theorem aa.f5{w:World}{g:Nat}{t:TypeId}{cs:Array Value}(h:aa w g t cs):w.frozen? ⟨g,0,none⟩=false∧w.frozen? ⟨g,1,none⟩=false∧w.frozen? ⟨g,2,none⟩=false∧w.frozen? ⟨g,3,none⟩=false∧w.frozen? ⟨g,4,none⟩=false:=⟨h.frozen 0,h.frozen 1,h.frozen 2,h.frozen 3,h.frozen 4⟩
theorem aa.c6{w:World}{g:Nat}{t:TypeId}{a b c d f i:Value}{l:List Value}(h:aa w g t (a::b::c::d::f::i::l).toArray):w.cell? ⟨g,0,none⟩=some a∧w.cell? ⟨g,1,none⟩=some b∧w.cell? ⟨g,2,none⟩=some c∧w.cell? ⟨g,3,none⟩=some d∧w.cell? ⟨g,4,none⟩=some f∧w.cell? ⟨g,5,none⟩=some i:=⟨h.cell 0,h.cell 1,h.cell 2,h.cell 3,h.cell 4,h.cell 5⟩
theorem aa.f6{w:World}{g:Nat}{t:TypeId}{cs:Array Value}(h:aa w g t cs):w.frozen? ⟨g,0,none⟩=false∧w.frozen? ⟨g,1,none⟩=false∧w.frozen? ⟨g,2,none⟩=false∧w.frozen? ⟨g,3,none⟩=false∧w.frozen? ⟨g,4,none⟩=false∧w.frozen? ⟨g,5,none⟩=false:=⟨h.frozen 0,h.frozen 1,h.frozen 2,h.frozen 3,h.frozen 4,h.frozen 5⟩
theorem aa.c7{w:World}{g:Nat}{t:TypeId}{a b c d f i j:Value}{l:List Value}(h:aa w g t (a::b::c::d::f::i::j::l).toArray):w.cell? ⟨g,0,none⟩=some a∧w.cell? ⟨g,1,none⟩=some b∧w.cell? ⟨g,2,none⟩=some c∧w.cell? ⟨g,3,none⟩=some d∧w.cell? ⟨g,4,none⟩=some f∧w.cell? ⟨g,5,none⟩=some i∧w.cell? ⟨g,6,none⟩=some j:=⟨h.cell 0,h.cell 1,h.cell 2,h.cell 3,h.cell 4,h.cell 5,h.cell 6⟩
theorem aa.f7{w:World}{g:Nat}{t:TypeId}{cs:Array Value}(h:aa w g t cs):w.frozen? ⟨g,0,none⟩=false∧w.frozen? ⟨g,1,none⟩=false∧w.frozen? ⟨g,2,none⟩=false∧w.frozen? ⟨g,3,none⟩=false∧w.frozen? ⟨g,4,none⟩=false∧w.frozen? ⟨g,5,none⟩=false∧w.frozen? ⟨g,6,none⟩=false:=⟨h.frozen 0,h.frozen 1,h.frozen 2,h.frozen 3,h.frozen 4,h.frozen 5,h.frozen 6⟩
theorem aa.c8{w:World}{g:Nat}{t:TypeId}{a b c d f i j k:Value}{l:List Value}(h:aa w g t (a::b::c::d::f::i::j::k::l).toArray):w.cell? ⟨g,0,none⟩=some a∧w.cell? ⟨g,1,none⟩=some b∧w.cell? ⟨g,2,none⟩=some c∧w.cell? ⟨g,3,none⟩=some d∧w.cell? ⟨g,4,none⟩=some f∧w.cell? ⟨g,5,none⟩=some i∧w.cell? ⟨g,6,none⟩=some j∧w.cell? ⟨g,7,none⟩=some k:=⟨h.cell 0,h.cell 1,h.cell 2,h.cell 3,h.cell 4,h.cell 5,h.cell 6,h.cell 7⟩
theorem aa.f8{w:World}{g:Nat}{t:TypeId}{cs:Array Value}(h:aa w g t cs):w.frozen? ⟨g,0,none⟩=false∧w.frozen? ⟨g,1,none⟩=false∧w.frozen? ⟨g,2,none⟩=false∧w.frozen? ⟨g,3,none⟩=false∧w.frozen? ⟨g,4,none⟩=false∧w.frozen? ⟨g,5,none⟩=false∧w.frozen? ⟨g,6,none⟩=false∧w.frozen? ⟨g,7,none⟩=false:=⟨h.frozen 0,h.frozen 1,h.frozen 2,h.frozen 3,h.frozen 4,h.frozen 5,h.frozen 6,h.frozen 7⟩
theorem aa.c9{w:World}{g:Nat}{t:TypeId}{a b c d f i j k m:Value}{l:List Value}(h:aa w g t (a::b::c::d::f::i::j::k::m::l).toArray):w.cell? ⟨g,0,none⟩=some a∧w.cell? ⟨g,1,none⟩=some b∧w.cell? ⟨g,2,none⟩=some c∧w.cell? ⟨g,3,none⟩=some d∧w.cell? ⟨g,4,none⟩=some f∧w.cell? ⟨g,5,none⟩=some i∧w.cell? ⟨g,6,none⟩=some j∧w.cell? ⟨g,7,none⟩=some k∧w.cell? ⟨g,8,none⟩=some m:=⟨h.cell 0,h.cell 1,h.cell 2,h.cell 3,h.cell 4,h.cell 5,h.cell 6,h.cell 7,h.cell 8⟩
theorem aa.f9{w:World}{g:Nat}{t:TypeId}{cs:Array Value}(h:aa w g t cs):w.frozen? ⟨g,0,none⟩=false∧w.frozen? ⟨g,1,none⟩=false∧w.frozen? ⟨g,2,none⟩=false∧w.frozen? ⟨g,3,none⟩=false∧w.frozen? ⟨g,4,none⟩=false∧w.frozen? ⟨g,5,none⟩=false∧w.frozen? ⟨g,6,none⟩=false∧w.frozen? ⟨g,7,none⟩=false∧w.frozen? ⟨g,8,none⟩=false:=⟨h.frozen 0,h.frozen 1,h.frozen 2,h.frozen 3,h.frozen 4,h.frozen 5,h.frozen 6,h.frozen 7,h.frozen 8⟩
theorem aa.c10{w:World}{g:Nat}{t:TypeId}{a b c d f i j k m n:Value}{l:List Value}(h:aa w g t (a::b::c::d::f::i::j::k::m::n::l).toArray):w.cell? ⟨g,0,none⟩=some a∧w.cell? ⟨g,1,none⟩=some b∧w.cell? ⟨g,2,none⟩=some c∧w.cell? ⟨g,3,none⟩=some d∧w.cell? ⟨g,4,none⟩=some f∧w.cell? ⟨g,5,none⟩=some i∧w.cell? ⟨g,6,none⟩=some j∧w.cell? ⟨g,7,none⟩=some k∧w.cell? ⟨g,8,none⟩=some m∧w.cell? ⟨g,9,none⟩=some n:=⟨h.cell 0,h.cell 1,h.cell 2,h.cell 3,h.cell 4,h.cell 5,h.cell 6,h.cell 7,h.cell 8,h.cell 9⟩
theorem aa.f10{w:World}{g:Nat}{t:TypeId}{cs:Array Value}(h:aa w g t cs):w.frozen? ⟨g,0,none⟩=false∧w.frozen? ⟨g,1,none⟩=false∧w.frozen? ⟨g,2,none⟩=false∧w.frozen? ⟨g,3,none⟩=false∧w.frozen? ⟨g,4,none⟩=false∧w.frozen? ⟨g,5,none⟩=false∧w.frozen? ⟨g,6,none⟩=false∧w.frozen? ⟨g,7,none⟩=false∧w.frozen? ⟨g,8,none⟩=false∧w.frozen? ⟨g,9,none⟩=false:=⟨h.frozen 0,h.frozen 1,h.frozen 2,h.frozen 3,h.frozen 4,h.frozen 5,h.frozen 6,h.frozen 7,h.frozen 8,h.frozen 9⟩
end Go.Proofs.YtbillnhcmkpohaaGreatDoor
namespace Go.Proofs.YtbillnhcmkpohaaGreatDoor
open Go.RowKit
section
variable{s:ByteArray}{i k:Nat}
structure aj where
 p:ah
 A:Option Addr
 cap:Nat
def aJ(m:aj):List Value:=[.string m.p.name,iv m.p.kind,iv m.p.first,iv m.p.last,.slice m.A m.p.on.length m.cap,iv m.p.wlo,iv m.p.whi]
theorem cH:∀m,(aJ m).length=7:=fun _=>rfl
abbrev mV(m:aj):Value:=.agg #[.string m.p.name,iv m.p.kind,iv m.p.first,iv m.p.last,.slice m.A m.p.on.length m.cap,iv m.p.wlo,iv m.p.whi]
abbrev ab(ms:List aj):List ah:=ms.map aj.p
structure aR(w:World)(B:Nat)(m:aj):Prop where
 on:am .string w B m.A m.p.on
 le:m.p.on.length≤m.cap
 cm:m.cap≤maxLen
 nm:m.p.name.size≤maxLen
 ons:∀o∈m.p.on,o.size≤maxLen
 sz:m.p.on.length*16≤140737488351232
structure cF(w:World)(B:Nat)(A:Option Addr)(ms:List aj):Prop where
 rd:aG 7 aJ w B A ms
 ok:∀m∈ms,aR w B m
section
variable {w w':World} {B B':Nat} {A:Option Addr} {ms:List aj} {m:aj}
theorem aR.below(h:aR w B m)(b:Below B' w w')(a:B≤B'):aR w' B m:=⟨h.on.below b a,h.le,h.cm,h.nm,h.ons,h.sz⟩
theorem aR.more(h:aR w B m)(a:B≤B'):aR w B' m:=⟨h.on.more a,h.le,h.cm,h.nm,h.ons,h.sz⟩
theorem cF.below(h:cF w B A ms)(b:Below B' w w')(a:B≤B'):cF w' B A ms:=⟨h.rd.below b a,fun m c=>(h.ok m c).below b a⟩
theorem cF.more(h:cF w B A ms)(a:B≤B'):cF w B' A ms:=⟨h.rd.more a,fun m b=>(h.ok m b).more a⟩
theorem cF.take(h:cF w B A ms)(n:Nat):cF w B A (ms.take n):=⟨h.rd.take n,fun m a=>h.ok m (List.mem_of_mem_take a)⟩
theorem cF.nil:cF w B A []:=⟨aG.nil,fun _ h=>by cases h⟩
theorem cF.at(h:cF w B A ms)(hx:ms[i]?=some m) :
  ∃b a,A=some ⟨b,a,none⟩∧b<B∧aR w B m∧cA w b (a+i*7) (.string m.p.name)∧cA w b (a+i*7+1) (iv m.p.kind)∧cA w b (a+i*7+2) (iv m.p.first)∧cA w b (a+i*7+3) (iv m.p.last)∧cA w b (a+i*7+4) (.slice m.A m.p.on.length m.cap)∧cA w b (a+i*7+5) (iv m.p.wlo)∧cA w b (a+i*7+6) (iv m.p.whi):=by
 obtain⟨b,a,e,c,hc⟩:=h.rd i m hx;exact⟨b,a,e,c,h.ok m (mG ⟨i,hx⟩),hc 0 _ rfl,hc 1 _ rfl,hc 2 _ rfl,hc 3 _ rfl,hc 4 _ rfl,hc 5 _ rfl,hc 6 _ rfl⟩
end
theorem bN{ms:List aj}{m:aj}(h:ms[i]?=some m):(ab ms)[i]?=some m.p:=by rw[List.getElem?_map,h];rfl
theorem BJ{l:List ah}{p:ah}(a:l[k]?=some p)(c:aX s p=true)(f:hasP (l.take k) s=false):aL l s=k∧ct l s=(k:Int)∧hasP l s=true:=by
 obtain⟨b,e⟩:=List.getElem?_eq_some_iff.1 a;have hi:aL l s=k:=by
  unfold aL;rw[List.findIdx_eq b];refine⟨by rw[e];exact c,fun j d=>?_⟩
  cases hb:aX s l[j]with
  | false=>rfl
  | true =>
   exfalso;exact kS.1 f _ (mG ⟨j,by rw[List.getElem?_take_of_lt d];exact gE (by omega)⟩) (dM.1 hb)
 refine⟨hi, ?_,im.2 ⟨p,mG ⟨k,a⟩,dM.1 c⟩⟩;unfold ct;rw[hi,if_pos b]
theorem kY{l:List ah}(a:hasP l s=false):ct l s = -1:=by unfold ct;rw[if_neg];intro h;obtain⟨p,hp,e⟩:=nN.1 h;exact kS.1 a p hp e
theorem BL{l:List ah}{p:ah}(a:l[k]?=some p):hasP (l.take (k+1)) s=(hasP (l.take k) s||aX s p):=by unfold hasP;obtain⟨h,rfl⟩:=List.getElem?_eq_some_iff.1 a;rw[List.take_succ_eq_append_getElem h,List.any_append];simp
theorem o6{l:List ah}(h:hasP l s=true):∃y,l.find? (aX s)=some y∧l[aL l s]?=some y:=by
 cases hf:l.find? (aX s)with
 | none =>
  obtain⟨p,b,e⟩:=im.1 h;have:=List.find?_eq_none.1 hf p b;rw[dM.2 e]at this;exact absurd rfl this
 | some y =>
  obtain⟨j,rfl,a,_⟩:=nO hf;exact⟨y,rfl,a⟩
theorem qK(l:List ByteArray):(l.map ByteArray.toList).Nodup↔∀k x,l[k]?=some x→cK (l.take k) x=false:=by
 unfold List.Nodup;rw[List.pairwise_map,List.pairwise_iff_getElem];constructor
 ·intro h k x f;obtain⟨hl,rfl⟩:=List.getElem?_eq_some_iff.1 f;rw[Bool.eq_false_iff];intro ho;unfold cK at ho;rw[List.any_eq_true]at ho;obtain⟨y,hy,e⟩:=ho;obtain⟨j,a⟩:=List.mem_iff_getElem?.1 hy;rw[List.getElem?_take]at a;split at a
  ·rename_i c;obtain⟨hl2,rfl⟩:=List.getElem?_eq_some_iff.1 a;exact h j k hl2 hl c (by simpa using e)
  ·cases a
 ·intro h i j d a b e;have:=h j l[j] (gE a);unfold cK at this;rw[List.any_eq_false]at this;exact this l[i] (mG ⟨i,by rw[List.getElem?_take_of_lt b];exact gE d⟩) (by simpa using e)
end
section
variable{s:ByteArray}
theorem nQ(A:Option Addr)(ms:List aj)(B cap:Nat)(s:ByteArray)(w:World)(f:ms.length≤maxLen)(H:cF w B A ms) :
  Cs 33 #[.slice A ms.length cap,.string s] w fun e w'=>e=.returned (iv (ct (ab ms) s))∧w=w':=by
 unfold maxLen at f;have d:=Lq H;clear H;go_enter Tryz.func33,Tryz.ntmps33
 go_wp2
 go_loop [5] (fun i=>∃k:Nat,k≤ms.length∧i=iv k∧hasP ((ab ms).take k) s=false) (fun i=>ms.length-(intOf i).toNat)
 case atStart=>exact⟨0,Nat.zero_le _,rfl,by simp[hasP]⟩
 case round =>
  obtain⟨k,g,rfl,a⟩:=hrel;have HN:=Lq a;clear a;by_cases hlt:k<ms.length
  ·obtain⟨m,hx⟩:=gX (l:=ms) (i:=k) hlt;obtain⟨b,off,rfl,_,_,c0,_⟩:=d.out.at hx;have HX:=Lq hx;clear hx d;cases hp:(m.p.name.toList==s.toList)
   ·have c:=Lq hp;go_wp2
    go_round
    case rel=>exact⟨k+1,by omega,by go_num,by rw[BL (bN HX.out),HN.out];exact c.out⟩
    case measure=>simp[intOf];omega
   ·have c:=Lq hp;go_wp2
    go_ret
    exact⟨dm (BJ (bN HX.out) c.out HN.out).2.1.symm,rfl⟩
  ·go_wp2
   go_ret
   have a:=HN.out;rw[List.take_of_length_le (by simp;omega)]at a
   exact⟨dm (kY a).symm,rfl⟩
def mJ(a b:ah):Bool:=decide (max a.first b.first≤min a.last b.last)
theorem tz{a b:ah}(c:a.first≤a.last)(d:b.first≤b.last):mJ a b=dN a b:=by unfold mJ dN;rw[Bool.eq_iff_iff];simp;omega
theorem tA(m n:aj)(w:World):Cs 36 #[mV m,mV n] w (Rt w (.bool (mJ m.p n.p))):=by
 obtain⟨⟨f,b,a,d,on,wl,wh⟩,A,c⟩:=m;obtain⟨⟨nm2,kd2,f2,l2,on2,wl2,wh2⟩,A2,c2⟩:=n;go_enter Tryz.func36,Tryz.ntmps36
 go_wp2
 all_goals
  go_ret
  exact⟨aY (by unfold mJ;rw[Bool.eq_iff_iff];simp;omega),bA (bA (bR _) _) _⟩
def nR(l:List ah)(s:ByteArray):Bool:=l.any fun q=>standsB q s
theorem BM{l:List ah}{q:ah}(a:q∈l)(h:standsB q s=true):nR l s=true:=List.any_eq_true.2 ⟨q,a,h⟩
theorem qM{l:List ah}:nR l s=false↔∀q∈l,standsB q s=false:=by unfold nR;rw[List.any_eq_false];exact⟨fun h q a=>by simpa using h q a,fun h q a=>by simp[h q a]⟩
theorem BN(A:Option Addr)(ms:List aj)(B cap:Nat)(s:ByteArray)(w:World)(j:ms.length≤maxLen)(H:cF w B A ms) :
  Cs 37 #[.slice A ms.length cap,.string s] w fun e w'=>e=.returned (.bool (nR (ab ms) s))∧w=w':=by
 unfold maxLen at j;have g:=Lq H;clear H;go_enter Tryz.func37,Tryz.ntmps37
 go_wp2
 go_loop [5] (fun i=>∃k:Nat,k≤ms.length∧i=iv k∧∀q∈(ab ms).take k,standsB q s=false) (fun i=>ms.length-(intOf i).toNat)
 case atStart=>exact⟨0,Nat.zero_le _,rfl,by simp⟩
 case round =>
  obtain⟨k,n,rfl,a⟩:=hrel;have HN:=Lq a;clear a;by_cases hlt:k<ms.length
  ·obtain⟨m,hx⟩:=gX (l:=ms) (i:=k) hlt;obtain⟨b,off,rfl,_,ho,_,_,_,_,c4,_⟩:=g.out.at hx;have HX:=Lq hx;have HO:=Lq (BH m.A m.p.on B m.cap s w (lT ho.le ho.cm) ho.on);have hps:∀r:Int,decide (0≤r)=cK m.p.on s→decide (0≤r)=standsB m.p s:=fun _ h=>h
   have d:=Lq hps;clear hx g ho hps;go_wp2_with fail;refine HO.out.mono ?_;rintro e w' ⟨r,rfl,hr,rfl⟩;have hr2:=d.out r hr;clear hr;obtain⟨bb,hbb⟩:=ex (standsB m.p s);have HB:=Lq hbb;rw[hbb]at hr2;clear hbb;cases bb
   ·have f:¬0≤r:=by simpa using hr2
    clear hr2;go_wp2_with fail;go_round
    case rel =>
     refine⟨k+1,by omega,by go_num,fun q c=>?_⟩
     rw[List.take_add_one,bN HX.out]at c;simp only[List.mem_append,Option.toList_some,List.mem_singleton]at c;rcases c with c | rfl
     ·exact HN.out q c
     ·exact HB.out
    case measure=>simp[intOf];omega
   ·have f:0≤r:=by simpa using hr2
    clear hr2;go_wp2_with fail;go_ret
    exact⟨aY (BM (mG ⟨k,bN HX.out⟩) HB.out).symm,rfl⟩
  ·go_wp2
   go_ret
   have a:=HN.out;rw[List.take_of_length_le (by simp;omega)]at a
   exact⟨aY (qM.2 a).symm,rfl⟩
def kZ(l:List ByteArray)(s:ByteArray):Int:=if cK l s then(l.findIdx (fun o=>eqS o s):Int)else -1
theorem tB{l:List ByteArray}:kZ l s<0↔cK l s=false:=by
 unfold kZ;split
 ·rename_i h;rw[h];exact⟨fun h0=>by omega,fun h0=>by cases h0⟩
 ·rename_i h;exact⟨fun _=>by simpa using h,fun _=>by omega⟩
theorem BO{l:List ByteArray}{x:ByteArray}{k:Nat}(b:l[k]?=some x)(c:(x.toList==s.toList)=true)(a:cK (l.take k) s=false):kZ l s=(k:Int):=by
 obtain⟨f,e⟩:=List.getElem?_eq_some_iff.1 b;have hi:l.findIdx (fun o=>eqS o s)=k:=by
  rw[List.findIdx_eq f];refine⟨by rw[e];exact c,fun j d=>?_⟩
  unfold cK at a;rw[List.any_eq_false]at a;have:=a l[j] (mG ⟨j,by rw[List.getElem?_take_of_lt d];exact gE (by omega)⟩)
  simpa[eqS]using this
 unfold kZ;rw[if_pos (tx b c),hi]
theorem tC(A:Option Addr)(l:List ByteArray)(B cap:Nat)(s:ByteArray)(w:World)(f:l.length≤maxLen)(d:am .string w B A l) :
  Cs 35 #[.slice A l.length cap,.string s] w fun e w'=>e=.returned (iv (kZ l s))∧w'=w:=by
 unfold maxLen at f;go_enter Tryz.func35,Tryz.ntmps35
 go_wp2
 go_loop [5] (fun i=>∃k:Nat,k≤l.length∧i=iv k∧cK (l.take k) s=false) (fun i=>l.length-(intOf i).toNat)
 case atStart=>exact⟨0,Nat.zero_le _,rfl,by simp[cK]⟩
 case round =>
  obtain⟨k,g,rfl,a⟩:=hrel;have HN:=Lq a;clear a;by_cases hlt:k<l.length
  ·obtain⟨x,hx⟩:=gX (l:=l) (i:=k) hlt;obtain⟨b,off,rfl,_,hck⟩:=d k x hx;have HX:=Lq hx;clear hx;cases hp:(x.toList==s.toList)
   ·have c:=Lq hp;go_wp2
    go_round
    case rel=>exact⟨k+1,by omega,by go_num,by rw[tw _ _ _ _ HX.out,HN.out,c.out];rfl⟩
    case measure=>simp[intOf];omega
   ·have c:=Lq hp;go_wp2
    go_ret
    exact⟨dm (BO HX.out c.out HN.out).symm,rfl⟩
  ·go_wp2
   go_ret
   have a:=HN.out;rw[List.take_of_length_le (by omega)]at a
   exact⟨dm (by unfold kZ;rw[a];rfl),rfl⟩
end
end Go.Proofs.YtbillnhcmkpohaaGreatDoor
