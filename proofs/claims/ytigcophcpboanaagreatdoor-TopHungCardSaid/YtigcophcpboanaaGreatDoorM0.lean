/- Words for memory: a slice that reads as a list (elements of one cell, elements of several .. -/
import Derived.WalkKit
import Derived.Deep.Draws
import Derived.Test.YtigcophcpboanaaGreatDoorProg
import Derived.WalkLawsBesides
import Derived.WalkSpells
import Derived.Lib.Hide
import Derived.Deep.QuietTactic
import Derived.BigQuiet
import Derived.Laws.RangeAny
import Derived.Sort.Row
import Derived.Maps.AppendAt
import Derived.Deep.AppendLies
import Derived.RangeFuncNested
import Derived.RangeFuncBound
import Derived.RangeFuncCalls
import Derived.RangeFuncLeaves
import Derived.RangeFuncWrites
import Derived.Shelf.Abstract
import Derived.Shelf.RegionOpen
import Derived.OwnWalkIn
import Derived.TacticsInMore
import Derived.LoopNIn
import Derived.LoopIn
import Derived.WalkSmall
import Derived.Below
set_option maxRecDepth 1000000
set_option maxHeartbeats 0
namespace Go.Proofs.YtigcophcpboanaaGreatDoor
open Go.RowKit
def Rd1{α:Type}(enc:α→Value)(w:World)(B:Nat)(A:Option Addr)(xs:List α):Prop :=
 ∀(i:Nat) (x:α),xs[i]?=some x→∃b off,A=some ⟨b,off,none⟩∧b<B∧w.cell? ⟨b,off+i,none⟩=some (enc x)
def RdN{α:Type}(k:Nat)(enc:α→List Value)(w:World)(B:Nat)(A:Option Addr)(xs:List α):Prop :=
 ∀(i:Nat) (x:α),xs[i]?=some x→∃b off,A=some ⟨b,off,none⟩∧b<B ∧
  ∀(j:Nat) (u:Value),(enc x)[j]?=some u→w.cell? ⟨b,off+i*k+j,none⟩=some u
section
variable {α:Type} {enc:α→Value} {encs:α→List Value} {k:Nat} {w w':World} {B B':Nat} {A:Option Addr} {xs:List α}
theorem Rd1.keep(h:Rd1 enc w B A xs)(hk:∀p:Addr,p.block<B→w'.cell? p=w.cell? p):Rd1 enc w' B A xs:=by intro i x hx;obtain⟨b,off,e,hb,hc⟩:=h i x hx;exact⟨b,off,e,hb,(hk ⟨b,_,none⟩ hb).trans hc⟩
theorem RdN.keep(h:RdN k encs w B A xs)(hk:∀p:Addr,p.block<B→w'.cell? p=w.cell? p):RdN k encs w' B A xs:=by intro i x hx;obtain⟨b,off,e,hb,hc⟩:=h i x hx;exact⟨b,off,e,hb,fun j u hu=>(hk ⟨b,_,none⟩ hb).trans (hc j u hu)⟩
theorem Rd1.more(h:Rd1 enc w B A xs)(hB:B≤B'):Rd1 enc w B' A xs:=by intro i x hx;obtain⟨b,off,e,hb,hc⟩:=h i x hx;exact⟨b,off,e,by omega,hc⟩
theorem RdN.more(h:RdN k encs w B A xs)(hB:B≤B'):RdN k encs w B' A xs:=by intro i x hx;obtain⟨b,off,e,hb,hc⟩:=h i x hx;exact⟨b,off,e,by omega,hc⟩
theorem Rd1.below(h:Rd1 enc w B A xs)(hb:Below B' w w')(hB:B≤B'):Rd1 enc w' B A xs:=h.keep fun _ hp=>hb.cell (by omega)
theorem RdN.below(h:RdN k encs w B A xs)(hb:Below B' w w')(hB:B≤B'):RdN k encs w' B A xs:=h.keep fun _ hp=>hb.cell (by omega)
theorem Rd1.alloc(h:Rd1 enc w B A xs)(hB:B≤w.heap.size)(o:Obj):Rd1 enc (w.alloc o) B A xs:=h.keep fun p _=>World.cell?_alloc_lt w o p (by omega)
theorem RdN.alloc(h:RdN k encs w B A xs)(hB:B≤w.heap.size)(o:Obj):RdN k encs (w.alloc o) B A xs:=h.keep fun p _=>World.cell?_alloc_lt w o p (by omega)
theorem Rd1.nil:Rd1 enc w B A []:=by intro i x h;simp at h
theorem RdN.nil:RdN k encs w B A []:=by intro i x h;simp at h
theorem Rd1.take(h:Rd1 enc w B A xs)(n:Nat):Rd1 enc w B A (xs.take n):=by
 intro i x hx;rw[List.getElem?_take]at hx;split at hx
 ·exact h i x hx
 ·cases hx
theorem RdN.take(h:RdN k encs w B A xs)(n:Nat):RdN k encs w B A (xs.take n):=by
 intro i x hx;rw[List.getElem?_take]at hx;split at hx
 ·exact h i x hx
 ·cases hx
end
theorem bcell{W w1:World}{B:Nat}(hb:Below B W w1):(∀b o,b<B→w1.cell? ⟨b,o,none⟩=W.cell? ⟨b,o,none⟩)∧(∀b o,b<B→w1.frozen? ⟨b,o,none⟩=W.frozen? ⟨b,o,none⟩) :=
 ⟨fun b o h=>hb.cell (p:=⟨b,o,none⟩) h,fun b o h=>hb.frozen (p:=⟨b,o,none⟩) h⟩
theorem belowD{B:Nat}{a w:World}(h:Below B a w)(n:Nat):Below B a (w.drewN n):=⟨h.os,h.tape,h.output,h.size,h.block⟩
theorem ret_int{k:IntKind}{a b:Int}(h:a=b):Ending.returned (.int k a)=.returned (.int k b):=by rw[h]
theorem ret_bool{a b:Bool}(h:a=b):Ending.returned (.bool a)=.returned (.bool b):=by rw[h]
abbrev iv(n:Int):Value:=.int .i64 n
abbrev Rt(w:World)(v:Value):Ending→World→Prop:=fun e w'=>e=.returned v∧Below w.heap.size w w'
theorem Lq{p:Prop}(h:p):Hid p:=h
theorem ex{α:Type}(x:α):∃y,x=y:=⟨x,rfl⟩
abbrev BW(a w:World):Prop:=Below a.heap.size a w
abbrev cA(w:World)(g o:Nat)(v:Value):Prop:=w.cell? ⟨g,o,none⟩=some v
abbrev Cs:=Calls Tryz.prog
abbrev pT(g o:Nat):Value:=.pointer (some ⟨g,o,none⟩)
abbrev kL:ByteArray:=⟨#[107,101,101,108]⟩
abbrev tk1:ByteArray:=⟨#[116,97,110,107,49]⟩
abbrev hd1:ByteArray:=⟨#[104,111,108,100,49]⟩
abbrev dK:ByteArray:=⟨#[100,101,99,107]⟩
abbrev pp1:ByteArray:=⟨#[112,105,112,101,49]⟩
theorem gE{α:Type}{l:List α}{i:Nat}(h:i<l.length):l[i]?=some l[i]:=List.getElem?_eq_getElem h
theorem gX{α:Type}{l:List α}{i:Nat}(h:i<l.length):∃x,l[i]?=some x:=⟨_,gE h⟩
theorem lG{α:Type}{l:List α}{i:Nat}{a:α}(h:l[i]?=some a):i<l.length:=(List.getElem?_eq_some_iff.1 h).1
theorem mG{α:Type}{l:List α}{a:α}(h:∃i:Nat,l[i]?=some a):a∈l:=List.mem_iff_getElem?.2 h
theorem lr(n:Nat):n≤n:=Nat.le_refl n
theorem lT{a b c:Nat}(h:a≤b)(h':b≤c):a≤c:=Nat.le_trans h h'
theorem lz{a b c:Nat}(h:a<b)(h':b≤c):a<c:=Nat.lt_of_lt_of_le h h'
/-! Below,one step at a time: the bound is the heap's size at the start. -/
section
variable {a w w':World}
theorem bR(a:World):Below a.heap.size a a:=Below.refl _ _
theorem bA(h:Below a.heap.size a w)(o:Obj):Below a.heap.size a (w.alloc o):=h.alloc h.size o
theorem belowN(h:Below a.heap.size a w)(n:Nat):Below a.heap.size a (w.drewN n):=belowD h n
theorem bT(h:Below a.heap.size a w)(hb:Below w.heap.size w w'):Below a.heap.size a w':=h.trans (hb.mono h.size)
theorem belowS(h:Below a.heap.size a w){p:Addr}(hp:a.heap.size≤p.block)(u:Value):Below a.heap.size a (w.setCell p u):=h.setCell hp u
end
/-! What is looked at: a part,a weighing;joints and spans are pairs of numbers. -/
structure Prt where
 name:ByteArray
 lo:Int
 hi:Int
structure Wgh where
 set:Int
 lo:Int
 hi:Int
def encPrt(p:Prt):List Value:=[.string p.name,iv p.lo,iv p.hi]
def encWgh(p:Wgh):List Value:=[iv p.set,iv p.lo,iv p.hi]
def encSp(p:Int×Int):List Value:=[iv p.1,iv p.2]
theorem prtAt{w:World}{B:Nat}{A:Option Addr}{xs:List Prt}(h:RdN 3 encPrt w B A xs){i:Nat}{x:Prt}(hx:xs[i]?=some x) :
  ∃b off,A=some ⟨b,off,none⟩∧b<B∧w.cell? ⟨b,off+i*3,none⟩=some (.string x.name)∧w.cell? ⟨b,off+i*3+1,none⟩=some (iv x.lo)∧w.cell? ⟨b,off+i*3+2,none⟩=some (iv x.hi):=by
 obtain⟨b,off,e,hb,hc⟩:=h i x hx;exact⟨b,off,e,hb,hc 0 _ rfl,hc 1 _ rfl,hc 2 _ rfl⟩
theorem wghAt{w:World}{B:Nat}{A:Option Addr}{xs:List Wgh}(h:RdN 3 encWgh w B A xs){i:Nat}{x:Wgh}(hx:xs[i]?=some x) :
  ∃b off,A=some ⟨b,off,none⟩∧b<B∧w.cell? ⟨b,off+i*3,none⟩=some (iv x.set)∧w.cell? ⟨b,off+i*3+1,none⟩=some (iv x.lo)∧w.cell? ⟨b,off+i*3+2,none⟩=some (iv x.hi):=by
 obtain⟨b,off,e,hb,hc⟩:=h i x hx;exact⟨b,off,e,hb,hc 0 _ rfl,hc 1 _ rfl,hc 2 _ rfl⟩
theorem spAt{w:World}{B:Nat}{A:Option Addr}{xs:List (Int×Int)}(h:RdN 2 encSp w B A xs){i:Nat}{x:Int×Int}(hx:xs[i]?=some x) :
  ∃b off,A=some ⟨b,off,none⟩∧b<B∧w.cell? ⟨b,off+i*2,none⟩=some (iv x.1)∧w.cell? ⟨b,off+i*2+1,none⟩=some (iv x.2):=by
 obtain⟨b,off,e,hb,hc⟩:=h i x hx;exact⟨b,off,e,hb,hc 0 _ rfl,hc 1 _ rfl⟩
def firstBad(f:Nat→Int)(n:Nat):Option (Nat×Int):=(List.range n).findSome? fun i=>if f i=0 then none else some (i,f i)
theorem firstBad_succ{f:Nat→Int}{n:Nat}(h:firstBad f n=none)(h2:f n=0):firstBad f (n+1)=none:=by unfold firstBad at *;rw[List.range_succ,List.findSome?_append,h];simp[h2]
theorem firstBad_at{f:Nat→Int}{n m:Nat}(h:firstBad f n=none)(h2:f n≠0)(hm:n<m):firstBad f m=some (n,f n):=by
 induction m with
 | zero=>omega
 | succ m ih =>
  unfold firstBad at *;rw[List.range_succ,List.findSome?_append];rcases Nat.lt_or_ge n m with hlt | hge
  ·rw[ih hlt];rfl
  ·obtain rfl:n=m:=by omega
   rw[h];simp[h2]
section
variable{hi lo n:Int}
def inB(lo hi n:Int):Bool:=decide (lo≤n∧n≤hi)
theorem inB_t(h:inB lo hi n=true):lo≤n∧n≤hi:=by simpa[inB]using h
theorem inB_mk(h1:lo≤n)(h2:n≤hi):inB lo hi n=true:=by simp[inB,h1,h2]
theorem inB_no(h:n<lo∨hi<n):inB lo hi n=false:=by simp[inB];omega
theorem in_any(n lo hi:Int)(w:World):Cs 46 #[iv n,iv lo,iv hi] w fun e w'=>e=.returned (.bool (inB lo hi n))∧w=w':=by
 by_cases h1:lo≤n
 ·go_enter Tryz.func46,Tryz.ntmps46
  go_wp2
  go_ret
  exact⟨ret_bool (by unfold inB;rw[Bool.eq_iff_iff];simp;omega),rfl⟩
 ·go_enter Tryz.func46,Tryz.ntmps46
  go_wp2
  go_ret
  exact⟨ret_bool (by unfold inB;rw[Bool.eq_iff_iff];simp;omega),rfl⟩
theorem within_any(n lo hi:Int)(w:World):Cs 15 #[iv n,iv lo,iv hi] w fun e w'=>e=.returned (.bool (inB lo hi n))∧w=w':=by
 by_cases h1:lo≤n
 ·go_enter Tryz.func15,Tryz.ntmps15
  go_wp2
  go_ret
  exact⟨ret_bool (by unfold inB;rw[Bool.eq_iff_iff];simp;omega),rfl⟩
 ·go_enter Tryz.func15,Tryz.ntmps15
  go_wp2
  go_ret
  exact⟨ret_bool (by unfold inB;rw[Bool.eq_iff_iff];simp;omega),rfl⟩
theorem out1_any(n lo hi:Int)(a b:Addr)(w:World)(ha:w.cell? a=some (iv lo))(hb:w.cell? b=some (iv hi)) :
  Cs 157 #[iv n,.pointer (some a),.pointer (some b)] w fun e w'=>e=.returned (.bool (!inB lo hi n))∧w=w':=by
 by_cases h1:n<lo
 ·go_enter Tryz.func157,Tryz.ntmps157
  go_wp2
  go_ret
  exact⟨ret_bool (by unfold inB;rw[Bool.eq_iff_iff];simp;omega),rfl⟩
 ·go_enter Tryz.func157,Tryz.ntmps157
  go_wp2
  go_ret
  exact⟨ret_bool (by unfold inB;rw[Bool.eq_iff_iff];simp;omega),rfl⟩
def IdxPost(b:Bool)(w:World)(e:Ending)(w':World):Prop:=∃r:Int,e=.returned (iv r)∧decide (0≤r)=b∧w=w'
def allIn(lo hi:Int)(xs:List Int):Bool:=xs.all (inB lo hi)
theorem allIn_snoc(lo hi:Int)(xs:List Int)(k:Nat)(x:Int)(hx:xs[k]?=some x):allIn lo hi (xs.take (k+1))=(allIn lo hi (xs.take k)&&inB lo hi x):=by unfold allIn;obtain⟨h,rfl⟩:=List.getElem?_eq_some_iff.1 hx;rw[List.take_succ_eq_append_getElem h,List.all_append];simp
theorem allIn_no(lo hi:Int)(xs:List Int)(k:Nat)(x:Int)(hx:xs[k]?=some x)(h:inB lo hi x=false):allIn lo hi xs=false:=by unfold allIn;rw[List.all_eq_false];exact⟨x,List.mem_of_getElem? hx,by simp[h]⟩
theorem indexFunc_any(A:Option Addr)(xs:List Int)(B cap:Nat)(lo hi:Int)(a1 a2:Addr)(w:World)(hm:xs.length≤maxLen)(hR:Rd1 iv w B A xs)(ha:w.cell? a1=some (iv lo))(hb:w.cell? a2=some (iv hi)) :
  Cs 138 #[.slice A xs.length cap,.func (.func 157) #[] #[.pointer (some a1),.pointer (some a2)]] w (IdxPost (!allIn lo hi xs) w):=by
 unfold maxLen at hm;go_enter Tryz.func138,Tryz.ntmps138
 go_wp2
 go_loop [8] (fun i=>∃k:Nat,k≤xs.length∧i=iv k∧allIn lo hi (xs.take k)=true) (fun i=>xs.length-(intOf i).toNat)
 case atStart=>exact⟨0,Nat.zero_le _,rfl,by simp[allIn]⟩
 case round =>
  obtain⟨k,hk,rfl,hn⟩:=hrel;by_cases hlt:k<xs.length
  ·obtain⟨x,hx⟩:=gX (l:=xs) (i:=k) hlt;obtain⟨b,off,rfl,_,hck⟩:=hR k x hx;have Hx:=Lq hx;clear hx;by_cases hp:inB lo hi x=true
   ·go_wp2_with (go_at_call 157;refine(out1_any _ lo hi _ _ _ ha hb).mono ?_;rintro e w' ⟨rfl,rfl⟩)
    go_round
    case rel=>exact⟨k+1,by omega,by go_num,by rw[allIn_snoc _ _ _ _ _ Hx.out,hn,hp];rfl⟩
    case measure=>simp[intOf];omega
   ·have hp':inB lo hi x=false:=by simpa using hp
    go_wp2_with (go_at_call 157;refine(out1_any _ lo hi _ _ _ ha hb).mono ?_;rintro e w' ⟨rfl,rfl⟩)
    go_ret
    exact⟨k,rfl,by rw[allIn_no _ _ _ _ _ Hx.out hp'];simp,rfl⟩
  ·go_wp2
   go_ret
   refine⟨-1,rfl, ?_,rfl⟩;rw[List.take_of_length_le (by omega)]at hn
   rw[hn];rfl
theorem containsFunc_any(A:Option Addr)(xs:List Int)(B cap:Nat)(lo hi:Int)(a1 a2:Addr)(w:World)(hm:xs.length≤maxLen)(hR:Rd1 iv w B A xs)(ha:w.cell? a1=some (iv lo))(hb:w.cell? a2=some (iv hi)) :
  Cs 107 #[.slice A xs.length cap,.func (.func 157) #[] #[.pointer (some a1),.pointer (some a2)]] w fun e w'=>e=.returned (.bool (!allIn lo hi xs))∧w=w':=by
 go_enter Tryz.func107,Tryz.ntmps107
 go_wp2_with (go_at_call 138;refine(indexFunc_any _ xs B cap lo hi _ _ _ hm hR ha hb).mono ?_;rintro e w' ⟨r,rfl,hr,rfl⟩)
 go_ret
 exact⟨by rw[←hr];rfl,rfl⟩
theorem out_any(A:Option Addr)(xs:List Int)(B cap:Nat)(lo hi:Int)(w:World)(hm:xs.length≤maxLen)(hR:Rd1 iv w B A xs)(hB:B≤w.heap.size) :
  Cs 133 #[iv lo,iv hi,.slice A xs.length cap] w (Rt w (.bool (!allIn lo hi xs))):=by
 have hR1:=(hR.alloc hB (.cells #[iv lo] 3)).alloc (by simp;omega) (.cells #[iv hi] 3)
 go_enter Tryz.func133,Tryz.ntmps133
 go_wp2_with (go_at_call 107;refine(containsFunc_any _ xs B cap lo hi _ _ _ hm hR1 (by go_simp) (by go_simp)).mono ?_;rintro e w' ⟨rfl,rfl⟩)
 go_ret
 exact⟨rfl,((Below.refl _ _).alloc (lr _) _).alloc (by simp) _⟩
end
section
variable{H L hi lo:Int}
theorem out_one(lo hi x:Int)(g:Nat)(w:World)(hc:w.cell? ⟨g,0,none⟩=some (iv x))(hg:g<w.heap.size) :
  Cs 133 #[iv lo,iv hi,.slice (some ⟨g,0,none⟩) 1 1] w (Rt w (.bool (!inB lo hi x))):=by
 have hR:Rd1 iv w w.heap.size (some ⟨g,0,none⟩) [x]:=by
  intro i y hy
  match i,hy with
  | 0,hy=>simp at hy;subst hy;exact⟨g,0,rfl,hg,hc⟩
 refine(out_any _ [x] w.heap.size 1 lo hi w (by simp[maxLen]) hR (lr _)).mono ?_
 rintro e w' ⟨rfl,hb⟩;exact⟨ret_bool (by simp[allIn]),hb⟩
theorem out_two(lo hi x y:Int)(g:Nat)(w:World)(hc:w.cell? ⟨g,0,none⟩=some (iv x))(hd:w.cell? ⟨g,1,none⟩=some (iv y))(hg:g<w.heap.size) :
  Cs 133 #[iv lo,iv hi,.slice (some ⟨g,0,none⟩) 2 2] w (Rt w (.bool (!(inB lo hi x&&inB lo hi y)))):=by
 have hR:Rd1 iv w w.heap.size (some ⟨g,0,none⟩) [x,y]:=by
  intro i z hz
  match i,hz with
  | 0,hz=>simp at hz;subst hz;exact⟨g,0,rfl,hg,hc⟩
  | 1,hz=>simp at hz;subst hz;exact⟨g,0,rfl,hg,hd⟩
 refine(out_any _ [x,y] w.heap.size 2 lo hi w (by simp[maxLen]) hR (lr _)).mono ?_
 rintro e w' ⟨rfl,hb⟩;exact⟨ret_bool (by simp[allIn]),hb⟩
def rangeE(L H lo hi:Int):Int:=if inB L H lo&&inB L H hi then(if hi<lo then 2 else 0)else 7
theorem rangeE_out(h:(inB L H lo&&inB L H hi)=false):rangeE L H lo hi=7:=by simp[rangeE,h]
theorem rangeE_turned(h:(inB L H lo&&inB L H hi)=true)(h2:hi<lo):rangeE L H lo hi=2:=by simp only[rangeE,h,if_true,if_pos h2]
theorem rangeE_ok(h:(inB L H lo&&inB L H hi)=true)(h2:lo≤hi):rangeE L H lo hi=0:=by simp only[rangeE,h,if_true];rw[if_neg (by omega)]
theorem spanned_any(L H lo hi:Int)(w:World) :
  Cs 127 #[.agg #[iv lo,iv hi],iv L,iv H] w (Rt w (iv (rangeE L H lo hi))):=by
 cases h:(inB L H lo&&inB L H hi)
 ·have hf:=Lq (rangeE_out h);go_enter Tryz.func127,Tryz.ntmps127
  go_wp2_with (go_at_call 133;refine(out_two _ _ lo hi _ _ (by go_simp) (by go_simp) (by simp)).mono ?_;rintro e w1 ⟨rfl,hb⟩;obtain⟨hc,hfr⟩:=bcell hb)
  go_ret
  exact⟨by rw[hf.out];rfl,(((Below.refl _ _).alloc (lr _) _).alloc (by simp) _).trans (hb.mono (by simp;omega))⟩
 ·by_cases h2:hi<lo
  ·have hf:=Lq (rangeE_turned h h2);go_enter Tryz.func127,Tryz.ntmps127
   go_wp2_with (go_at_call 133;refine(out_two _ _ lo hi _ _ (by go_simp) (by go_simp) (by simp)).mono ?_;rintro e w1 ⟨rfl,hb⟩;obtain⟨hc,hfr⟩:=bcell hb)
   go_ret
   exact⟨by rw[hf.out];rfl,(((Below.refl _ _).alloc (lr _) _).alloc (by simp) _).trans (hb.mono (by simp;omega))⟩
  ·have hf:=Lq (rangeE_ok h (by omega))
   go_enter Tryz.func127,Tryz.ntmps127
   go_wp2_with (go_at_call 133;refine(out_two _ _ lo hi _ _ (by go_simp) (by go_simp) (by simp)).mono ?_;rintro e w1 ⟨rfl,hb⟩;obtain⟨hc,hfr⟩:=bcell hb)
   go_ret
   exact⟨by rw[hf.out];rfl,(((Below.refl _ _).alloc (lr _) _).alloc (by simp) _).trans (hb.mono (by simp;omega))⟩
theorem spread_one(L H lo hi:Int)(g cap:Nat)(w:World)(h0:w.cell? ⟨g,0,none⟩=some (iv lo))(h1:w.cell? ⟨g,1,none⟩=some (iv hi)) :
  Cs 99 #[.slice (some ⟨g,0,none⟩) 1 cap,iv L,iv H] w fun e w'=>e=.returned (iv (rangeE L H lo hi))∧∃n,w'=w.drewN n:=by
 cases h:(inB L H lo&&inB L H hi)
 ·have hf:=Lq (rangeE_out h);cases hl:inB L H lo
  ·clear h;go_enter Tryz.func99,Tryz.ntmps99
   go_wp2
   refine wp_loop_rounds 1 ?_;rw[rounds_succ];go_wp2_with (go_at_call 15;refine(within_any _ _ _ _).mono ?_;rintro e w' ⟨rfl,rfl⟩)
   go_ret
   exact⟨by rw[hf.out];rfl,0,rfl⟩
  ·have hh:inB L H hi=false:=by rw[hl]at h;simpa using h
   clear h;go_enter Tryz.func99,Tryz.ntmps99
   go_wp2
   refine wp_loop_rounds 1 ?_;rw[rounds_succ];go_wp2_with (go_at_call 15;refine(within_any _ _ _ _).mono ?_;rintro e w' ⟨rfl,rfl⟩)
   go_ret
   exact⟨by rw[hf.out];rfl,0,rfl⟩
 ·obtain⟨hl,hh⟩:inB L H lo=true∧inB L H hi=true:=by simpa using h
  by_cases h2:hi<lo
  ·have hf:=Lq (rangeE_turned h h2);clear h;go_enter Tryz.func99,Tryz.ntmps99
   go_wp2
   refine wp_loop_rounds 2 ?_;rw[rounds_succ];go_wp2_with (go_at_call 15;refine(within_any _ _ _ _).mono ?_;rintro e w' ⟨rfl,rfl⟩)
   go_quiet (fail)
   go_wp2
   rw[rounds_succ];go_wp2
   go_ret
   exact⟨by rw[hf.out];rfl,_,rfl⟩
  ·have hf:=Lq (rangeE_ok h (by omega))
   clear h;go_enter Tryz.func99,Tryz.ntmps99
   go_wp2
   refine wp_loop_rounds 2 ?_;rw[rounds_succ];go_wp2_with (go_at_call 15;refine(within_any _ _ _ _).mono ?_;rintro e w' ⟨rfl,rfl⟩)
   go_quiet (fail)
   go_wp2
   rw[rounds_succ];go_wp2
   go_ret
   exact⟨by rw[hf.out];rfl,_,rfl⟩
theorem range_any(L H lo hi:Int)(w:World) :
  Cs 47 #[.agg #[iv lo,iv hi],iv L,iv H] w (Rt w (iv (rangeE L H lo hi))):=by
 go_enter Tryz.func47,Tryz.ntmps47
 go_wp2_with (go_at_call 99;refine(spread_one L H lo hi _ _ _ (by go_simp) (by go_simp)).mono ?_;rintro e w1 ⟨rfl,n,rfl⟩)
 go_ret
 exact⟨rfl,belowD (((Below.refl _ _).alloc (lr _) _).alloc (by simp) _) _⟩
theorem span_any(lo hi:Int)(w:World):Cs 43 #[iv lo,iv hi] w (Rt w (.agg #[iv lo,iv hi])):=by
 go_enter Tryz.func43,Tryz.ntmps43
 go_wp2
 exact bodyPost_ret (v:=.agg #[iv lo,iv hi]) (by simp[results,Tryz.results43,go_sem]) rfl ⟨rfl,(Below.refl _ _).alloc (lr _) _⟩
theorem bit_any(n:Nat)(w:World)(hn:n≤16):Cs 11 #[iv n] w fun e w'=>e=.returned (iv (2^n:Nat))∧w=w':=by
 go_enter Tryz.func11,Tryz.ntmps11
 go_wp2
 go_loop [3,4] (fun x i=>∃k:Nat,k≤n∧i=iv k∧x=iv (2^k:Nat)) (fun _ i=>n-(intOf i).toNat)
 case atStart=>exact⟨0,Nat.zero_le _,rfl,rfl⟩
 case round =>
  obtain⟨k,hk,rfl,rfl⟩:=hrel;have hp:(2^k:Nat)≤65536:=Nat.pow_le_pow_right (n:=2) (by omega) (show k≤16 by omega)
  obtain⟨P,hP⟩:∃P:Nat,P=2^k:=⟨_,rfl⟩;rw[←hP]at hp ⊢;have HP:=Lq hP;clear hP;by_cases hlt:k<n
  ·go_wp2
   go_round
   case rel=>exact⟨k+1,by omega,by go_num,by rw[Nat.pow_succ,←HP.out];push_cast;rw[Int.mul_comm]⟩
   case measure=>simp[intOf];omega
  ·go_wp2
   go_ret
   obtain rfl:k=n:=by omega
   exact⟨by rw[HP.out];rfl,rfl⟩
end
theorem out1_anyH(n lo hi:Int)(a b:Addr)(w:World)(ha:w.cell? a=some (iv lo))(hb:w.cell? b=some (iv hi)) :
  Cs 108 #[iv n,.pointer (some a),.pointer (some b)] w fun e w'=>e=.returned (.bool (!inB lo hi n))∧w=w':=by
 by_cases h1:n<lo
 ·go_enter Tryz.func108,Tryz.ntmps108
  go_wp2
  go_ret
  exact⟨ret_bool (by unfold inB;rw[Bool.eq_iff_iff];simp;omega),rfl⟩
 ·go_enter Tryz.func108,Tryz.ntmps108
  go_wp2
  go_ret
  exact⟨ret_bool (by unfold inB;rw[Bool.eq_iff_iff];simp;omega),rfl⟩
theorem indexFunc_anyH(A:Option Addr)(xs:List Int)(B cap:Nat)(lo hi:Int)(a1 a2:Addr)(w:World)(hm:xs.length≤maxLen)(hR:Rd1 iv w B A xs)(ha:w.cell? a1=some (iv lo))(hb:w.cell? a2=some (iv hi)) :
  Cs 138 #[.slice A xs.length cap,.func (.func 108) #[] #[.pointer (some a1),.pointer (some a2)]] w (IdxPost (!allIn lo hi xs) w):=by
 unfold maxLen at hm;go_enter Tryz.func138,Tryz.ntmps138
 go_wp2
 go_loop [8] (fun i=>∃k:Nat,k≤xs.length∧i=iv k∧allIn lo hi (xs.take k)=true) (fun i=>xs.length-(intOf i).toNat)
 case atStart=>exact⟨0,Nat.zero_le _,rfl,by simp[allIn]⟩
 case round =>
  obtain⟨k,hk,rfl,hn⟩:=hrel;by_cases hlt:k<xs.length
  ·obtain⟨x,hx⟩:=gX (l:=xs) (i:=k) hlt;obtain⟨b,off,rfl,_,hck⟩:=hR k x hx;have Hx:=Lq hx;clear hx;by_cases hp:inB lo hi x=true
   ·go_wp2_with (go_at_call 108;refine(out1_anyH _ lo hi _ _ _ ha hb).mono ?_;rintro e w' ⟨rfl,rfl⟩)
    go_round
    case rel=>exact⟨k+1,by omega,by go_num,by rw[allIn_snoc _ _ _ _ _ Hx.out,hn,hp];rfl⟩
    case measure=>simp[intOf];omega
   ·have hp':inB lo hi x=false:=by simpa using hp
    go_wp2_with (go_at_call 108;refine(out1_anyH _ lo hi _ _ _ ha hb).mono ?_;rintro e w' ⟨rfl,rfl⟩)
    go_ret
    exact⟨k,rfl,by rw[allIn_no _ _ _ _ _ Hx.out hp'];simp,rfl⟩
  ·go_wp2
   go_ret
   refine⟨-1,rfl, ?_,rfl⟩;rw[List.take_of_length_le (by omega)]at hn
   rw[hn];rfl
theorem containsFunc_anyH(A:Option Addr)(xs:List Int)(B cap:Nat)(lo hi:Int)(a1 a2:Addr)(w:World)(hm:xs.length≤maxLen)(hR:Rd1 iv w B A xs)(ha:w.cell? a1=some (iv lo))(hb:w.cell? a2=some (iv hi)) :
  Cs 107 #[.slice A xs.length cap,.func (.func 108) #[] #[.pointer (some a1),.pointer (some a2)]] w fun e w'=>e=.returned (.bool (!allIn lo hi xs))∧w=w':=by
 go_enter Tryz.func107,Tryz.ntmps107
 go_wp2_with (go_at_call 138;refine(indexFunc_anyH _ xs B cap lo hi _ _ _ hm hR ha hb).mono ?_;rintro e w' ⟨r,rfl,hr,rfl⟩)
 go_ret
 exact⟨by rw[←hr];rfl,rfl⟩
theorem out_anyH(A:Option Addr)(xs:List Int)(B cap:Nat)(lo hi:Int)(w:World)(hm:xs.length≤maxLen)(hR:Rd1 iv w B A xs)(hB:B≤w.heap.size) :
  Cs 59 #[iv lo,iv hi,.slice A xs.length cap] w (Rt w (.bool (!allIn lo hi xs))):=by
 have hR1:=(hR.alloc hB (.cells #[iv lo] 3)).alloc (by simp;omega) (.cells #[iv hi] 3)
 go_enter Tryz.func59,Tryz.ntmps59
 go_wp2_with (go_at_call 107;refine(containsFunc_anyH _ xs B cap lo hi _ _ _ hm hR1 (by go_simp) (by go_simp)).mono ?_;rintro e w' ⟨rfl,rfl⟩)
 go_ret
 exact⟨rfl,((Below.refl _ _).alloc (lr _) _).alloc (by simp) _⟩
theorem out_oneH(lo hi x:Int)(g:Nat)(w:World)(hc:w.cell? ⟨g,0,none⟩=some (iv x))(hg:g<w.heap.size) :
  Cs 59 #[iv lo,iv hi,.slice (some ⟨g,0,none⟩) 1 1] w (Rt w (.bool (!inB lo hi x))):=by
 have hR:Rd1 iv w w.heap.size (some ⟨g,0,none⟩) [x]:=by
  intro i y hy
  match i,hy with
  | 0,hy=>simp at hy;subst hy;exact⟨g,0,rfl,hg,hc⟩
 refine(out_anyH _ [x] w.heap.size 1 lo hi w (by simp[maxLen]) hR (lr _)).mono ?_
 rintro e w' ⟨rfl,hb⟩;exact⟨ret_bool (by simp[allIn]),hb⟩
theorem out_twoH(lo hi x y:Int)(g:Nat)(w:World)(hc:w.cell? ⟨g,0,none⟩=some (iv x))(hd:w.cell? ⟨g,1,none⟩=some (iv y))(hg:g<w.heap.size) :
  Cs 59 #[iv lo,iv hi,.slice (some ⟨g,0,none⟩) 2 2] w (Rt w (.bool (!(inB lo hi x&&inB lo hi y)))):=by
 have hR:Rd1 iv w w.heap.size (some ⟨g,0,none⟩) [x,y]:=by
  intro i z hz
  match i,hz with
  | 0,hz=>simp at hz;subst hz;exact⟨g,0,rfl,hg,hc⟩
  | 1,hz=>simp at hz;subst hz;exact⟨g,0,rfl,hg,hd⟩
 refine(out_anyH _ [x,y] w.heap.size 2 lo hi w (by simp[maxLen]) hR (lr _)).mono ?_
 rintro e w' ⟨rfl,hb⟩;exact⟨ret_bool (by simp[allIn]),hb⟩
section
variable{s:ByteArray}{n:Nat}
def byteAt(s:ByteArray)(i:Nat):Nat:=if h:i<s.size then(s[i]'h).toNat else 0
def okAt(i c:Nat):Bool:=(decide (97≤c)&&decide (c≤122))||((decide (48≤c)&&decide (c≤57))&&i != 0)
def okTo(s:ByteArray)(n:Nat):Bool:=(List.range n).all fun i=>okAt i (byteAt s i)
def nameB(s:ByteArray):Bool:=okTo s s.size&&decide (1≤s.size)&&decide (s.size≤16)
theorem okTo_succ(s:ByteArray)(n:Nat):okTo s (n+1)=(okTo s n&&okAt n (byteAt s n)):=by unfold okTo;rw[List.range_succ,List.all_append];simp
theorem okTo_no{m:Nat}(h:okAt n (byteAt s n)=false)(hn:n<m):okTo s m=false:=by unfold okTo;rw[List.all_eq_false];exact⟨n,by simpa using hn,by simp[h]⟩
theorem nameB_no(h:okAt n (byteAt s n)=false)(hn:n<s.size):nameB s=false:=by unfold nameB;rw[okTo_no h hn];rfl
theorem okAt_zero{pos c:Nat}(h:pos=0)(hb:byteAt s pos=c)(hc:c<97):okAt pos (byteAt s pos)=false:=by rw[hb,h];simp[okAt];omega
theorem toList_nil(h:s.toList=[]):s.size=0:=by
 rw[ByteArray.toList_eq]at h;have:s.data.toList.length=0:=by rw[h];rfl
 simpa using this
theorem toList_not_nil(h:¬s.toList=[]):1≤s.size:=by
 rw[ByteArray.toList_eq]at h;have:s.data.toList.length≠0:=fun e=>h (List.length_eq_zero_iff.1 e)
 have h2:s.data.toList.length=s.size:=by simp
 omega
theorem name_any(s:ByteArray)(w:World)(hs:s.size≤maxLen) :
  Cs 29 #[.string s] w (Rt w (.bool (nameB s))):=by
 unfold maxLen at hs;go_enter Tryz.func29,Tryz.ntmps29
 go_wp2
 go_loopw [3] (fun _ w'=>∃pos:Nat,w'=w.iter s pos∧pos≤s.size∧okTo s pos=true) (fun _ w'=>s.size-w'.iterPos w.heap.size)
 case atStart=>exact⟨0,rfl,Nat.zero_le _,rfl⟩
 case round =>
  obtain⟨pos,rfl,hp,ho⟩:=hrel;have HO:=Lq ho;clear ho;by_cases hlt:pos<s.size
  ·by_cases ha:(s[pos]'hlt).toNat<128
   ·have hnx:∀ty,(Instr.next (pT w.heap.size 0) true ty).run Tryz.prog (w.iter s pos)=_:=fun ty=>run_next_ascii w s pos ty hlt ha
    obtain⟨c,hc⟩:∃c:Nat,(s[pos]'hlt).toNat=c:=⟨_,rfl⟩;rw[hc]at ha hnx;have hb:byteAt s pos=c:=by simp[byteAt,hlt,hc]
    have HB:=Lq hb;clear hb hc;by_cases c1:c<48
    ·have c2:c<97:=by omega
     go_wp2
     go_ret
     exact⟨ret_bool (nameB_no (n:=pos) (by rw[HB.out];simp[okAt];omega) hlt).symm,(Below.refl _ _).alloc (lr _) _⟩
    by_cases c2:c≤57
    ·have c3:c<97:=by omega
     have c4:48≤c:=by omega
     by_cases c5:pos=0
     ·have c6:((pos:Int)==0)=true:=beq_iff_eq.2 (by omega)
      have C5:=Lq c5;clear c5;go_wp2
      go_ret
      exact⟨ret_bool (nameB_no (n:=pos) (okAt_zero C5.out HB.out c3) hlt).symm,(Below.refl _ _).alloc (lr _) _⟩
     ·have c6:((pos:Int)==0)=false:=beq_eq_false_iff_ne.2 (by omega)
      have C5:=Lq c5;clear c5;go_wp2
      go_roundw
      case rel=>exact⟨pos+1,rfl,by omega,by rw[okTo_succ,HO.out,HB.out];have:=C5.out;simp[okAt];omega⟩
      case measure=>simp;omega
    by_cases c3:c<97
    ·have c4:57<c:=by omega
     have c5:48≤c:=by omega
     go_wp2
     go_ret
     exact⟨ret_bool (nameB_no (n:=pos) (by rw[HB.out];simp[okAt];omega) hlt).symm,(Below.refl _ _).alloc (lr _) _⟩
    have c4:57<c:=by omega
    have c5:48≤c:=by omega
    have c6:97≤c:=by omega
    by_cases c7:c≤122
    ·go_wp2
     go_roundw
     case rel=>exact⟨pos+1,rfl,by omega,by rw[okTo_succ,HO.out,HB.out];simp[okAt];omega⟩
     case measure=>simp;omega
    ·have c8:decide ((c:Int)≤122)=false:=by simp;omega
     go_wp2
     go_ret
     exact⟨ret_bool (nameB_no (n:=pos) (by rw[HB.out];simp[okAt];omega) hlt).symm,(Below.refl _ _).alloc (lr _) _⟩
   ·have hnx:∀ty,(Instr.next (pT w.heap.size 0) true ty).run Tryz.prog (w.iter s pos)=_:=fun ty=>run_next_any w s pos ty hlt
    obtain⟨h1,h2⟩:=decode_high s pos hlt (by omega)
    obtain⟨r,hr⟩:∃r:Nat,(Utf8.decode s pos).1=r:=⟨_,rfl⟩;obtain⟨d,hd⟩:∃d:Nat,(Utf8.decode s pos).2=d:=⟨_,rfl⟩;rw[hr]at h1 hnx;rw[hd]at h2 hnx;have hb:128≤byteAt s pos:=by simp only[byteAt,hlt,dif_pos];omega
    clear hr hd ha;have h3:97≤r:=by omega
    have h4:decide ((r:Int)≤122)=false:=by simp;omega
    have h5:48≤r:=by omega
    have h6:decide ((r:Int)≤57)=false:=by simp;omega
    go_wp2
    go_ret
    exact⟨ret_bool (nameB_no (n:=pos) (by simp[okAt];omega) hlt).symm,(Below.refl _ _).alloc (lr _) _⟩
  ·have hnx:∀ty,(Instr.next (pT w.heap.size 0) true ty).run Tryz.prog (w.iter s pos)=_:=fun ty=>run_next_end w s pos ty hlt
   obtain rfl:pos=s.size:=by omega
   go_wp2
   ·have hz:s.toList=[]:=by assumption
    go_ret
    exact⟨ret_bool (by unfold nameB;rw[toList_nil hz];simp),(Below.refl _ _).alloc (lr _) _⟩
   ·have hz:¬s.toList=[]:=by assumption
    go_ret
    refine⟨ret_bool ?_,(Below.refl _ _).alloc (lr _) _⟩;show(!s.toList.isEmpty&&decide ((s.size:Int)≤16))=nameB s
    have h1:s.toList.isEmpty=false:=by simpa using hz
    have h2:=toList_not_nil hz;unfold nameB;rw[h1,HO.out,Bool.eq_iff_iff];simp;omega
end
end Go.Proofs.YtigcophcpboanaaGreatDoor
namespace Go.Proofs.YtigcophcpboanaaGreatDoor
section
variable{s:ByteArray}{i j:Nat}
structure HuP where
 name:ByteArray
 kind:Int
 first:Int
 last:Int
 on:List ByteArray
 wlo:Int
 whi:Int
structure HuC where
 what:Int
 day:Int
 name:ByteArray
 part:HuP
def eqS(a b:ByteArray):Bool:=a.toList==b.toList
theorem eqS_iff{a b:ByteArray}:eqS a b=true↔a.toList=b.toList:=by simp[eqS]
def nmB(s:ByteArray)(p:HuP):Bool:=eqS p.name s
theorem nmB_iff{p:HuP}:nmB s p=true↔p.name.toList=s.toList:=eqS_iff
def hasP(l:List HuP)(s:ByteArray):Bool:=l.any (nmB s)
def idxP(l:List HuP)(s:ByteArray):Nat:=l.findIdx (nmB s)
def posP(l:List HuP)(s:ByteArray):Int:=if idxP l s<l.length then(idxP l s:Int)else -1
def standsB(p:HuP)(s:ByteArray):Bool:=p.on.any fun o=>eqS o s
def meetB(a b:HuP):Bool:=decide (a.first≤b.last)&&decide (b.first≤a.last)
theorem idx_lt{l:List HuP}:idxP l s<l.length↔∃p∈l,p.name.toList=s.toList:=by unfold idxP;rw[List.findIdx_lt_length];simp only[nmB_iff]
theorem hasP_iff{l:List HuP}:hasP l s=true↔∃p∈l,p.name.toList=s.toList:=by simp[hasP,nmB_iff]
theorem hasP_false{l:List HuP}:hasP l s=false↔∀p∈l,p.name.toList≠s.toList:=by rw[Bool.eq_false_iff,Ne,hasP_iff];exact⟨fun h p hp e=>h ⟨p,hp,e⟩,fun h ⟨p,hp,e⟩=>h p hp e⟩
theorem posP_neg{l:List HuP}:posP l s<0↔hasP l s=false:=by
 rw[hasP_false];unfold posP;by_cases h:idxP l s<l.length
 ·rw[if_pos h];obtain⟨p,hp,e⟩:=idx_lt.1 h;exact⟨fun h0=>by omega,fun h0=>absurd e (h0 p hp)⟩
 ·rw[if_neg h];exact⟨fun _ p hp e=>h (idx_lt.2 ⟨p,hp,e⟩),fun _=>by omega⟩
theorem posP_at{l:List HuP}(h:hasP l s=true):posP l s=(idxP l s:Int)∧idxP l s<l.length∧∃p,l[idxP l s]?=some p∧p.name.toList=s.toList:=by
 have hl:=idx_lt.2 (hasP_iff.1 h);refine⟨by unfold posP;rw[if_pos hl],hl,l[idxP l s],gE hl, ?_⟩
 exact nmB_iff.1 (List.findIdx_getElem (w:=hl))
structure PartOk(x:HuP)(before others:List HuP):Prop where
 nm:nameB x.name=true
 new:∀p∈others,p.name.toList≠x.name.toList
 kind:1≤x.kind∧x.kind≤5
 fr:0≤x.first∧x.first≤x.last∧x.last≤40
 wt:1≤x.wlo∧x.wlo≤x.whi∧x.whi≤1000000
 on:∀o∈x.on,∃y,before.find? (nmB o)=some y∧meetB x y=true
 dup:(x.on.map ByteArray.toList).Nodup
structure ShipOk(l:List HuP):Prop where
 len:l.length≤12
 part:∀i p,l[i]?=some p→PartOk p (l.take i) (l.take i)
def bareP(x:HuP):Bool:=x.name.toList.isEmpty&&x.kind==0&&x.first==0&&x.last==0&&x.on.length==0&&x.wlo==0&&x.whi==0
def swapS(old new:ByteArray)(s:ByteArray):ByteArray:=if eqS s old then new else s
def swapO(old new:ByteArray)(q:HuP):HuP:={ q with on:=q.on.map (swapS old new) }
def swapP(l:List HuP)(at':Nat)(old:ByteArray)(x:HuP):List HuP:=l.take at'++x::(l.drop (at'+1)).map (swapO old x.name)
open Classical in
noncomputable def chgP(l:List HuP)(c:HuC):Option (List HuP) :=
 if c.what=1 then(if c.name.toList.isEmpty=true∧l.length<12∧PartOk c.part l l then some (l++[c.part])else none)
 else if c.what=2 then(if bareP c.part=true∧hasP l c.name=true∧(∀q∈l,standsB q c.name=false)then some (l.eraseIdx (idxP l c.name))else none)
 else if c.what=3 then(if hasP l c.name=true∧PartOk c.part (l.take (idxP l c.name)) (l.eraseIdx (idxP l c.name))∧(∀q∈l.drop (idxP l c.name+1),standsB q c.name=true→meetB q c.part=true)then some (swapP l (idxP l c.name) c.name c.part)else none)
 else none
theorem ShipOk.ne{l:List HuP}(h:ShipOk l){p q:HuP}(hi:l[i]?=some p)(hj:l[j]?=some q)(hij:i<j):p.name.toList≠q.name.toList :=
 (h.part j q hj).new p (mG ⟨i,by rw[List.getElem?_take_of_lt hij];exact hi⟩)
theorem ShipOk.inj{l:List HuP}(h:ShipOk l){p q:HuP}(hi:l[i]?=some p)(hj:l[j]?=some q)(e:p.name.toList=q.name.toList):i=j:=by
 rcases Nat.lt_trichotomy i j with hlt | rfl | hlt
 ·exact absurd e (h.ne hi hj hlt)
 ·rfl
 ·exact absurd e.symm (h.ne hj hi hlt)
theorem find_at{l:List HuP}{y:HuP}(h:l.find? (nmB s)=some y):∃j,j=idxP l s∧l[j]?=some y∧y.name.toList=s.toList:=by
 have hm:=List.mem_of_find?_eq_some h;have hp:=List.find?_some h;have hl:idxP l s<l.length:=idx_lt.2 ⟨y,hm,nmB_iff.1 hp⟩;refine⟨_,rfl, ?_,nmB_iff.1 hp⟩;rw[List.find?_eq_some_iff_getElem]at h;obtain⟨_,i,hi,e,hb⟩:=h;have e2:idxP l s=i:=by unfold idxP;rw[List.findIdx_eq hi];exact⟨by rw[e];exact hp,fun j hj=>by have:=hb j hj;simpa using this⟩
 rw[e2,gE hi,e]
theorem ShipOk.find{l:List HuP}(h:ShipOk l){p:HuP}(hi:l[i]?=some p)(e:p.name.toList=s.toList):l.find? (nmB s)=some p∧idxP l s=i∧hasP l s=true:=by
 have hm:p∈l:=mG ⟨i,hi⟩;have hh:hasP l s=true:=hasP_iff.2 ⟨p,hm,e⟩;cases hf:l.find? (nmB s)with
 | none=>exact absurd (nmB_iff.2 e) (by have:=List.find?_eq_none.1 hf p hm;simpa using this)
 | some y =>
  obtain⟨j,hj,hy,ey⟩:=find_at hf;obtain rfl:=h.inj hy hi (ey.trans e.symm);rw[hi]at hy;exact⟨hy.symm,hj.symm,hh⟩
end
section
variable{s:ByteArray}{k:Nat}
theorem PartOk.mono{x:HuP}{b b' o o':List HuP}(h:PartOk x b o)(ho:∀p∈o',p∈o)(hb:∀s∈x.on,b'.find? (nmB s)=b.find? (nmB s)):PartOk x b' o' :=
 ⟨h.nm,fun p hp=>h.new p (ho p hp),h.kind,h.fr,h.wt,fun s hs=>by rw[hb s hs];exact h.on s hs,h.dup⟩
theorem ShipOk.append{l:List HuP}{x:HuP}(h:ShipOk l)(hl:l.length<12)(hx:PartOk x l l):ShipOk (l++[x]):=by
 refine⟨by simp;omega,fun i p hi=>?_⟩
 rcases Nat.lt_trichotomy i l.length with hlt | rfl | hlt
 ·rw[List.getElem?_append_left hlt]at hi;rw[List.take_append_of_le_length (Nat.le_of_lt hlt)];exact h.part i p hi
 ·rw[List.getElem?_append_right (lr _)]at hi;simp at hi;subst hi
  simpa using hx
 ·rw[List.getElem?_eq_none (by simp;omega)]at hi
  cases hi
theorem find_erase{q:HuP→Bool}:∀(l:List HuP) (k:Nat),(∀p,l[k]?=some p→q p=false)→(l.eraseIdx k).find? q=l.find? q:=by
 intro l;induction l with
 | nil=>intro k _;rfl
 | cons a l ih =>
  intro k hk;cases k with
  | zero=>have:=hk a rfl;simp[this]
  | succ k =>
   have:=ih k (fun p hp=>hk p (by simpa using hp))
   simp only[List.eraseIdx_cons_succ,List.find?_cons,this]
theorem take_erase:∀(l:List HuP) (k i:Nat),k≤i→(l.eraseIdx k).take i=(l.take (i+1)).eraseIdx k:=by
 intro l;induction l with
 | nil=>intro k i _;simp
 | cons a l ih =>
  intro k i hk;cases k with
  | zero=>simp
  | succ k =>
   obtain⟨i,rfl⟩:∃j,i=j+1:=⟨i-1,by omega⟩
   simp only[List.eraseIdx_cons_succ,List.take_succ_cons,ih k i (by omega)]
theorem take_erase_lt:∀(l:List HuP) (k i:Nat),i≤k→(l.eraseIdx k).take i=l.take i:=by
 intro l;induction l with
 | nil=>intro k i _;simp
 | cons a l ih =>
  intro k i hk;cases i with
  | zero=>simp
  | succ i =>
   obtain⟨k,rfl⟩:∃j,k=j+1:=⟨k-1,by omega⟩
   simp only[List.eraseIdx_cons_succ,List.take_succ_cons,ih k i (by omega)]
theorem stands_false{q:HuP}(h:standsB q s=false):∀o∈q.on,o.toList≠s.toList:=by
 intro o ho e;have:standsB q s=true:=by unfold standsB;exact List.any_eq_true.2 ⟨o,ho,eqS_iff.2 e⟩
 rw[h]at this;cases this
theorem ShipOk.erase{l:List HuP}(h:ShipOk l){p0:HuP}(hk:l[k]?=some p0)(e:p0.name.toList=s.toList)(hs:∀q∈l,standsB q s=false):ShipOk (l.eraseIdx k):=by
 have hne:∀(m:List HuP) (q:HuP),q∈l→(∀p,m[k]?=some p→p=p0)→∀o∈q.on,(m.eraseIdx k).find? (nmB o)=m.find? (nmB o):=by
  intro m q hq hm o ho;refine find_erase m k fun p hp=>?_
  rw[hm p hp];have:=stands_false (hs q hq) o ho;cases hb:nmB o p0 with
  | false=>rfl
  | true=>exact absurd ((nmB_iff.1 hb).symm.trans e) this
 refine⟨lT (List.length_eraseIdx_le _ _) h.len,fun i p hi=>?_⟩
 rw[List.getElem?_eraseIdx]at hi;split at hi
 ·rename_i hlt;rw[take_erase_lt l k i (Nat.le_of_lt hlt)];exact h.part i p hi
 ·rename_i hge;rw[take_erase l k i (by omega)]
  refine(h.part (i+1) p hi).mono (fun q hq=>List.mem_of_mem_eraseIdx hq) ?_
  refine hne _ p (mG ⟨_,hi⟩) fun q hq=>?_
  rw[List.getElem?_take]at hq;split at hq
  ·rw[hk]at hq;injection hq with hq;exact hq.symm
  ·cases hq
theorem mem_erase_ne{l:List HuP}{i:Nat}{q:HuP}(hi:l[i]?=some q)(hne:i≠k):q∈l.eraseIdx k:=by rw[List.mem_eraseIdx_iff_getElem?];exact⟨i,hne,hi⟩
theorem find_map_swap(s n o:ByteArray)(R:List HuP):(R.map (swapO s n)).find? (nmB o)=(R.find? (nmB o)).map (swapO s n):=by rw[List.find?_map];rfl
theorem ShipOk.swap{l:List HuP}(h:ShipOk l){p0 x:HuP}(hk:l[k]?=some p0)(e:p0.name.toList=s.toList)(hx:PartOk x (l.take k) (l.eraseIdx k))(hs:∀q∈l.drop (k+1),standsB q s=true→meetB q x=true):ShipOk (swapP l k s x):=by
 have hkl:k<l.length:=(lG hk);have hlt:(l.take k).length=k:=by rw[List.length_take];omega
 have hmem:∀p∈l.take k,p∈l.eraseIdx k:=by
  intro p hp;obtain⟨j,hj⟩:=List.mem_iff_getElem?.1 hp;rw[List.getElem?_take]at hj;split at hj
  ·rename_i hjk;exact mem_erase_ne hj (by omega)
  ·cases hj
 refine⟨by unfold swapP;simp;have:=h.len;omega,fun i p hi=>?_⟩
 unfold swapP at hi ⊢;rcases Nat.lt_trichotomy i k with hik | rfl | hik
 ·rw[List.getElem?_append_left (by omega),List.getElem?_take_of_lt hik]at hi
  rw[List.take_append_of_le_length (by omega),List.take_take,Nat.min_eq_left (by omega)]
  exact h.part i p hi
 ·rw[List.getElem?_append_right (by omega),hlt,Nat.sub_self,List.getElem?_cons_zero]at hi
  injection hi with hi
  subst hi;rw[List.take_append_of_le_length (by omega),List.take_take,Nat.min_self]
  exact hx.mono hmem (fun _ _=>rfl)
 ·obtain⟨d,rfl⟩:∃d,i=k+1+d:=⟨i-k-1,by omega⟩
  rw[List.getElem?_append_right (by omega),hlt,show k+1+d-k=d+1 by omega,List.getElem?_cons_succ,List.getElem?_map,List.getElem?_drop]at hi
  cases hq:l[k+1+d]? with
  | none=>rw[hq]at hi;cases hi
  | some q =>
   rw[hq]at hi;injection hi with hi
   subst hi;have Q:=h.part _ q hq;have hqm:q∈l.drop (k+1):=mG ⟨d,by rw[List.getElem?_drop];exact hq⟩
   have hT:(l.take k++x::(l.drop (k+1)).map (swapO s x.name)).take (k+1+d)=l.take k++x::((l.drop (k+1)).take d).map (swapO s x.name):=by rw[List.take_append,hlt,List.take_take,Nat.min_eq_right (by omega),show k+1+d-k=d+1 by omega,List.take_succ_cons,List.map_take]
   have hL:l.take (k+1+d)=l.take k++p0::(l.drop (k+1)).take d:=by
    rw[Nat.add_assoc,List.take_add,Nat.add_comm 1 d,List.drop_eq_getElem_cons hkl,List.take_succ_cons];rw[gE hkl]at hk;injection hk with hk
    rw[hk]
   have hR:∀y∈(l.drop (k+1)).take d,y∈l.eraseIdx k∧y∈l.take (k+1+d):=by
    intro y hy;obtain⟨j,hj⟩:=List.mem_iff_getElem?.1 hy;rw[List.getElem?_take]at hj;split at hj
    ·rw[List.getElem?_drop]at hj;exact⟨mem_erase_ne hj (by omega),by rw[hL];simp[hy]⟩
    ·cases hj
   have hnx:∀y∈l.eraseIdx k,y.name.toList≠x.name.toList:=hx.new;have hkey:∀o∈q.on,o.toList≠s.toList→o.toList≠x.name.toList:=by
    intro o ho hne e2;obtain⟨y,hy,_⟩:=Q.on o ho;obtain⟨j,_,hj,ey⟩:=find_at hy;rw[List.getElem?_take]at hj;split at hj
    ·refine hnx y (mem_erase_ne hj ?_) (ey.trans e2);intro hjk;subst hjk;rw[hk]at hj;injection hj with hj
     subst hj;exact hne (ey.symm.trans e)
    ·cases hj
   rw[hT];refine⟨Q.nm, ?_,Q.kind,Q.fr,Q.wt, ?_, ?_⟩
   ·intro y hy;simp only[List.mem_append,List.mem_cons,List.mem_map]at hy;rcases hy with hy | rfl | ⟨z,hz,rfl⟩
    ·exact Q.new y (by rw[hL];simp[hy])
    ·exact fun e2=>hnx q (mem_erase_ne hq (by omega)) e2.symm
    ·exact Q.new z (hR z hz).2
   ·intro o' ho';obtain⟨o,ho,rfl⟩:=List.mem_map.1 ho';by_cases eo:o.toList=s.toList
    ·refine⟨x, ?_, ?_⟩
     ·have e3:swapS s x.name o=x.name:=by unfold swapS;rw[if_pos (eqS_iff.2 eo)]
      rw[e3,List.find?_append];have hn:(l.take k).find? (nmB x.name)=none:=by rw[List.find?_eq_none];intro y hy hb;exact hnx y (hmem y hy) (nmB_iff.1 hb)
      rw[hn,List.find?_cons,nmB_iff.2 rfl];rfl
     ·exact hs q hqm (List.any_eq_true.2 ⟨o,ho,eqS_iff.2 eo⟩)
    ·have e3:swapS s x.name o=o:=by
      unfold swapS;rw[if_neg];intro hb;exact eo (eqS_iff.1 hb)
     rw[e3];obtain⟨y,hy,hm⟩:=Q.on o ho;rw[hL,List.find?_append]at hy;rw[List.find?_append];cases hf:(l.take k).find? (nmB o)with
     | some z =>
      rw[hf]at hy;injection hy with hy
      subst hy;exact⟨z,rfl,hm⟩
     | none =>
      rw[hf,Option.none_or,List.find?_cons]at hy;have h0:nmB o p0=false:=by
       cases hb:nmB o p0 with
       | false=>rfl
       | true=>exact absurd ((nmB_iff.1 hb).symm.trans e) eo
      have h1:nmB o x=false:=by
       cases hb:nmB o x with
       | false=>rfl
       | true=>exact absurd (nmB_iff.1 hb).symm (hkey o ho eo)
      rw[h0]at hy;simp only[Option.none_or,List.find?_cons,h1,find_map_swap];simp only at hy;rw[hy];exact⟨_,rfl,hm⟩
   ·show(List.map ByteArray.toList (List.map (swapS s x.name) q.on)).Nodup
    have hd:=Q.dup;unfold List.Nodup at hd ⊢;rw[List.map_map,List.pairwise_map];rw[List.pairwise_map]at hd;refine hd.imp_of_mem fun{a b} ha hb hab=>?_
    show(swapS s x.name a).toList≠(swapS s x.name b).toList
    unfold swapS;by_cases ea:a.toList=s.toList
    ·rw[if_pos (eqS_iff.2 ea),if_neg (fun h2=>hab (ea.trans (eqS_iff.1 h2).symm))]
     exact(hkey b hb (fun h2=>hab (ea.trans h2.symm))).symm
    ·rw[if_neg (fun h2=>ea (eqS_iff.1 h2))]
     by_cases eb:b.toList=s.toList
     ·rw[if_pos (eqS_iff.2 eb)];exact hkey a ha ea
     ·rw[if_neg (fun h2=>eb (eqS_iff.1 h2))]
      exact hab
theorem chg_ok{l l':List HuP}{c:HuC}(h:ShipOk l)(hc:chgP l c=some l'):ShipOk l':=by
 unfold chgP at hc;split at hc
 ·split at hc
  ·rename_i h1;injection hc with hc
   subst hc;exact h.append h1.2.1 h1.2.2
  ·cases hc
 ·split at hc
  ·split at hc
   ·rename_i h1;injection hc with hc
    subst hc;obtain⟨_,_,p,hp,e⟩:=posP_at h1.2.1;exact h.erase hp e h1.2.2
   ·cases hc
  ·split at hc
   ·split at hc
    ·rename_i h1;injection hc with hc
     subst hc;obtain⟨_,_,p,hp,e⟩:=posP_at h1.1;exact h.swap hp e h1.2.1 h1.2.2
    ·cases hc
   ·cases hc
end
section
variable{s:ByteArray}{day:Int}{i k:Nat}
noncomputable def stepC(day:Int)(s:Option (List HuP×Int×List HuP))(c:HuC):Option (List HuP×Int×List HuP) :=
 match s with
 | none=>none
 | some (l,last,now)=>if inB last 40000 c.day then(chgP l c).map fun l'=>(l',c.day,if c.day≤day then l' else now)else none
noncomputable def runC(day:Int)(l:List HuP)(cs:List HuC):Option (List HuP×Int×List HuP):=cs.foldl (stepC day) (some (l,0,l))
structure PlanOk(l:List HuP)(cs:List HuC):Prop where
 ship:ShipOk l
 len:cs.length≤8
 run:(runC 0 l cs).isSome=true
noncomputable def shipOn(day:Int)(l:List HuP)(cs:List HuC):List HuP:=match runC day l cs with
 | some s=>s.2.2
 | none=>[]
theorem runC_snoc{l:List HuP}{cs:List HuC}{c:HuC}(h:cs[k]?=some c):runC day l (cs.take (k+1))=stepC day (runC day l (cs.take k)) c:=by unfold runC;rw[List.take_add_one,h];simp
theorem runC_no(day:Int)(cs:List HuC):cs.foldl (stepC day) none=none:=by
 induction cs with
 | nil=>rfl
 | cons c cs ih=>exact ih
theorem runC_stuck{l:List HuP}{cs:List HuC}(h:runC day l (cs.take k)=none):runC day l cs=none:=by
 have e:runC day l cs=(cs.drop k).foldl (stepC day) (runC day l (cs.take k)):=by unfold runC;rw[←List.foldl_append,List.take_append_drop]
 rw[e,h,runC_no]
theorem stepC_day(d d':Int)(s s':Option (List HuP×Int×List HuP))(c:HuC)(h:s.map (fun x=>(x.1,x.2.1))=s'.map (fun x=>(x.1,x.2.1))) :
  (stepC d s c).map (fun x=>(x.1,x.2.1))=(stepC d' s' c).map (fun x=>(x.1,x.2.1)):=by
 cases s with
 | none=>cases s' with
  | none=>rfl
  | some y=>cases h
 | some x=>cases s' with
  | none=>cases h
  | some y =>
   obtain⟨l,a,n⟩:=x;obtain⟨l',a',n'⟩:=y;simp only[Option.map_some,Option.some.injEq,Prod.mk.injEq]at h;obtain⟨rfl,rfl⟩:=h;unfold stepC;simp only;split
   ·cases chgP l c<;>rfl
   ·rfl
theorem runC_day(d d':Int)(l:List HuP)(cs:List HuC):(runC d l cs).map (fun x=>(x.1,x.2.1))=(runC d' l cs).map (fun x=>(x.1,x.2.1)):=by
 have:∀(cs:List HuC) (s s':Option (List HuP×Int×List HuP)),s.map (fun x=>(x.1,x.2.1))=s'.map (fun x=>(x.1,x.2.1))→(cs.foldl (stepC d) s).map (fun x=>(x.1,x.2.1))=(cs.foldl (stepC d') s').map (fun x=>(x.1,x.2.1)):=by
  intro cs;induction cs with
  | nil=>intro s s' h;exact h
  | cons c cs ih=>intro s s' h;exact ih _ _ (stepC_day d d' s s' c h)
 exact this cs _ _ rfl
theorem runC_some(d d':Int)(l:List HuP)(cs:List HuC):(runC d l cs).isSome=(runC d' l cs).isSome:=by have:=runC_day d d' l cs;cases h:runC d l cs<;>cases h':runC d' l cs<;>rw[h,h']at this<;>first | rfl | cases this
theorem stepC_ok{l:List HuP}{last:Int}{now:List HuP}{c:HuC}{x:List HuP×Int×List HuP}(hl:ShipOk l)(hn:ShipOk now)(h:stepC day (some (l,last,now)) c=some x):ShipOk x.1∧ShipOk x.2.2:=by
 unfold stepC at h;simp only at h;split at h
 ·cases hc:chgP l c with
  | none=>rw[hc]at h;cases h
  | some l' =>
   rw[hc]at h;injection h with h
   subst h;have h1:=chg_ok hl hc;refine⟨h1, ?_⟩;show ShipOk (if c.day≤day then l' else now)
   split
   ·exact h1
   ·exact hn
 ·cases h
theorem run_ok{l:List HuP}(hl:ShipOk l):∀(cs:List HuC) (x:List HuP×Int×List HuP),runC day l cs=some x→ShipOk x.1∧ShipOk x.2.2:=by
 have:∀(cs:List HuC) (s:List HuP×Int×List HuP),ShipOk s.1→ShipOk s.2.2→∀x,cs.foldl (stepC day) (some s)=some x→ShipOk x.1∧ShipOk x.2.2:=by
  intro cs;induction cs with
  | nil=>intro s h1 h2 x h;injection h with h;subst h;exact⟨h1,h2⟩
  | cons c cs ih =>
   intro s h1 h2 x h;obtain⟨a,b,n⟩:=s;rw[List.foldl_cons]at h;cases hs:stepC day (some (a,b,n)) c with
   | none=>rw[hs,runC_no]at h;cases h
   | some y =>
    rw[hs]at h;obtain⟨k1,k2⟩:=stepC_ok h1 h2 hs;exact ih y k1 k2 x h
 exact fun cs x h=>this cs _ hl hl x h
theorem shipOn_ok{l:List HuP}{cs:List HuC}(h:PlanOk l cs)(day:Int):ShipOk (shipOn day l cs):=by
 have h1:=h.run;rw[runC_some 0 day]at h1;unfold shipOn;cases hr:runC day l cs with
 | none=>rw[hr]at h1;cases h1
 | some x=>exact(run_ok h.ship cs x hr).2
def overL(l:List HuP)(s:ByteArray):Nat→List Bool
 | 0=>[]
 | n+1=>overL l s n++[match l[n]? with
  | none=>false
  | some p=>standsB p s||p.on.any fun o=>(overL l s n).getD (idxP l o) false]
theorem overL_len(l:List HuP)(s:ByteArray):∀n,(overL l s n).length=n:=by
 intro n;induction n with
 | zero=>rfl
 | succ n ih=>simp[overL,ih]
def overAt(l:List HuP)(s:ByteArray)(i:Nat):Bool:=(overL l s (i+1)).getD i false
theorem overL_get(l:List HuP)(s:ByteArray)(i n:Nat)(h:i<n):(overL l s n).getD i false=overAt l s i:=by
 induction n with
 | zero=>omega
 | succ n ih =>
  rcases Nat.lt_or_ge i n with hlt | hge
  ·rw[←ih hlt];show(overL l s n++_).getD i false=_
   rw[List.getD_eq_getElem?_getD,List.getElem?_append_left (by rw[overL_len];exact hlt),←List.getD_eq_getElem?_getD]
  ·obtain rfl:i=n:=by omega
   rfl
theorem overAt_eq{l:List HuP}{p:HuP}(hi:l[i]?=some p)(hon:∀o∈p.on,idxP l o<i) :
  overAt l s i=(standsB p s||p.on.any fun o=>overAt l s (idxP l o)):=by
 unfold overAt;show(overL l s i++_).getD i false=_
 rw[List.getD_eq_getElem?_getD,List.getElem?_append_right (by rw[overL_len];omega),overL_len,Nat.sub_self,List.getElem?_cons_zero,hi]
 simp only[Option.getD_some]
 congr 1
 rw[Bool.eq_iff_iff];simp only[List.any_eq_true];constructor
 ·rintro⟨o,ho,h⟩;exact⟨o,ho,by rw[overL_get l s _ _ (hon o ho)]at h;exact h⟩
 ·rintro⟨o,ho,h⟩;exact⟨o,ho,by rw[overL_get l s _ _ (hon o ho)];exact h⟩
theorem ShipOk.below{l:List HuP}(h:ShipOk l){p:HuP}(hi:l[i]?=some p){o:ByteArray}(ho:o∈p.on):idxP l o<i∧∃y,l[idxP l o]?=some y∧y.name.toList=o.toList∧meetB p y=true:=by
 obtain⟨y,hy,hm⟩:=(h.part i p hi).on o ho;obtain⟨j,_,hj,ey⟩:=find_at hy;rw[List.getElem?_take]at hj;split at hj
 ·rename_i hji;obtain⟨_,e2,_⟩:=h.find hj ey;rw[e2];exact⟨hji,y,hj,ey,hm⟩
 ·cases hj
def aboveL(l:List HuP)(s:ByteArray)(n:Nat):List ByteArray:=(List.range n).filterMap fun i=>match l[i]? with
 | none=>none
 | some p=>if overAt l s i then some p.name else none
theorem aboveL_succ{l:List HuP}{n:Nat}{p:HuP}(h:l[n]?=some p):aboveL l s (n+1)=aboveL l s n++(if overAt l s n then[p.name]else[]):=by unfold aboveL;rw[List.range_succ,List.filterMap_append];simp only[List.filterMap_cons,List.filterMap_nil,h];split<;>rename_i h1<;>split at h1<;>first | (injection h1 with h1;subst h1;simp_all) | simp_all
end
end Go.Proofs.YtigcophcpboanaaGreatDoor
namespace Go.Proofs.YtigcophcpboanaaGreatDoor
open Go.RowKit
section
variable{x:ByteArray}{c i:Nat}
theorem okAt_t(hi:i≠0)(h:(97≤c∧c≤122)∨(48≤c∧c≤57)):okAt i c=true:=by simp[okAt,hi];omega
theorem okAt_f(h:¬((97≤c∧c≤122)∨(48≤c∧c≤57))):okAt i c=false:=by simp[okAt];omega
theorem refName_any(s:ByteArray)(w:World)(hs:s.size≤maxLen) :
  Cs 60 #[.string s] w (Rt w (.bool (nameB s))):=by
 unfold maxLen at hs;by_cases hb:1≤s.size∧s.size≤16
 ·obtain⟨hb1,hb2⟩:=hb;have hin:inB 1 16 (s.size:Int)=true:=inB_mk (by omega) (by omega)
  obtain⟨c,hc⟩:∃c:Nat,(s[0]'(by omega)).toNat=c:=⟨_,rfl⟩
  have hb0:byteAt s 0=c:=by rw[←hc];simp only[byteAt];rw[dif_pos (by omega)]
  have HB0:=Lq hb0;clear hb0;have fin0:okAt 0 c=false→nameB s=false:=fun h=>nameB_no (n:=0) (by rw[HB0.out];exact h) (by omega)
  have FIN0:=Lq fin0;clear fin0;by_cases c1:c<97
  ·go_enter Tryz.func60,Tryz.ntmps60
   go_wp2_with (go_at_call 15;refine(within_any _ _ _ _).mono ?_;rintro e w' ⟨rfl,rfl⟩)
   go_ret
   exact⟨ret_bool (FIN0.out (by simp[okAt];omega)).symm,Below.refl _ _⟩
  by_cases c2:122<c
  ·have c3:97≤c:=by omega
   go_enter Tryz.func60,Tryz.ntmps60
   go_wp2_with (go_at_call 15;refine(within_any _ _ _ _).mono ?_;rintro e w' ⟨rfl,rfl⟩)
   go_ret
   exact⟨ret_bool (FIN0.out (by simp[okAt];omega)).symm,Below.refl _ _⟩
  have c3:97≤c:=by omega
  have c4:c≤122:=by omega
  have h1:okTo s 1=true:=by rw[okTo_succ,HB0.out];simp[okTo,okAt];omega
  have H1:=Lq h1;clear h1;go_enter Tryz.func60,Tryz.ntmps60
  go_wp2_with (go_at_call 15;refine(within_any _ _ _ _).mono ?_;rintro e w' ⟨rfl,rfl⟩)
  go_loopw [3] (fun i w'=>∃k n:Nat,w'=w.drewN n∧1≤k∧k≤s.size∧i=iv k∧okTo s k=true) (fun i _=>s.size-(intOf i).toNat)
  case atStart=>exact⟨1,0,rfl,by omega,by omega,rfl,H1.out⟩
  case round =>
   obtain⟨k,n,rfl,hk1,hk,rfl,ho⟩:=hrel;have HO:=Lq ho;clear ho hc;by_cases hlt:k<s.size
   ·obtain⟨d,hd⟩:∃d:Nat,(s[k]'hlt).toNat=d:=⟨_,rfl⟩;have hb:byteAt s k=d:=by rw[←hd];simp only[byteAt];rw[dif_pos hlt]
    have HB:=Lq hb;clear hb;by_cases d1:d<48
    ·skip;have e1:decide ((97:Int)≤(d:Int))=false:=by simp;omega
     have e2:decide ((d:Int)≤122)=true:=by simp;omega
     have e3:decide ((48:Int)≤(d:Int))=false:=by simp;omega
     have e4:decide ((d:Int)≤57)=true:=by simp;omega
     go_wp2
     go_quiet (fail)
     go_wp2
     go_ret
     exact⟨ret_bool (nameB_no (n:=k) (by rw[HB.out];exact okAt_f (by omega)) hlt).symm,belowD (Below.refl _ _) _⟩
    by_cases d2:d≤57
    ·skip;have e1:decide ((97:Int)≤(d:Int))=false:=by simp;omega
     have e2:decide ((d:Int)≤122)=true:=by simp;omega
     have e3:decide ((48:Int)≤(d:Int))=true:=by simp;omega
     have e4:decide ((d:Int)≤57)=true:=by simp;omega
     go_wp2
     go_quiet (fail)
     go_wp2
     go_roundw
     case rel=>exact⟨k+1,_,rfl,by omega,by omega,by go_num,by rw[okTo_succ,HO.out,HB.out,okAt_t (by omega) (by omega)];rfl⟩
     case measure=>simp[intOf];omega
    by_cases d3:d<97
    ·skip;have e1:decide ((97:Int)≤(d:Int))=false:=by simp;omega
     have e2:decide ((d:Int)≤122)=true:=by simp;omega
     have e3:decide ((48:Int)≤(d:Int))=true:=by simp;omega
     have e4:decide ((d:Int)≤57)=false:=by simp;omega
     go_wp2
     go_quiet (fail)
     go_wp2
     go_ret
     exact⟨ret_bool (nameB_no (n:=k) (by rw[HB.out];exact okAt_f (by omega)) hlt).symm,belowD (Below.refl _ _) _⟩
    by_cases d4:d≤122
    ·skip;have e1:decide ((97:Int)≤(d:Int))=true:=by simp;omega
     have e2:decide ((d:Int)≤122)=true:=by simp;omega
     have e3:decide ((48:Int)≤(d:Int))=true:=by simp;omega
     have e4:decide ((d:Int)≤57)=false:=by simp;omega
     go_wp2
     go_quiet (fail)
     go_wp2
     go_roundw
     case rel=>exact⟨k+1,_,rfl,by omega,by omega,by go_num,by rw[okTo_succ,HO.out,HB.out,okAt_t (by omega) (by omega)];rfl⟩
     case measure=>simp[intOf];omega
    ·skip;have e1:decide ((97:Int)≤(d:Int))=true:=by simp;omega
     have e2:decide ((d:Int)≤122)=false:=by simp;omega
     have e3:decide ((48:Int)≤(d:Int))=true:=by simp;omega
     have e4:decide ((d:Int)≤57)=false:=by simp;omega
     go_wp2
     go_quiet (fail)
     go_wp2
     go_ret
     exact⟨ret_bool (nameB_no (n:=k) (by rw[HB.out];exact okAt_f (by omega)) hlt).symm,belowD (Below.refl _ _) _⟩
   ·go_wp2
    go_ret
    obtain rfl:k=s.size:=by omega
    exact⟨ret_bool (by unfold nameB;rw[HO.out];simp;omega),belowD (Below.refl _ _) _⟩
 ·have hin:inB 1 16 (s.size:Int)=false:=inB_no (by omega)
  have HB:=Lq hb;clear hb;go_enter Tryz.func60,Tryz.ntmps60
  go_wp2_with (go_at_call 15;refine(within_any _ _ _ _).mono ?_;rintro e w' ⟨rfl,rfl⟩)
  go_ret
  exact⟨ret_bool (by have:=HB.out;unfold nameB;rw[Bool.eq_iff_iff];simp;omega),Below.refl _ _⟩
def oneOf(l:List ByteArray)(s:ByteArray):Bool:=l.any fun x=>x.toList==s.toList
theorem toList_inj{y:ByteArray}(h:x.toList=y.toList):x=y:=by rw[ByteArray.toList_eq,ByteArray.toList_eq]at h;cases x;cases y;simp only at h;rw[Array.toList_inj]at h;rw[h]
theorem oneOf_snoc(l:List ByteArray)(s:ByteArray)(k:Nat)(x:ByteArray)(hx:l[k]?=some x):oneOf (l.take (k+1)) s=(oneOf (l.take k) s||x.toList==s.toList):=by unfold oneOf;obtain⟨h,rfl⟩:=List.getElem?_eq_some_iff.1 hx;rw[List.take_succ_eq_append_getElem h,List.any_append];simp
theorem oneOf_yes{l:List ByteArray}{s:ByteArray}{k:Nat}(hx:l[k]?=some x)(h:(x.toList==s.toList)=true):oneOf l s=true:=by unfold oneOf;rw[List.any_eq_true];exact⟨x,List.mem_of_getElem? hx,h⟩
theorem place_any(A:Option Addr)(l:List ByteArray)(B cap:Nat)(s:ByteArray)(w:World)(hm:l.length≤maxLen)(hR:Rd1 .string w B A l) :
  Cs 8 #[.slice A l.length cap,.string s] w (IdxPost (oneOf l s) w):=by
 unfold maxLen at hm;go_enter Tryz.func8,Tryz.ntmps8
 go_wp2
 go_loop [5] (fun i=>∃k:Nat,k≤l.length∧i=iv k∧oneOf (l.take k) s=false) (fun i=>l.length-(intOf i).toNat)
 case atStart=>exact⟨0,Nat.zero_le _,rfl,by simp[oneOf]⟩
 case round =>
  obtain⟨k,hk,rfl,hn⟩:=hrel;have HN:=Lq hn;clear hn;by_cases hlt:k<l.length
  ·obtain⟨x,hx⟩:=gX (l:=l) (i:=k) hlt;obtain⟨b,off,rfl,_,hck⟩:=hR k x hx;have HX:=Lq hx;clear hx;cases hp:(x.toList==s.toList)
   ·have HP:=Lq hp;go_wp2
    go_round
    case rel=>exact⟨k+1,by omega,by go_num,by rw[oneOf_snoc _ _ _ _ HX.out,HN.out,HP.out];rfl⟩
    case measure=>simp[intOf];omega
   ·have HP:=Lq hp;go_wp2
    go_ret
    exact⟨k,rfl,by rw[oneOf_yes HX.out HP.out];simp,rfl⟩
  ·go_wp2
   go_ret
   refine⟨-1,rfl, ?_,rfl⟩;have hn:=HN.out;rw[List.take_of_length_le (by omega)]at hn
   rw[hn];rfl
def freshE(l:List ByteArray)(s:ByteArray):Int:=if nameB s then(if oneOf l s then 5 else 0)else 6
theorem fresh_any(A:Option Addr)(l:List ByteArray)(B cap:Nat)(s:ByteArray)(w:World)(hs:s.size≤maxLen)(hm:l.length≤maxLen)(hR:Rd1 .string w B A l)(hB:B≤w.heap.size) :
  Cs 48 #[.string s,.slice A l.length cap] w (Rt w (iv (freshE l s))):=by
 cases hn:nameB s
 ·have hf:freshE l s=6:=by simp[freshE,hn]
  have HF:=Lq hf;clear hf;go_enter Tryz.func48,Tryz.ntmps48
  go_wp2_with (go_at_call 60;refine(refName_any _ _ hs).mono ?_;rintro e w1 ⟨rfl,hb⟩)
  go_ret
  exact⟨by rw[HF.out];rfl,hb⟩
 ·cases ho:oneOf l s
  ·have hf:freshE l s=0:=by simp[freshE,hn,ho]
   have HF:=Lq hf;clear hf;go_enter Tryz.func48,Tryz.ntmps48
   go_wp2_with (first | (go_at_call 60;refine(refName_any _ _ hs).mono ?_;rintro e w1 ⟨rfl,hb⟩;have hR1:=hR.below hb hB) | (go_at_call 8;refine(place_any _ _ _ _ _ _ hm (by assumption)).mono ?_;rintro e w' ⟨r,rfl,hr,rfl⟩))
   go_ret
   exact⟨by rw[HF.out];rfl,hb⟩
  ·have hf:freshE l s=5:=by simp[freshE,hn,ho]
   have HF:=Lq hf;clear hf;go_enter Tryz.func48,Tryz.ntmps48
   go_wp2_with (first | (go_at_call 60;refine(refName_any _ _ hs).mono ?_;rintro e w1 ⟨rfl,hb⟩;have hR1:=hR.below hb hB) | (go_at_call 8;refine(place_any _ _ _ _ _ _ hm (by assumption)).mono ?_;rintro e w' ⟨r,rfl,hr,rfl⟩))
   go_ret
   exact⟨by rw[HF.out];rfl,hb⟩
end
section
variable{b o:Nat}{v:Value}{W w w1:World}
theorem lt_of_cell(h:w.cell? ⟨b,o,none⟩=some v):b<w.heap.size:=by
 rcases Nat.lt_or_ge b w.heap.size with hlt | hge
 ·exact hlt
 ·simp[World.cell?,Array.getElem?_eq_none hge]at h
theorem kC(hb:BW W w1)(h:W.cell? ⟨b,o,none⟩=some v):w1.cell? ⟨b,o,none⟩=some v :=
 (hb.cell (p:=⟨b,o,none⟩) (lt_of_cell h)).trans h
theorem keepF(hb:BW W w1)(h:W.cell? ⟨b,o,none⟩=some v):w1.frozen? ⟨b,o,none⟩=W.frozen? ⟨b,o,none⟩ :=
 hb.frozen (p:=⟨b,o,none⟩) (lt_of_cell h)
theorem keepA(h:w.cell? ⟨b,o,none⟩=some v)(ob:Obj):(w.alloc ob).cell? ⟨b,o,none⟩=some v :=
 (World.cell?_alloc_lt w ob ⟨b,o,none⟩ (lt_of_cell h)).trans h
end
section
variable{base n size:Nat}{v:Value}{w:World}
abbrev nv(n:Nat):Value:=iv (n:Int)
theorem own_form{e:TypeId}{xs:List Value}(h:w.ownsRow base e size v n xs)(hn:0<n) :
  ∃g cap,v=.slice (some ⟨g,0,none⟩) n cap∧base≤g∧g<w.heap.size∧n≤cap:=by
 obtain⟨_,h2⟩:=h;rcases h2 with⟨_,h0⟩ | ⟨g,cap,cur,hv,hb,hh,hc,_⟩
 ·omega
 ·refine⟨g,cap,hv,hb, ?_,hc⟩;rcases Nat.lt_or_ge g w.heap.size with hlt | hge
  ·exact hlt
  ·rw[Array.getElem?_eq_none hge]at hh;cases hh
theorem own_rd1{α:Type}{enc:α→Value}{e:TypeId}{xs:List α}(h:w.ownsRow base e 1 v xs.length (xs.map enc)) :
  ∃A cap,v=.slice A xs.length cap∧Rd1 enc w w.heap.size A xs∧(∀b off,A=some ⟨b,off,none⟩→base≤b∧off=0):=by
 have h':=h;obtain⟨_,h2⟩:=h;rcases h2 with⟨rfl,h0⟩ | ⟨g,cap,cur,hv,hb,hh,hc,_⟩
 ·exact⟨none,0,by rw[h0],by have:xs=[]:=List.length_eq_zero_iff.1 h0;subst this;exact Rd1.nil,by intro b off h;cases h⟩
 ·refine⟨some ⟨g,0,none⟩,cap,hv, ?_,by intro b off h;injection h with h;injection h with h1 h2;subst h1 h2;exact⟨hb,rfl⟩⟩
  intro i x hx;have hlt:g<w.heap.size:=by
   rcases Nat.lt_or_ge g w.heap.size with hlt | hge
   ·exact hlt
   ·rw[Array.getElem?_eq_none hge]at hh;cases hh
  subst hv;refine⟨g,0,rfl,hlt, ?_⟩;have hi:i<xs.length:=(lG hx);rw[Nat.zero_add,h'.cellAt i (by omega),List.getElem?_map,hx]
  rfl
theorem grownB{a w':World}{e:TypeId}{xs:List Value}(h:w.ownsRow base e size v n xs)(hg:w.grownBy w' v.ownBlock)(ha:a.heap.size≤base)(hb:BW a w):BW a w' :=
 hb.grown hg hb.size (fun k hk=>by have:=(h.lt k hk).1;omega)
theorem one_new(w:World)(v:Value)(t:TypeId):∀j u,[v][j]?=some u→(w.alloc (.cells #[v] t)).cell? ((⟨w.heap.size,0,none⟩:Addr).add j)=some u:=cell_one_new w v t
end
section
variable{k:Nat}
theorem flat_len{α:Type}{encs:α→List Value}(he:∀x,(encs x).length=k):∀xs:List α,(xs.flatMap encs).length=xs.length*k:=by
 intro xs;induction xs with
 | nil=>simp
 | cons x xs ih=>simp[List.flatMap_cons,he,ih,Nat.succ_mul];omega
theorem flat_get{α:Type}{encs:α→List Value}(he:∀x,(encs x).length=k):∀(xs:List α) (i:Nat) (x:α),xs[i]?=some x→∀j v,(encs x)[j]?=some v→(xs.flatMap encs)[i*k+j]?=some v:=by
 intro xs;induction xs with
 | nil=>intro i x h;simp at h
 | cons y xs ih =>
  intro i x h j v hv;have hj:j<k:=by rw[←he x];exact(lG hv)
  cases i with
  | zero =>
   simp only[List.getElem?_cons_zero,Option.some.injEq]at h;subst h;rw[List.flatMap_cons,Nat.zero_mul,Nat.zero_add,List.getElem?_append_left (by rw[he];exact hj)]
   exact hv
  | succ i =>
   simp only[List.getElem?_cons_succ]at h;rw[List.flatMap_cons,List.getElem?_append_right (by rw[he,Nat.succ_mul];omega),he]
   have e:(i+1)*k+j-k=i*k+j:=by rw[Nat.succ_mul];omega
   rw[e];exact ih i x h j v hv
theorem own_rdN{α:Type}{encs:α→List Value}(he:∀x,(encs x).length=k){w:World}{base:Nat}{e:TypeId}{v:Value}{xs:List α}(h:w.ownsRow base e k v xs.length (xs.flatMap encs)) :
  ∃A cap,v=.slice A xs.length cap∧RdN k encs w w.heap.size A xs∧(∀b off,A=some ⟨b,off,none⟩→base≤b∧off=0)∧xs.length≤cap∧cap≤maxLen:=by
 have h':=h;obtain⟨_,h2⟩:=h;rcases h2 with⟨rfl,h0⟩ | ⟨g,cap,cur,hv,hb,hh,hc,hcm,_⟩
 ·have:xs=[]:=List.length_eq_zero_iff.1 h0;subst this;exact⟨none,0,rfl,RdN.nil,(by intro b off h;cases h),lr _,Nat.zero_le _⟩
 ·refine⟨some ⟨g,0,none⟩,cap,hv, ?_,by intro b off h;injection h with h;injection h with h1 h2;subst h1 h2;exact⟨hb,rfl⟩,hc,hcm⟩
  intro i x hx;have hlt:g<w.heap.size:=by
   rcases Nat.lt_or_ge g w.heap.size with hlt | hge
   ·exact hlt
   ·rw[Array.getElem?_eq_none hge]at hh;cases hh
  subst hv;refine⟨g,0,rfl,hlt, ?_⟩;intro j u hu;have hf:=flat_get he xs i x hx j u hu;have hlt2:i*k+j<(xs.flatMap encs).length:=(lG hf);rw[flat_len he]at hlt2;rw[Nat.zero_add,h'.cellAt (i*k+j) hlt2];exact hf
theorem cells_new(w:World)(l:List Value)(t:TypeId):∀j u,l[j]?=some u→(w.alloc (.cells l.toArray t)).cell? ((⟨w.heap.size,0,none⟩:Addr).add j)=some u:=by
 intro j u h;have hh:(w.alloc (.cells l.toArray t)).heap[w.heap.size]?=some (.cells l.toArray t):=by rw[←World.alloc_eq];simp
 have hc:∀o,(w.alloc (.cells l.toArray t)).cell? ⟨w.heap.size,o,none⟩=l[o]?:=fun o=>by simp only[World.cell?,hh];simp
 rcases Nat.eq_zero_or_pos j with rfl | hj
 ·rw[show(⟨w.heap.size,0,none⟩:Addr).add 0=⟨w.heap.size,0,none⟩from rfl,hc];exact h
 ·rw[show(⟨w.heap.size,0,none⟩:Addr).add j=⟨w.heap.size,j,none⟩from by unfold Addr.add;rw[if_neg (by omega)];simp,hc];exact h
theorem cells3_new(w:World)(a b c:Value)(t:TypeId):∀j u,[a,b,c][j]?=some u→(w.alloc (.cells #[a,b,c] t)).cell? ((⟨w.heap.size,0,none⟩:Addr).add j)=some u:=cells_new w [a,b,c] t
end
section
variable{B b base k n o:Nat}{A:Option Addr}{v:Value}{w:World}
structure OnlyAt(W wx:World)(g:Nat):Prop where
 os:wx.os=W.os
 tape:wx.tape=W.tape
 output:wx.output=W.output
 size:W.heap.size≤wx.heap.size
 block:∀k,k<W.heap.size→k≠g→wx.heap[k]?=W.heap[k]?
section
variable {a W wx:World} {g:Nat}
theorem OnlyAt.of_below(h:BW W wx)(g:Nat):OnlyAt W wx g:=⟨h.os,h.tape,h.output,h.size,fun k hk _=>h.block k hk⟩
theorem OnlyAt.of_set(h:BW W wx)(g k:Nat)(u:Value):OnlyAt W (wx.setCell ⟨g,k,none⟩ u) g :=
 ⟨h.os,h.tape,h.output,by simp only[World.size_setCell];exact h.size,fun i hi hne=>(Below.heap_setCell wx ⟨g,k,none⟩ u i hne).trans (h.block i hi)⟩
theorem OnlyAt.drew(h:OnlyAt W wx g):OnlyAt W wx.drew g:=⟨h.os,h.tape,h.output,h.size,h.block⟩
theorem OnlyAt.set(h:OnlyAt W wx g)(k:Nat)(u:Value):OnlyAt W (wx.setCell ⟨g,k,none⟩ u) g :=
 ⟨h.os,h.tape,h.output,by simp only[World.size_setCell];exact h.size,fun i hi hne=>(Below.heap_setCell wx ⟨g,k,none⟩ u i hne).trans (h.block i hi hne)⟩
theorem OnlyAt.cell(h:OnlyAt W wx g)(hc:W.cell? ⟨b,o,none⟩=some v)(hne:b≠g):wx.cell? ⟨b,o,none⟩=some v :=
 (World.cell?_of_block (w:=W) (a:=⟨b,o,none⟩) (h.block b (lt_of_cell hc) hne)).trans hc
theorem OnlyAt.frozen(h:OnlyAt W wx g)(o:Nat)(hlt:b<W.heap.size)(hne:b≠g):wx.frozen? ⟨b,o,none⟩=W.frozen? ⟨b,o,none⟩ :=
 World.frozen?_of_block (w:=W) (a:=⟨b,o,none⟩) (h.block b hlt hne)
theorem OnlyAt.below(h:OnlyAt W wx g)(hb:BW a W)(hg:a.heap.size≤g):BW a wx :=
 ⟨h.os.trans hb.os,h.tape.trans hb.tape,h.output.trans hb.output,lT hb.size h.size,fun k hk=>(h.block k (lz hk hb.size) (by omega)).trans (hb.block k hk)⟩
theorem OnlyAt.rd1{α:Type}{enc:α→Value}{xs:List α}(h:OnlyAt W wx g)(hR:Rd1 enc W B A xs)(hg:B≤g):Rd1 enc wx B A xs:=by intro i x hx;obtain⟨b,off,e,hb,hc⟩:=hR i x hx;exact⟨b,off,e,hb,h.cell hc (by omega)⟩
theorem OnlyAt.rdN{α:Type}{enc:α→List Value}{xs:List α}(h:OnlyAt W wx g)(hR:RdN k enc W B A xs)(hg:B≤g):RdN k enc wx B A xs:=by intro i x hx;obtain⟨b,off,e,hb,hc⟩:=hR i x hx;exact⟨b,off,e,hb,fun j u hu=>h.cell (hc j u hu) (by omega)⟩
theorem OnlyAt.own{e:TypeId}{size:Nat}{xs:List Value}(h:OnlyAt W wx g)(ho:W.ownsRow base e size v n xs)(hg:v.ownBlock≠some g):wx.ownsRow base e size v n xs:=by
 obtain⟨h1,h2⟩:=ho;refine⟨h1,h2.imp id ?_⟩;rintro⟨g',cap,cur,hv,hb,hh,r⟩;subst hv;have hlt:g'<W.heap.size:=by
  rcases Nat.lt_or_ge g' W.heap.size with hlt | hge
  ·exact hlt
  ·rw[Array.getElem?_eq_none hge]at hh;cases hh
 exact⟨g',cap,cur,rfl,hb,(h.block g' hlt (fun e=>hg (by rw[e];rfl))).trans hh,r⟩
end
theorem belowDq{a:World}(h:Below B a w):Below B a w.drew:=⟨h.os,h.tape,h.output,h.size,h.block⟩
theorem keepSet{g:Nat}{u:Value}(h:w.cell? ⟨b,o,none⟩=some v)(hne:b≠g):(w.setCell ⟨g,k,none⟩ u).cell? ⟨b,o,none⟩=some v :=
 (World.cell?_of_block (w:=w) (a:=⟨b,o,none⟩) (Below.heap_setCell w ⟨g,k,none⟩ u b hne)).trans h
theorem own_rdP{α:Type}{enc:α→Value}{e:TypeId}{cap:Nat}{xs:List α}(h:w.ownsRow base e 1 (.slice A n cap) n (xs.map enc))(hn:xs.length=n):Rd1 enc w w.heap.size A xs:=by
 subst hn;obtain⟨A',cap',e1,h2,_⟩:=own_rd1 h;injection e1 with e1 _ _
 subst e1;exact h2
/-! A copy with one element more: the empty literal,and the element's own block,in either order. -/
theorem add_bk(b:Nat)(j:Nat):((⟨b,0,none⟩:Addr).add j)=⟨b,j,none⟩:=by
 unfold Addr.add;rcases Nat.eq_zero_or_pos j with rfl | hj
 ·rfl
 ·rw[if_neg (by omega)];simp
theorem add_off(b o:Nat)(j:Nat):((⟨b,o,none⟩:Addr).add j)=⟨b,o+j,none⟩:=by
 unfold Addr.add;rcases Nat.eq_zero_or_pos j with rfl | hj
 ·rfl
 ·rw[if_neg (by omega)]
end
def Srcs(w:World)(size:Nat)(src:Value)(m:Nat)(news:List Value):Prop :=
 (src=.slice none 0 0∧m=0∧news=[])∨∃(ad:Addr) (c:Nat),src=.slice (some ad) m c∧news.length=m*size∧(∀j u,news[j]?=some u→w.cell? (ad.add j)=some u)∧∀u∈news,u.oneCell'=true
theorem grownBy_refl(w:World)(r:Option Nat):w.grownBy w r:=⟨rfl,rfl,rfl,lr _,fun _ _ _=>rfl⟩
theorem step_append_any{P:Program}{w:World}{ops:Array Oper}{o:Oper}{a:Act}{K:Act→World→Prop}{Q:Exit→Act→World→Prop}{E:Prop}(hgd:o.guard=none)(s x:Operand)(t:TypeId)(ho:o.op=.call { callee:=.builtin .append,args:=#[s,x],argTypes:=#[t,t] })(base:Nat)(e:TypeId)(i:TypeInfo)(z:Value)(size bytes:Nat)(ht:P.underlying t=some (.slice e))(hi:P.info? e=some i)(hz:i.zero=some z)(hsize:i.size=size)(hby:i.bytes=bytes)(hzs:z.cells.size=size)(hsz:0<size)(v:Value)(n:Nat)(xs:List Value)(hs:a.eval s=v)(hown:w.ownsRow base e size v n xs)(src:Value)(m:Nat)(news:List Value)(hx:a.eval x=src)(hsrc:Srcs w size src m news)(h63:n+m≤maxLen)(hbytes:(n+m)*bytes≤140737488355328)(hbase:base≤w.heap.size)(h:∀v' w',w'.ownsRow base e size v' (n+m) (xs++news)→w.grownBy w' v.ownBlock→K (a.put o.dst v') w') :
  if Region.wanted o (yielded ops a.tmps)=true then Oper.wp P o a w K Q else E:=by
 have hw:Region.wanted o (yielded ops a.tmps)=true:=by simp[Region.wanted,hgd]
 rw[if_pos hw];rcases hsrc with⟨rfl,rfl,rfl⟩ | ⟨ad,c,rfl,hl,hnews,h1⟩
 ·have hr:=run_append_owned_none (P:=P) w base t o.type e i size ht hi v n xs hown;unfold Oper.wp execOp;simp only[ho,resolve,invoke,builtin,Sem.run_bind,Sem.run_pure,Result.andThen_ok,List.map_toArray,List.map_cons,List.map_nil,hs,hx,hr];exact h v w (by simpa using hown) (grownBy_refl _ _)
 ·obtain⟨v',w',hr,h2,h3,_,_⟩:=run_append_own_at (P:=P) w base t o.type e i z size bytes ht hi hz hsize hby hzs hsz v n xs hown ad m c news hl hnews h1 h63 hbytes hbase;unfold Oper.wp execOp;simp only[ho,resolve,invoke,builtin,Sem.run_bind,Sem.run_pure,Result.andThen_ok,List.map_toArray,List.map_cons,List.map_nil,hs,hx,hr];exact h v' w' h2 h3
end Go.Proofs.YtigcophcpboanaaGreatDoor
namespace Go.Proofs.YtigcophcpboanaaGreatDoor
open Go.RowKit Go.Shelf
def Blk(w:World)(g:Nat)(t:TypeId)(cs:Array Value):Prop:=w.heap[g]?=some (.cells cs t (0,0))
section
variable {w w':World} {g:Nat} {t:TypeId} {cs:Array Value}
theorem Blk.lt(h:Blk w g t cs):g<w.heap.size:=by
 rcases Nat.lt_or_ge g w.heap.size with hlt | hge
 ·exact hlt
 ·unfold Blk at h;rw[Array.getElem?_eq_none hge]at h;cases h
theorem Blk.cell(h:Blk w g t cs)(i:Nat):w.cell? ⟨g,i,none⟩=cs[i]?:=by unfold Blk at h;simp[World.cell?,h]
theorem Blk.frozen(h:Blk w g t cs)(i:Nat):w.frozen? ⟨g,i,none⟩=false:=by unfold Blk at h;simp[World.frozen?,h]
theorem Blk.new(w:World)(t:TypeId)(cs:Array Value):Blk (w.alloc (.cells cs t)) w.heap.size t cs:=by unfold Blk;exact World.alloc_heap_new w _
theorem Blk.alloc(h:Blk w g t cs)(o:Obj):Blk (w.alloc o) g t cs:=(Below.heap_alloc w o g h.lt).trans h
theorem Blk.set_(h:Blk w g t cs)(i:Nat)(u:Value):Blk (w.setCell ⟨g,i,none⟩ u) g t (cs.setIfInBounds i u):=by unfold Blk at h ⊢;simp[World.setCell,Array.getElem?_modify,h]
theorem Blk.far(h:Blk w g t cs){p:Addr}(hp:g≠p.block)(u:Value):Blk (w.setCell p u) g t cs:=(Below.heap_setCell w p u g hp).trans h
theorem Blk.same(h:Blk w g t cs)(hs:w'.heap[g]?=w.heap[g]?):Blk w' g t cs:=hs.trans h
theorem Blk.grown{row:Option Nat}(h:Blk w g t cs)(hb:w.grownBy w' row)(hg:some g≠row):Blk w' g t cs:=(hb.block g h.lt hg).trans h
theorem own_ne{base:Nat}{e:TypeId}{size:Nat}{v:Value}{n:Nat}{xs:List Value}(h:w.ownsRow base e size v n xs)(hb:Blk w g t cs)(ht:t≠e):some g≠v.ownBlock:=by
 intro e2;rcases h.2 with⟨rfl,_⟩ | ⟨g',cap,cur,rfl,_,hg,_⟩
 ·cases e2
 ·simp only[Value.ownBlock,Option.some.injEq]at e2;subst e2;unfold Blk at hb;rw[hb]at hg;injection hg with hg
  injection hg with _ h2 _
  exact ht h2
end
theorem hdd(k:Nat):(Fence.wide.depth.isSome=true→1≤k):=fun h=>by cases h
theorem below_putObj{B:Nat}(X:World){k:Nat}(hk:B≤k)(o:Obj):Below B X (X.putObj k o) :=
 ⟨rfl,rfl,rfl,by simp[World.putObj],fun i hi=>World.putObj_heap_other (by omega)⟩
theorem Blk.c{w:World}{g:Nat}{t:TypeId}{cs:Array Value}(h:Blk w g t cs)(i:Nat){v:Value}(hv:cs[i]?=some v:=by(simp only[List.getElem?_toArray,List.getElem?_cons_zero,List.getElem?_cons_succ])<;>rfl):w.cell? ⟨g,i,none⟩=some v:=(h.cell i).trans hv
theorem Blk.c2{w:World}{g:Nat}{t:TypeId}{a0 a1:Value}{l:List Value}(h:Blk w g t (a0::a1::l).toArray):w.cell? ⟨g,0,none⟩=some a0∧w.cell? ⟨g,1,none⟩=some a1:=⟨h.cell 0,h.cell 1⟩
theorem Blk.f2{w:World}{g:Nat}{t:TypeId}{cs:Array Value}(h:Blk w g t cs):w.frozen? ⟨g,0,none⟩=false∧w.frozen? ⟨g,1,none⟩=false:=⟨h.frozen 0,h.frozen 1⟩
theorem Blk.c3{w:World}{g:Nat}{t:TypeId}{a0 a1 a2:Value}{l:List Value}(h:Blk w g t (a0::a1::a2::l).toArray):w.cell? ⟨g,0,none⟩=some a0∧w.cell? ⟨g,1,none⟩=some a1∧w.cell? ⟨g,2,none⟩=some a2:=⟨h.cell 0,h.cell 1,h.cell 2⟩
theorem Blk.f3{w:World}{g:Nat}{t:TypeId}{cs:Array Value}(h:Blk w g t cs):w.frozen? ⟨g,0,none⟩=false∧w.frozen? ⟨g,1,none⟩=false∧w.frozen? ⟨g,2,none⟩=false:=⟨h.frozen 0,h.frozen 1,h.frozen 2⟩
theorem Blk.c4{w:World}{g:Nat}{t:TypeId}{a0 a1 a2 a3:Value}{l:List Value}(h:Blk w g t (a0::a1::a2::a3::l).toArray):w.cell? ⟨g,0,none⟩=some a0∧w.cell? ⟨g,1,none⟩=some a1∧w.cell? ⟨g,2,none⟩=some a2∧w.cell? ⟨g,3,none⟩=some a3:=⟨h.cell 0,h.cell 1,h.cell 2,h.cell 3⟩
theorem Blk.f4{w:World}{g:Nat}{t:TypeId}{cs:Array Value}(h:Blk w g t cs):w.frozen? ⟨g,0,none⟩=false∧w.frozen? ⟨g,1,none⟩=false∧w.frozen? ⟨g,2,none⟩=false∧w.frozen? ⟨g,3,none⟩=false:=⟨h.frozen 0,h.frozen 1,h.frozen 2,h.frozen 3⟩
theorem Blk.c5{w:World}{g:Nat}{t:TypeId}{a0 a1 a2 a3 a4:Value}{l:List Value}(h:Blk w g t (a0::a1::a2::a3::a4::l).toArray):w.cell? ⟨g,0,none⟩=some a0∧w.cell? ⟨g,1,none⟩=some a1∧w.cell? ⟨g,2,none⟩=some a2∧w.cell? ⟨g,3,none⟩=some a3∧w.cell? ⟨g,4,none⟩=some a4:=⟨h.cell 0,h.cell 1,h.cell 2,h.cell 3,h.cell 4⟩
theorem Blk.f5{w:World}{g:Nat}{t:TypeId}{cs:Array Value}(h:Blk w g t cs):w.frozen? ⟨g,0,none⟩=false∧w.frozen? ⟨g,1,none⟩=false∧w.frozen? ⟨g,2,none⟩=false∧w.frozen? ⟨g,3,none⟩=false∧w.frozen? ⟨g,4,none⟩=false:=⟨h.frozen 0,h.frozen 1,h.frozen 2,h.frozen 3,h.frozen 4⟩
theorem Blk.c6{w:World}{g:Nat}{t:TypeId}{a0 a1 a2 a3 a4 a5:Value}{l:List Value}(h:Blk w g t (a0::a1::a2::a3::a4::a5::l).toArray):w.cell? ⟨g,0,none⟩=some a0∧w.cell? ⟨g,1,none⟩=some a1∧w.cell? ⟨g,2,none⟩=some a2∧w.cell? ⟨g,3,none⟩=some a3∧w.cell? ⟨g,4,none⟩=some a4∧w.cell? ⟨g,5,none⟩=some a5:=⟨h.cell 0,h.cell 1,h.cell 2,h.cell 3,h.cell 4,h.cell 5⟩
theorem Blk.f6{w:World}{g:Nat}{t:TypeId}{cs:Array Value}(h:Blk w g t cs):w.frozen? ⟨g,0,none⟩=false∧w.frozen? ⟨g,1,none⟩=false∧w.frozen? ⟨g,2,none⟩=false∧w.frozen? ⟨g,3,none⟩=false∧w.frozen? ⟨g,4,none⟩=false∧w.frozen? ⟨g,5,none⟩=false:=⟨h.frozen 0,h.frozen 1,h.frozen 2,h.frozen 3,h.frozen 4,h.frozen 5⟩
theorem Blk.c7{w:World}{g:Nat}{t:TypeId}{a0 a1 a2 a3 a4 a5 a6:Value}{l:List Value}(h:Blk w g t (a0::a1::a2::a3::a4::a5::a6::l).toArray):w.cell? ⟨g,0,none⟩=some a0∧w.cell? ⟨g,1,none⟩=some a1∧w.cell? ⟨g,2,none⟩=some a2∧w.cell? ⟨g,3,none⟩=some a3∧w.cell? ⟨g,4,none⟩=some a4∧w.cell? ⟨g,5,none⟩=some a5∧w.cell? ⟨g,6,none⟩=some a6:=⟨h.cell 0,h.cell 1,h.cell 2,h.cell 3,h.cell 4,h.cell 5,h.cell 6⟩
theorem Blk.f7{w:World}{g:Nat}{t:TypeId}{cs:Array Value}(h:Blk w g t cs):w.frozen? ⟨g,0,none⟩=false∧w.frozen? ⟨g,1,none⟩=false∧w.frozen? ⟨g,2,none⟩=false∧w.frozen? ⟨g,3,none⟩=false∧w.frozen? ⟨g,4,none⟩=false∧w.frozen? ⟨g,5,none⟩=false∧w.frozen? ⟨g,6,none⟩=false:=⟨h.frozen 0,h.frozen 1,h.frozen 2,h.frozen 3,h.frozen 4,h.frozen 5,h.frozen 6⟩
theorem Blk.c8{w:World}{g:Nat}{t:TypeId}{a0 a1 a2 a3 a4 a5 a6 a7:Value}{l:List Value}(h:Blk w g t (a0::a1::a2::a3::a4::a5::a6::a7::l).toArray):w.cell? ⟨g,0,none⟩=some a0∧w.cell? ⟨g,1,none⟩=some a1∧w.cell? ⟨g,2,none⟩=some a2∧w.cell? ⟨g,3,none⟩=some a3∧w.cell? ⟨g,4,none⟩=some a4∧w.cell? ⟨g,5,none⟩=some a5∧w.cell? ⟨g,6,none⟩=some a6∧w.cell? ⟨g,7,none⟩=some a7:=⟨h.cell 0,h.cell 1,h.cell 2,h.cell 3,h.cell 4,h.cell 5,h.cell 6,h.cell 7⟩
theorem Blk.f8{w:World}{g:Nat}{t:TypeId}{cs:Array Value}(h:Blk w g t cs):w.frozen? ⟨g,0,none⟩=false∧w.frozen? ⟨g,1,none⟩=false∧w.frozen? ⟨g,2,none⟩=false∧w.frozen? ⟨g,3,none⟩=false∧w.frozen? ⟨g,4,none⟩=false∧w.frozen? ⟨g,5,none⟩=false∧w.frozen? ⟨g,6,none⟩=false∧w.frozen? ⟨g,7,none⟩=false:=⟨h.frozen 0,h.frozen 1,h.frozen 2,h.frozen 3,h.frozen 4,h.frozen 5,h.frozen 6,h.frozen 7⟩
theorem Blk.c9{w:World}{g:Nat}{t:TypeId}{a0 a1 a2 a3 a4 a5 a6 a7 a8:Value}{l:List Value}(h:Blk w g t (a0::a1::a2::a3::a4::a5::a6::a7::a8::l).toArray):w.cell? ⟨g,0,none⟩=some a0∧w.cell? ⟨g,1,none⟩=some a1∧w.cell? ⟨g,2,none⟩=some a2∧w.cell? ⟨g,3,none⟩=some a3∧w.cell? ⟨g,4,none⟩=some a4∧w.cell? ⟨g,5,none⟩=some a5∧w.cell? ⟨g,6,none⟩=some a6∧w.cell? ⟨g,7,none⟩=some a7∧w.cell? ⟨g,8,none⟩=some a8:=⟨h.cell 0,h.cell 1,h.cell 2,h.cell 3,h.cell 4,h.cell 5,h.cell 6,h.cell 7,h.cell 8⟩
theorem Blk.f9{w:World}{g:Nat}{t:TypeId}{cs:Array Value}(h:Blk w g t cs):w.frozen? ⟨g,0,none⟩=false∧w.frozen? ⟨g,1,none⟩=false∧w.frozen? ⟨g,2,none⟩=false∧w.frozen? ⟨g,3,none⟩=false∧w.frozen? ⟨g,4,none⟩=false∧w.frozen? ⟨g,5,none⟩=false∧w.frozen? ⟨g,6,none⟩=false∧w.frozen? ⟨g,7,none⟩=false∧w.frozen? ⟨g,8,none⟩=false:=⟨h.frozen 0,h.frozen 1,h.frozen 2,h.frozen 3,h.frozen 4,h.frozen 5,h.frozen 6,h.frozen 7,h.frozen 8⟩
theorem Blk.c10{w:World}{g:Nat}{t:TypeId}{a0 a1 a2 a3 a4 a5 a6 a7 a8 a9:Value}{l:List Value}(h:Blk w g t (a0::a1::a2::a3::a4::a5::a6::a7::a8::a9::l).toArray):w.cell? ⟨g,0,none⟩=some a0∧w.cell? ⟨g,1,none⟩=some a1∧w.cell? ⟨g,2,none⟩=some a2∧w.cell? ⟨g,3,none⟩=some a3∧w.cell? ⟨g,4,none⟩=some a4∧w.cell? ⟨g,5,none⟩=some a5∧w.cell? ⟨g,6,none⟩=some a6∧w.cell? ⟨g,7,none⟩=some a7∧w.cell? ⟨g,8,none⟩=some a8∧w.cell? ⟨g,9,none⟩=some a9:=⟨h.cell 0,h.cell 1,h.cell 2,h.cell 3,h.cell 4,h.cell 5,h.cell 6,h.cell 7,h.cell 8,h.cell 9⟩
theorem Blk.f10{w:World}{g:Nat}{t:TypeId}{cs:Array Value}(h:Blk w g t cs):w.frozen? ⟨g,0,none⟩=false∧w.frozen? ⟨g,1,none⟩=false∧w.frozen? ⟨g,2,none⟩=false∧w.frozen? ⟨g,3,none⟩=false∧w.frozen? ⟨g,4,none⟩=false∧w.frozen? ⟨g,5,none⟩=false∧w.frozen? ⟨g,6,none⟩=false∧w.frozen? ⟨g,7,none⟩=false∧w.frozen? ⟨g,8,none⟩=false∧w.frozen? ⟨g,9,none⟩=false:=⟨h.frozen 0,h.frozen 1,h.frozen 2,h.frozen 3,h.frozen 4,h.frozen 5,h.frozen 6,h.frozen 7,h.frozen 8,h.frozen 9⟩
end Go.Proofs.YtigcophcpboanaaGreatDoor
