/- block.fresh: the error of the name of the last one of some parts. slices.Contains over .. -/
import Derived.Deep.DrawnRows
import Derived.Laws.EntriesVeiled
import Derived.Laws.BitsLemmas
import Derived.Laws.BitsAllLaws
import Derived.Laws.Shifts
import Derived.Laws.ShiftsVarLaws
import Derived.Test.YtigcophcpboanaaGreatDoorM1
set_option maxRecDepth 1000000
set_option maxHeartbeats 0
namespace Go.Proofs.YtigcophcpboanaaGreatDoor
open Go.RowKit
section
variable{w:World}
def taken(l:List Prt)(s:ByteArray):Bool:=l.any fun c=>c.name.toList==s.toList
theorem taken_snoc(l:List Prt)(s:ByteArray)(k:Nat)(x:Prt)(hx:l[k]?=some x):taken (l.take (k+1)) s=(taken (l.take k) s||x.name.toList==s.toList):=by unfold taken;obtain⟨h,rfl⟩:=List.getElem?_eq_some_iff.1 hx;rw[List.take_succ_eq_append_getElem h,List.any_append];simp
theorem taken_yes{l:List Prt}{s:ByteArray}{k:Nat}{x:Prt}(hx:l[k]?=some x)(h:(x.name.toList==s.toList)=true):taken l s=true:=by unfold taken;rw[List.any_eq_true];exact⟨x,List.mem_of_getElem? hx,h⟩
theorem nameOf_any(name:ByteArray)(lo hi:Int)(w:World) :
  Cs 151 #[.agg #[.string name,iv lo,iv hi]] w (Rt w (.string name)):=by
 go_enter Tryz.func151,Tryz.ntmps151
 go_wp2
 go_ret
 exact⟨rfl,bA (bR _) _⟩
theorem undrew0B{w':World}(h:BW w.drew w'):BW w w':=⟨h.os,h.tape,h.output,h.size,h.block⟩
theorem belowDrB{B:Nat}{a:World}(h:Below B a w):Below B a w.drew:=⟨h.os,h.tape,h.output,h.size,h.block⟩
abbrev fv(n:Nat):Value:=.func (.func n) #[] #[]
theorem same_any(name s:ByteArray)(lo hi:Int)(gf gs:Nat)(w:World)(hf:w.cell? ⟨gf,0,none⟩=some (fv 151))(hs:w.cell? ⟨gs,0,none⟩=some (.string s)) :
  Cs 195 #[.agg #[.string name,iv lo,iv hi],pT gf 0,pT gs 0] w (Rt w (.bool (name.toList==s.toList))):=by
 obtain⟨W1,hW1⟩:=ex (w.alloc (.cells #[.string name,iv lo,iv hi] 45));have hb0:BW w W1:=by rw[←hW1];exact bA (bR _) _
 have c0:W1.cell? ⟨w.heap.size,0,none⟩=some (.string name):=by rw[←hW1];clear hW1;go_simp
 have c1:W1.cell? ⟨w.heap.size,1,none⟩=some (iv lo):=by rw[←hW1];clear hW1;go_simp
 have c2:W1.cell? ⟨w.heap.size,2,none⟩=some (iv hi):=by rw[←hW1];clear hW1;go_simp
 have hf:=kC hb0 hf;have hs:=kC hb0 hs;have HC:Hid (∀W,BW W1 W→W.cell? ⟨gf,0,none⟩=some (fv 151)∧W.cell? ⟨gs,0,none⟩=some (.string s)∧W.cell? ⟨w.heap.size,0,none⟩=some (.string name)∧W.cell? ⟨w.heap.size,1,none⟩=some (iv lo)∧W.cell? ⟨w.heap.size,2,none⟩=some (iv hi)):=Lq fun W h=>⟨kC h hf,kC h hs,kC h c0,kC h c1,kC h c2⟩
 have HN:=Lq (nameOf_any name lo hi W1.drew);have HB0:=Lq hb0;clear hb0;go_enter Tryz.func195,Tryz.ntmps195
 go_wp2
 clear hW1;go_region_held3 (fun W=>W.cell? ⟨gf,0,none⟩=some (fv 151)∧W.cell? ⟨gs,0,none⟩=some (.string s)∧W.cell? ⟨w.heap.size,0,none⟩=some (.string name)∧W.cell? ⟨w.heap.size,1,none⟩=some (iv lo)∧W.cell? ⟨w.heap.size,2,none⟩=some (iv hi)) (first | exact HC.out _ (undrew0B hb1) | exact HC.out _ (bR _) | exact HC.out _ (belowN (bR _) 1)) (((go_at_call 151;refine HN.out.mono ?_;rintro e w1 ⟨rfl,hb1⟩)))
 go_wp2
 go_ret
 exact⟨rfl,bT HB0.out (undrew0B hb1)⟩
def IdxPostB(b:Bool)(w:World)(e:Ending)(w':World):Prop:=∃r:Int,e=.returned (iv r)∧decide (0≤r)=b∧BW w w'
theorem indexPrt_any(A:Option Addr)(xs:List Prt)(B cap gf gs:Nat)(s:ByteArray)(w:World)(hm:xs.length≤maxLen)(hR:RdN 3 encPrt w B A xs)(hB:B≤w.heap.size)(hf:w.cell? ⟨gf,0,none⟩=some (fv 151))(hs:w.cell? ⟨gs,0,none⟩=some (.string s)) :
  Cs 222 #[.slice A xs.length cap,.func (.func 195) #[] #[pT gf 0,pT gs 0]] w (IdxPostB (taken xs s) w):=by
 unfold maxLen at hm;go_enter Tryz.func222,Tryz.ntmps222
 go_wp2
 go_loopw [8] (fun i wr=>∃k:Nat,k≤xs.length∧i=iv k∧taken (xs.take k) s=false∧BW w wr) (fun i _=>xs.length-(intOf i).toNat)
 case atStart=>exact⟨0,Nat.zero_le _,rfl,by simp[taken],bR _⟩
 case round =>
  obtain⟨k,hk,rfl,hn,hbw⟩:=hrel;by_cases hlt:k<xs.length
  ·obtain⟨x,hx⟩:=gX (l:=xs) (i:=k) hlt;obtain⟨b,off,rfl,_,c0,c1,c2⟩:=prtAt (hR.below hbw hB) hx;have HSA:=Lq (fun lo hi name=>same_any name s lo hi gf gs wr (kC hbw hf) (kC hbw hs))
   obtain⟨name,lo,hi⟩:=x;simp only at c0 c1 c2;have Hx:=Lq hx;clear hx;by_cases hp:(name.toList==s.toList)=true
   ·go_wp2_with (go_at_call 195;refine(HSA.out lo hi name).mono ?_;rintro e w1 ⟨rfl,hb1⟩)
    go_ret
    exact⟨k,rfl,by rw[taken_yes Hx.out hp];simp,bT hbw hb1⟩
   ·have hp':(name.toList==s.toList)=false:=by simpa using hp
    go_wp2_with (go_at_call 195;refine(HSA.out lo hi name).mono ?_;rintro e w1 ⟨rfl,hb1⟩)
    go_roundw
    case rel=>exact⟨k+1,by omega,by go_num,by rw[taken_snoc _ _ _ _ Hx.out,hn,hp'];rfl,bT hbw hb1⟩
    case measure=>simp[intOf];omega
  ·go_wp2
   go_ret
   refine⟨-1,rfl, ?_,hbw⟩;rw[List.take_of_length_le (by omega)]at hn
   rw[hn];rfl
theorem containsPrt_any(A:Option Addr)(xs:List Prt)(B cap gf gs:Nat)(s:ByteArray)(w:World)(hm:xs.length≤maxLen)(hR:RdN 3 encPrt w B A xs)(hB:B≤w.heap.size)(hf:w.cell? ⟨gf,0,none⟩=some (fv 151))(hs:w.cell? ⟨gs,0,none⟩=some (.string s)) :
  Cs 194 #[.slice A xs.length cap,.func (.func 195) #[] #[pT gf 0,pT gs 0]] w (Rt w (.bool (taken xs s))):=by
 have HI:=Lq (indexPrt_any A xs B cap gf gs s w hm hR hB hf hs);go_enter Tryz.func194,Tryz.ntmps194
 go_wp2_with (go_at_call 222;refine HI.out.mono ?_;rintro e w' ⟨r,rfl,hr,hb⟩)
 go_ret
 exact⟨by rw[←hr];rfl,hb⟩
theorem taken_names(l:List Prt)(s:ByteArray):taken l s=oneOf (l.map Prt.name) s:=by unfold taken oneOf;rw[List.any_map];rfl
theorem reg55_2{Q:Exit→Act→World→Prop}{V:World}{b off n cap gf:Nat}{name:ByteArray}{lo hi:Int}{zB zC zE zG zH zI zJ zK zL zM zN zO zP zQ zR zS zT zU zV zW zX zY zZ:Value}(h0:(0:Int)≤(n:Int))(h1:(n:Int)<(n:Int)+1)(g0:V.cell? ⟨gf,0,none⟩=some (fv 151))(c0:V.cell? ⟨b,off+n*3,none⟩=some (.string name))(c1:V.cell? ⟨b,off+n*3+1,none⟩=some (iv lo))(c2:V.cell? ⟨b,off+n*3+2,none⟩=some (iv hi))(hQ:∀u10 u11 u12 u13 u14 u15 gs wx,V.heap.size≤gs→wx.cell? ⟨gs,0,none⟩=some (.string name)→BW V wx→Q .normal ⟨#[.slice (some ⟨b,off,none⟩) (n+1) cap,zB,zC,pT gf 0,zE,iv n,pT gs 0,zH,zI,zJ,u10,u11,u12,u13,u14,u15,zQ,zR,zS,zT,zU,zV,zW,zX,zY,zZ],[]⟩ wx) :
  (regionOf Tryz.f150 2).wp Tryz.prog Q ⟨#[.slice (some ⟨b,off,none⟩) (n+1) cap,zB,zC,pT gf 0,zE,iv n,zG,zH,zI,zJ,zK,zL,zM,zN,zO,zP,zQ,zR,zS,zT,zU,zV,zW,zX,zY,zZ],[]⟩ V:=by
 have HC:Hid (∀W,BW V W→W.cell? ⟨gf,0,none⟩=some (fv 151)∧W.cell? ⟨b,off+n*3,none⟩=some (.string name)∧W.cell? ⟨b,off+n*3+1,none⟩=some (iv lo)∧W.cell? ⟨b,off+n*3+2,none⟩=some (iv hi)):=Lq fun W h=>⟨kC h g0,kC h c0,kC h c1,kC h c2⟩
 have HN:Hid (∀W:World,Cs 151 #[.agg #[.string name,iv lo,iv hi]] W (Rt W (.string name))):=Lq (nameOf_any name lo hi);have HQ:=Lq hQ;have hl:=lt_of_cell g0;have hb:=lt_of_cell c0;have HE:Hid (BW V (V.alloc (.cells #[.string ⟨#[]⟩] 9)).drew):=Lq (belowDrB (bA (bR V) _));have hz:(V.alloc (.cells #[.string ⟨#[]⟩] 9)).drew.cell? ⟨V.heap.size,0,none⟩=some (.string ⟨#[]⟩):=by go_simp
 have hzf:(V.alloc (.cells #[.string ⟨#[]⟩] 9)).drew.frozen? ⟨V.heap.size,0,none⟩=false:=by go_simp
 have HZ:=Lq (And.intro hz hzf);clear hQ hz hzf g0 c0 c1 c2;conv=>arg 2;whnf
 go_region_held3 (fun W=>W.cell? ⟨gf,0,none⟩=some (fv 151)∧W.cell? ⟨b,off+n*3,none⟩=some (.string name)∧W.cell? ⟨b,off+n*3+1,none⟩=some (iv lo)∧W.cell? ⟨b,off+n*3+2,none⟩=some (iv hi)) (first | exact HC.out _ (belowS hB1 (lr _) _) | exact HC.out _ (bA (undrew0B hb1) _) | exact HC.out _ (undrew0B hb1) | exact HC.out _ hB1 | exact HC.out _ HE.out | exact HC.out _ (belowDrB (bR _))) ((first | ((go_at_call 151;with_reducible refine(HN.out V.drew).mono ?_);rintro e w1 ⟨rfl,hb1⟩) | ((go_at_call 151;with_reducible refine(HN.out (V.alloc (.cells #[.string ⟨#[]⟩] 9)).drew).mono ?_);rintro e w1 ⟨rfl,hb2⟩;have hB1:=bT HE.out hb2;have hz:=kC hb2 HZ.out.1;have hzf:=(keepF hb2 HZ.out.1).trans HZ.out.2)))
 ·exact HQ.out _ _ _ _ _ _ w1.heap.size _ (by have:=hb1.size;simpa using this) (by go_simp) (bA (undrew0B hb1) _)
 ·exact HQ.out _ _ _ _ _ _ V.heap.size _ (lr _) (by go_simp) (belowS hB1 (lr _) _)
theorem freshOne_any(A:Option Addr)(l:List Prt)(n:Nat)(c:Prt)(B cap:Nat)(w:World)(hm:n+1≤cap)(hcm:cap≤maxLen)(hn:l[n]?=some c)(hs:c.name.size≤maxLen)(hR:RdN 3 encPrt w B A l)(hB:B≤w.heap.size) :
  Cs 150 #[.slice A (n+1) cap,fv 151] w fun e w'=>e=.returned (iv (freshE ((l.take n).map Prt.name) c.name))∧BW w w':=by
 have hm':=hm;unfold maxLen at hcm;have hnl:n<l.length:=(lG hn);obtain⟨b,off,rfl,hlt,c0,c1,c2⟩:=prtAt hR hn;have htl:(l.take n).length=n:=by rw[List.length_take];omega
 obtain⟨name,lo,hi⟩:=c;simp only at c0 c1 c2 hs ⊢;obtain⟨W1,hW1⟩:=ex (w.alloc (.cells #[fv 151] 238));have hb0:BW w W1:=by rw[←hW1];exact bA (bR _) _
 have g0:W1.cell? ⟨w.heap.size,0,none⟩=some (fv 151):=by rw[←hW1];clear hW1;go_simp
 have c0:=kC hb0 c0;have c1:=kC hb0 c1;have c2:=kC hb0 c2;have hz1:=lt_of_cell g0;have HC:Hid (∀W,BW W1 W→W.cell? ⟨w.heap.size,0,none⟩=some (fv 151)∧W.cell? ⟨b,off+n*3,none⟩=some (.string name)∧W.cell? ⟨b,off+n*3+1,none⟩=some (iv lo)∧W.cell? ⟨b,off+n*3+2,none⟩=some (iv hi)):=Lq fun W h=>⟨kC h g0,kC h c0,kC h c1,kC h c2⟩
 have HCL:Hid (∀(W:World) (gs:Nat),BW W1 W→W.cell? ⟨gs,0,none⟩=some (.string name)→Cs 194 #[.slice (some ⟨b,off,none⟩) n cap,.func (.func 195) #[] #[pT w.heap.size 0,pT gs 0]] W (Rt W (.bool (taken (l.take n) name)))):=Lq fun W gs hb hc=>by
  have:=containsPrt_any (some ⟨b,off,none⟩) (l.take n) B cap w.heap.size gs name W (by rw[htl];unfold maxLen;omega) (((hR.below hb0 hB).take n).below hb (by have:=hb0.size;omega)) (by have:=hb0.size;have:=hb.size;omega) (kC hb g0) hc
  rwa [htl]at this
 have HNM:Hid (∀W:World,Cs 29 #[.string name] W (Rt W (.bool (nameB name)))):=Lq fun W=>name_any name W hs
 have hr:freshE ((l.take n).map Prt.name) name=if nameB name then(if taken (l.take n) name then 5 else 0)else 6:=by unfold freshE;rw[taken_names]
 have HRR:=Lq hr;have HB0:=Lq hb0;have hnz:(n:Int)<(n:Int)+1:=by omega
 have hn0:(0:Int)≤(n:Int):=by omega
 clear hb0 hR htl HC hr;cases h1:nameB name;all_goals
  have HN1:=Lq h1;clear h1;go_enter Tryz.func150,Tryz.ntmps150
  go_upto_region 2 with fail
  refine reg55_2 (gf:=w.heap.size) hn0 hnz g0 c0 c1 c2 ?_;intro u10 u11 u12 u13 u14 u15 gs w1 hgs hs1 hb1;have HB1:=Lq hb1;have hz2:=lt_of_cell hs1;clear hb1 hW1;go_wp2_with fail;refine(HNM.out _).mono ?_;rintro e w2 ⟨he,hb2⟩;rw[HN1.out]at he;subst he;have HB2:=Lq (bT HB1.out hb2);have hs2:=kC hb2 hs1;clear hb2 hs1
 ·go_wp2
  go_ret
  exact⟨by rw[HRR.out,HN1.out];rfl,bT HB0.out HB2.out⟩
 ·cases h2:taken (l.take n) name;all_goals
   have HT:=Lq h2;clear h2;go_wp2_with fail;refine(HCL.out w2 gs HB2.out hs2).mono ?_;rintro e w3 ⟨he,hb3⟩;rw[HT.out]at he;subst he;have HB3:=Lq (bT HB2.out hb3);clear hb3;go_wp2
   go_ret
   exact⟨by rw[HRR.out,HN1.out,HT.out];rfl,bT HB0.out HB3.out⟩
end
theorem run_eqJ(d:Nat)(a b x y:Int)(w:World):(Op.equalIn (d+2) 47 (.agg #[iv a,iv b]) (.agg #[iv x,iv y])).run Tryz.prog w=.ok (a==x&&b==y) w:=by
 have h1:∀w,(Op.equalIn (d+1) 3 (iv a) (iv x)).run Tryz.prog w=.ok (a==x) w:=fun w=>run_equalIn_int w d 3 .i64 .i64 a x Tryz.underlying3
 have h2:∀w,(Op.equalIn (d+1) 3 (iv b) (iv y)).run Tryz.prog w=.ok (b==y) w:=fun w=>run_equalIn_int w d 3 .i64 .i64 b y Tryz.underlying3
 rw[Op.equalIn];simp only[Sem.run_bind,run_underlying Tryz.underlying47,Result.andThen_ok];simp only[Tryz.sizeOf3,Std.Legacy.Range.forIn_eq_forIn_range',Std.Legacy.Range.size];simp[List.range',h1,h2,go_sem];by_cases h:a=x<;>by_cases h':b=y<;>simp[h,h']
def eqJ(x y:Int×Int):Bool:=x.1==y.1&&x.2==y.2
def hasJ(l:List (Int×Int))(j:Int×Int):Bool:=l.any fun x=>eqJ j x
theorem hasJ_snoc(l:List (Int×Int))(j:Int×Int)(k:Nat)(x:Int×Int)(hx:l[k]?=some x):hasJ (l.take (k+1)) j=(hasJ (l.take k) j||eqJ j x):=by unfold hasJ;obtain⟨h,rfl⟩:=List.getElem?_eq_some_iff.1 hx;rw[List.take_succ_eq_append_getElem h,List.any_append];simp
theorem hasJ_yes{l:List (Int×Int)}{j:Int×Int}{k:Nat}{x:Int×Int}(hx:l[k]?=some x)(h:eqJ j x=true):hasJ l j=true:=by unfold hasJ;rw[List.any_eq_true];exact⟨x,List.mem_of_getElem? hx,h⟩
theorem indexJ_any(A:Option Addr)(xs:List (Int×Int))(B cap:Nat)(a b:Int)(w:World)(hm:xs.length≤maxLen)(hR:RdN 2 encSp w B A xs)(hB:B≤w.heap.size) :
  Cs 196 #[.slice A xs.length cap,.agg #[iv a,iv b]] w (IdxPostB (hasJ xs (a,b)) w):=by
 unfold maxLen at hm;obtain⟨W1,hW1⟩:=ex (w.alloc (.cells #[iv a,iv b] 47));have hb0:BW w W1:=by rw[←hW1];exact bA (bR _) _
 have c0:W1.cell? ⟨w.heap.size,0,none⟩=some (iv a):=by rw[←hW1];clear hW1;go_simp
 have c1:W1.cell? ⟨w.heap.size,1,none⟩=some (iv b):=by rw[←hW1];clear hW1;go_simp
 have HB0:=Lq hb0;have HR:=Lq (hR.below hb0 hB);have hz:=hb0.size;clear hb0 hR;go_enter Tryz.func196,Tryz.ntmps196
 go_wp2
 clear hW1;go_loopw [8] (fun i wr=>∃k:Nat,k≤xs.length∧i=iv k∧hasJ (xs.take k) (a,b)=false∧Hid (BW W1 wr)) (fun i _=>xs.length-(intOf i).toNat)
 case atStart=>exact⟨0,Nat.zero_le _,rfl,by simp[hasJ],Lq (bR _)⟩
 case round =>
  obtain⟨k,hk,rfl,hn,HBW⟩:=hrel;have HN:=Lq hn;clear hn;by_cases hlt:k<xs.length
  ·obtain⟨x,hx⟩:=gX (l:=xs) (i:=k) hlt;obtain⟨x0,x1⟩:=x;obtain⟨bb,off,rfl,_,d0,d1⟩:=spAt (HR.out.below HBW.out (by omega)) hx
   simp only at d0 d1;have c0:=kC HBW.out c0;have c1:=kC HBW.out c1;have Hx:=Lq hx;have hkz:(k:Int)<(xs.length:Int):=by omega
   have hk0:(0:Int)≤(k:Int):=by omega
   clear hx;by_cases hp:a=x0∧b=x1
   ·obtain⟨rfl,rfl⟩:=hp;have hEQ:∀w,(Op.equalIn 10000 47 (.agg #[iv a,iv b]) (.agg #[iv a,iv b])).run Tryz.prog w=.ok true w:=fun w=>by have:=run_eqJ 9998 a b a b w;simpa using this
    go_wp2
    go_quiet (fail)
    go_wp2
    go_ret
    exact⟨k,rfl,by rw[hasJ_yes Hx.out (by simp[eqJ])];simp,bT HB0.out (belowN HBW.out _)⟩
   ·have hp':eqJ (a,b) (x0,x1)=false:=by
     unfold eqJ;rw[Bool.and_eq_false_iff];simp only[beq_eq_false_iff_ne];by_cases h:a=x0
     ·exact .inr fun h2=>hp ⟨h,h2⟩
     ·exact .inl h
    have HP:=Lq hp';have hEQ:∀w,(Op.equalIn 10000 47 (.agg #[iv a,iv b]) (.agg #[iv x0,iv x1])).run Tryz.prog w=.ok false w:=fun w=>by have:=run_eqJ 9998 a b x0 x1 w;rw[this];exact congrArg (fun r=>Result.ok r w) hp'
    clear hp hp';go_wp2
    go_quiet (fail)
    go_wp2
    go_roundw
    case rel=>exact⟨k+1,by omega,by go_num,by rw[hasJ_snoc _ _ _ _ Hx.out,HN.out,HP.out];rfl,Lq (belowN HBW.out _)⟩
    case measure=>simp[intOf];omega
  ·go_wp2
   go_ret
   refine⟨-1,rfl, ?_,bT HB0.out HBW.out⟩;have:=HN.out;rw[List.take_of_length_le (by omega)]at this
   rw[this];rfl
theorem containsJ_any(A:Option Addr)(xs:List (Int×Int))(B cap:Nat)(a b:Int)(w:World)(hm:xs.length≤maxLen)(hR:RdN 2 encSp w B A xs)(hB:B≤w.heap.size) :
  Cs 152 #[.slice A xs.length cap,.agg #[iv a,iv b]] w (Rt w (.bool (hasJ xs (a,b)))):=by
 obtain⟨W1,hW1⟩:=ex (w.alloc (.cells #[iv a,iv b] 47));have hb0:BW w W1:=by rw[←hW1];exact bA (bR _) _
 have c0:W1.cell? ⟨w.heap.size,0,none⟩=some (iv a):=by rw[←hW1];clear hW1;go_simp
 have c1:W1.cell? ⟨w.heap.size,1,none⟩=some (iv b):=by rw[←hW1];clear hW1;go_simp
 have HI:=Lq (indexJ_any A xs B cap a b W1 hm (hR.below hb0 hB) (lT hB hb0.size));have HB0:=Lq hb0;clear hb0;go_enter Tryz.func152,Tryz.ntmps152
 go_wp2_with fail;refine HI.out.mono ?_;rintro e w1 ⟨r,rfl,hr,hb⟩;clear hW1;go_wp2
 go_ret
 exact⟨by rw[←hr];rfl,bT HB0.out hb⟩
section
variable{b:Bool}{hi lo x:Int}
structure Hul where
 ps:List Prt
 js:List (Int×Int)
 slo:Int
 shi:Int
 winch:Int
abbrev hv(h:Hul)(A:Option Addr)(cap:Nat)(J:Option Addr)(capJ:Nat):Value:=.agg #[.slice A h.ps.length cap,.slice J h.js.length capJ,iv h.slo,iv h.shi,iv h.winch]
structure HulRd(w:World)(B:Nat)(h:Hul)(A:Option Addr)(cap:Nat)(J:Option Addr)(capJ:Nat):Prop where
 ps:RdN 3 encPrt w B A h.ps
 js:RdN 2 encSp w B J h.js
 pl:h.ps.length≤cap
 pm:cap≤maxLen
 jl:h.js.length≤capJ
 jm:capJ≤maxLen
 nm:∀p∈h.ps,p.name.size≤maxLen
theorem HulRd.below{w w':World}{B B':Nat}{h:Hul}{A J:Option Addr}{cap capJ:Nat}(H:HulRd w B h A cap J capJ)(hb:Below B' w w')(hB:B≤B'):HulRd w' B h A cap J capJ :=
 ⟨H.ps.below hb hB,H.js.below hb hB,H.pl,H.pm,H.jl,H.jm,H.nm⟩
def partE(ps:List Prt)(i:Nat):Int:=match ps[i]? with | some c=>if freshE ((ps.take i).map Prt.name) c.name=0 then rangeE 0 100000 c.lo c.hi else freshE ((ps.take i).map Prt.name) c.name | none=>0
def jointE(n:Nat)(js:List (Int×Int))(i:Nat):Int:=match js[i]? with | some j=>if inB 0 ((n:Int)-1) j.1&&inB 0 ((n:Int)-1) j.2 then(if j.2≤j.1 then 2 else if hasJ (js.take i) j then 5 else 0)else 4 | none=>0
def listsE(h:Hul):Int×Int×Int :=
 match firstBad (partE h.ps) h.ps.length with
 | some (i,e)=>(2,i,e)
 | none=>match firstBad (jointE h.ps.length h.js) h.js.length with
  | some (i,e)=>(3,i,e)
  | none=>(0,0,0)
def checkE(h:Hul):Int×Int×Int :=
 if inB 1 8 (h.ps.length:Int)&&decide (h.js.length≤12)then(if inB 1 2000 h.slo&&inB 1 2000 h.shi&&inB 1 10000000 h.winch then(if h.shi<h.slo then(1,0,2)else listsE h)else(1,0,7))else(1,0,3)
def ret3(r:Int×Int×Int):Value:=.tuple #[iv r.1,iv r.2.1,iv r.2.2]
theorem out_oneB(h:inB lo hi x=b)(g:Nat)(w:World)(hc:w.cell? ⟨g,0,none⟩=some (iv x)):Cs 133 #[iv lo,iv hi,.slice (some ⟨g,0,none⟩) 1 1] w (Rt w (.bool (!b))):=by subst h;exact out_one lo hi x g w hc (lt_of_cell hc)
theorem out_twoB{y:Int}(h:(inB lo hi x&&inB lo hi y)=b)(g:Nat)(w:World)(hc:w.cell? ⟨g,0,none⟩=some (iv x))(hd:w.cell? ⟨g,1,none⟩=some (iv y)):Cs 133 #[iv lo,iv hi,.slice (some ⟨g,0,none⟩) 2 2] w (Rt w (.bool (!b))):=by subst h;exact out_two lo hi x y g w hc hd (lt_of_cell hc)
theorem check_any(h:Hul)(A J:Option Addr)(B cap capJ:Nat)(w:World)(hH:HulRd w B h A cap J capJ)(hB:B≤w.heap.size) :
  Cs 126 #[hv h A cap J capJ] w (Rt w (ret3 (checkE h))):=by
 obtain⟨W1,hW1⟩:=ex (w.alloc (.cells #[.slice A h.ps.length cap,.slice J h.js.length capJ,iv h.slo,iv h.shi,iv h.winch] 40));have hb0:BW w W1:=by rw[←hW1];exact bA (bR _) _
 have p0:W1.cell? ⟨w.heap.size,0,none⟩=some (.slice A h.ps.length cap):=by rw[←hW1];clear hW1;go_simp
 have p1:W1.cell? ⟨w.heap.size,1,none⟩=some (.slice J h.js.length capJ):=by rw[←hW1];clear hW1;go_simp
 have p2:W1.cell? ⟨w.heap.size,2,none⟩=some (iv h.slo):=by rw[←hW1];clear hW1;go_simp
 have p3:W1.cell? ⟨w.heap.size,3,none⟩=some (iv h.shi):=by rw[←hW1];clear hW1;go_simp
 have p4:W1.cell? ⟨w.heap.size,4,none⟩=some (iv h.winch):=by rw[←hW1];clear hW1;go_simp
 have HC:Hid (∀W,BW W1 W→W.cell? ⟨w.heap.size,0,none⟩=some (.slice A h.ps.length cap)∧W.cell? ⟨w.heap.size,1,none⟩=some (.slice J h.js.length capJ)∧W.cell? ⟨w.heap.size,2,none⟩=some (iv h.slo)∧W.cell? ⟨w.heap.size,3,none⟩=some (iv h.shi)∧W.cell? ⟨w.heap.size,4,none⟩=some (iv h.winch)):=Lq fun W hb=>⟨kC hb p0,kC hb p1,kC hb p2,kC hb p3,kC hb p4⟩
 have hz1:=lt_of_cell p0;have HB0:=Lq hb0;have HH:=Lq (hH.below hb0 hB);have hpm:=hH.pm;have hjm:=hH.jm;have hpl:=hH.pl;have hjl:=hH.jl;unfold maxLen at hpm hjm;obtain⟨R,hR⟩:=ex (checkE h);rw[hR];have HR:=Lq hR;clear hb0 hH hR;obtain⟨ps,js,slo,shi,winch⟩:=h;simp only at *;have hfin:∀(r:Int×Int×Int),R=r→ret3 R=.tuple #[iv r.1,iv r.2.1,iv r.2.2]:=fun r h=>by rw[h];rfl
 have HFIN:=Lq hfin;clear hfin;cases h1:inB 1 8 (ps.length:Int)
 ·have hr:R=(1,0,3):=by rw[←HR.out];simp[checkE,h1]
  have HRR:=Lq hr;clear hr;go_enter Tryz.func126,Tryz.ntmps126
  go_wp2_with fail;refine(out_oneB h1 _ _ (by go_simp)).mono ?_
  rintro e w2 ⟨rfl,hb2⟩;have HB2:=Lq (bT (bA (bR _) _) hb2);clear hb2 hW1 p0 p1 p2 p3 p4;obtain⟨p0,p1,p2,p3,p4⟩:=HC.out _ HB2.out;go_wp2
  go_ret3
  exact⟨by rw[HFIN.out _ HRR.out];rfl,bT HB0.out HB2.out⟩
 have hn8:=inB_t h1;by_cases h2:js.length≤12
 case neg =>
  have hr:R=(1,0,3):=by rw[←HR.out];simp[checkE,h2]
  have HRR:=Lq hr;have hd:(12:Int)<(js.length:Int):=by omega
  clear hr;go_enter Tryz.func126,Tryz.ntmps126
  go_wp2_with fail;refine(out_oneB h1 _ _ (by go_simp)).mono ?_
  rintro e w2 ⟨rfl,hb2⟩;have HB2:=Lq (bT (bA (bR _) _) hb2);clear hb2 hW1 p0 p1 p2 p3 p4;obtain⟨p0,p1,p2,p3,p4⟩:=HC.out _ HB2.out;go_wp2
  go_ret3
  exact⟨by rw[HFIN.out _ HRR.out];rfl,bT HB0.out HB2.out⟩
 have hd:¬(12:Int)<(js.length:Int):=by omega
 cases h3:(inB 1 2000 slo&&inB 1 2000 shi)
 ·have hr:R=(1,0,7):=by rw[←HR.out];simp[checkE,h1,h2,h3]
  have HRR:=Lq hr;clear hr;go_enter Tryz.func126,Tryz.ntmps126
  go_wp2_with fail;refine(out_oneB h1 _ _ (by go_simp)).mono ?_
  rintro e w2 ⟨rfl,hb2⟩;have HB2:=Lq (bT (bA (bR _) _) hb2);clear hb2 hW1 p0 p1 p2 p3 p4;obtain⟨p0,p1,p2,p3,p4⟩:=HC.out _ HB2.out;go_wp2_with fail;refine(out_twoB h3 _ _ (by go_simp) (by go_simp)).mono ?_
  rintro e w3 ⟨rfl,hb3⟩;have HB3:=Lq (bT (bA HB2.out _) hb3);clear hb3 p0 p1 p2 p3 p4;obtain⟨p0,p1,p2,p3,p4⟩:=HC.out _ HB3.out;go_wp2
  go_ret3
  exact⟨by rw[HFIN.out _ HRR.out];rfl,bT HB0.out HB3.out⟩
 cases h4:inB 1 10000000 winch
 ·have hr:R=(1,0,7):=by rw[←HR.out];simp[checkE,h1,h2,h3,h4]
  have HRR:=Lq hr;clear hr;go_enter Tryz.func126,Tryz.ntmps126
  go_wp2_with fail;refine(out_oneB h1 _ _ (by go_simp)).mono ?_
  rintro e w2 ⟨rfl,hb2⟩;have HB2:=Lq (bT (bA (bR _) _) hb2);clear hb2 hW1 p0 p1 p2 p3 p4;obtain⟨p0,p1,p2,p3,p4⟩:=HC.out _ HB2.out;go_wp2_with fail;refine(out_twoB h3 _ _ (by go_simp) (by go_simp)).mono ?_
  rintro e w3 ⟨rfl,hb3⟩;have HB3:=Lq (bT (bA HB2.out _) hb3);clear hb3 p0 p1 p2 p3 p4;obtain⟨p0,p1,p2,p3,p4⟩:=HC.out _ HB3.out;go_wp2_with fail;refine(out_oneB h4 _ _ (by go_simp)).mono ?_
  rintro e w4 ⟨rfl,hb4⟩;have HB4:=Lq (bT (bA HB3.out _) hb4);clear hb4 p0 p1 p2 p3 p4;obtain⟨p0,p1,p2,p3,p4⟩:=HC.out _ HB4.out;go_wp2
  go_ret3
  exact⟨by rw[HFIN.out _ HRR.out];rfl,bT HB0.out HB4.out⟩
 by_cases h5:shi<slo
 ·have hr:R=(1,0,2):=by rw[←HR.out];simp[checkE,h1,h2,h3,h4,h5]
  have HRR:=Lq hr;clear hr;go_enter Tryz.func126,Tryz.ntmps126
  go_wp2_with fail;refine(out_oneB h1 _ _ (by go_simp)).mono ?_
  rintro e w2 ⟨rfl,hb2⟩;have HB2:=Lq (bT (bA (bR _) _) hb2);clear hb2 hW1 p0 p1 p2 p3 p4;obtain⟨p0,p1,p2,p3,p4⟩:=HC.out _ HB2.out;go_wp2_with fail;refine(out_twoB h3 _ _ (by go_simp) (by go_simp)).mono ?_
  rintro e w3 ⟨rfl,hb3⟩;have HB3:=Lq (bT (bA HB2.out _) hb3);clear hb3 p0 p1 p2 p3 p4;obtain⟨p0,p1,p2,p3,p4⟩:=HC.out _ HB3.out;go_wp2_with fail;refine(out_oneB h4 _ _ (by go_simp)).mono ?_
  rintro e w4 ⟨rfl,hb4⟩;have HB4:=Lq (bT (bA HB3.out _) hb4);clear hb4 p0 p1 p2 p3 p4;obtain⟨p0,p1,p2,p3,p4⟩:=HC.out _ HB4.out;go_wp2
  go_ret3
  exact⟨by rw[HFIN.out _ HRR.out];rfl,bT HB0.out HB4.out⟩
 have hr:R=listsE ⟨ps,js,slo,shi,winch⟩:=by rw[←HR.out];simp[checkE,h1,h2,h3,h4,h5]
 have HRR:=Lq hr;clear hr;go_enter Tryz.func126,Tryz.ntmps126
 go_wp2_with fail;refine(out_oneB h1 _ _ (by go_simp)).mono ?_
 rintro e w2 ⟨rfl,hb2⟩;have HB2:=Lq (bT (bA (bR _) _) hb2);clear hb2 hW1 p0 p1 p2 p3 p4;obtain⟨p0,p1,p2,p3,p4⟩:=HC.out _ HB2.out;go_wp2_with fail;refine(out_twoB h3 _ _ (by go_simp) (by go_simp)).mono ?_
 rintro e w3 ⟨rfl,hb3⟩;have HB3:=Lq (bT (bA HB2.out _) hb3);clear hb3 p0 p1 p2 p3 p4;obtain⟨p0,p1,p2,p3,p4⟩:=HC.out _ HB3.out;go_wp2_with fail;refine(out_oneB h4 _ _ (by go_simp)).mono ?_
 rintro e w4 ⟨rfl,hb4⟩;have HB4:=Lq (bT (bA HB3.out _) hb4);clear hb4 p0 p1 p2 p3 p4 HB2 HB3 hd;obtain⟨p0,p1,p2,p3,p4⟩:=HC.out _ HB4.out;go_wp2
 clear p0 p1 p2 p3 p4 h1 h2 h3 h4 h5;go_loopw [47] (fun i wr=>∃k:Nat,k≤ps.length∧i=iv k∧Hid (firstBad (partE ps) k=none)∧Hid (BW W1 wr)) (fun i _=>ps.length-(intOf i).toNat)
 case atStart=>exact⟨0,Nat.zero_le _,rfl,Lq rfl,HB4⟩
 case round =>
  clear HB4;obtain⟨k,hk,rfl,HN,HBW⟩:=hrel;obtain⟨p0,p1,p2,p3,p4⟩:=HC.out _ HBW.out;have hzr:w.heap.size<wr.heap.size:=lt_of_cell p0;by_cases hlt:k<ps.length
  ·obtain⟨c,hx⟩:=gX (l:=ps) (i:=k) hlt;have hRw:=(HH.out.below HBW.out (by omega)).ps
   have hfr:=fun W (hb:BW wr W)=>freshOne_any A ps k c B cap W (by omega) HH.out.pm hx (HH.out.nm c (List.mem_of_getElem? hx)) (hRw.below hb (by have:=HBW.out.size;omega)) (by have:=HBW.out.size;have:=hb.size;omega)
   have hpe:partE ps k=if freshE ((ps.take k).map Prt.name) c.name=0 then rangeE 0 100000 c.lo c.hi else freshE ((ps.take k).map Prt.name) c.name:=by simp[partE,hx]
   obtain⟨bb,off,rfl,_,d0,d1,d2⟩:=prtAt hRw hx;obtain⟨name,lo,hi⟩:=c;simp only at d0 d1 d2 hfr hpe;obtain⟨F,hF⟩:=ex (freshE ((ps.take k).map Prt.name) name);rw[hF]at hfr hpe;have HFR:=Lq hfr;have HPE:=Lq hpe;have hkz:(k:Int)<(ps.length:Int):=by omega
   have hkc:(k:Int)+1≤(cap:Int):=by omega
   have hk0:(0:Int)≤(k:Int):=by omega
   clear hfr hpe hF hx hRw;by_cases hF0:F=0
   case neg =>
    have hne:(F==0)=false:=by simpa using hF0
    have hne2:(F != 0)=true:=by simpa using hF0
    go_wp2_with fail;refine(HFR.out _ (bA (bR _) _)).mono ?_;rintro e w5 ⟨rfl,hb5⟩;have HB5:=Lq (bT HBW.out (bT (bA (bR _) _) hb5));clear hb5 p0 p1 p2 p3 p4 d0 d1 d2;go_wp2
    go_ret3
    exact⟨by rw[HFIN.out (2,k,F) (by rw[HRR.out];unfold listsE;rw[firstBad_at HN.out (by rw[HPE.out,if_neg hF0];exact hF0) hlt,HPE.out,if_neg hF0])];rfl,bT HB0.out HB5.out⟩
   subst hF0;obtain⟨E,hE⟩:=ex (rangeE 0 100000 lo hi);have hsp:=fun W=>spanned_any 0 100000 lo hi W
   rw[hE]at hsp;have HSP:=Lq hsp;have HPE2:Hid (partE ps k=E):=Lq (by rw[HPE.out,if_pos rfl];exact hE)
   clear hsp hE HPE;go_wp2_with fail;refine(HFR.out _ (bA (bR _) _)).mono ?_;rintro e w5 ⟨rfl,hb5⟩;have HB5:=Lq (bT HBW.out (bT (bA (bR _) _) hb5));have g0:w5.cell? ⟨wr.heap.size,0,none⟩=some (.string name):=kC hb5 (by go_simp)
   have g1:w5.cell? ⟨wr.heap.size,1,none⟩=some (iv lo):=kC hb5 (by go_simp)
   have g2:w5.cell? ⟨wr.heap.size,2,none⟩=some (iv hi):=kC hb5 (by go_simp)
   clear hb5 p0 p1 p2 p3 p4 d0 d1 d2 HFR;go_wp2_with fail;refine(HSP.out _).mono ?_;rintro e w6 ⟨rfl,hb6⟩;have HB6:=Lq (bT HB5.out hb6);clear hb6 g0 g1 g2;by_cases hE0:E=0
   ·subst hE0;go_wp2
    go_roundw
    case rel=>exact⟨k+1,by omega,by go_num,Lq (firstBad_succ HN.out HPE2.out),HB6⟩
    case measure=>simp[intOf];omega
   ·have hne2:(E != 0)=true:=by simpa using hE0
    go_wp2
    go_ret3
    exact⟨by rw[HFIN.out (2,k,E) (by rw[HRR.out];unfold listsE;rw[firstBad_at HN.out (by rw[HPE2.out];exact hE0) hlt,HPE2.out])];rfl,bT HB0.out HB6.out⟩
  ·obtain rfl:k=ps.length:=by omega
   have hr2:R=match firstBad (jointE ps.length js) js.length with | some (i,e)=>(3,i,e) | none=>(0,0,0):=by rw[HRR.out];unfold listsE;rw[HN.out]
   have HRR:=Lq hr2;clear hr2 HN;have hjm2:(js.length:Int)≤12:=by omega
   have hw1:IntKind.i64.wrap ((ps.length:Int)-1)=(ps.length:Int)-1:=by rw[IntKind.wrap_i64];omega
   have HW1:=Lq hw1;clear hw1;go_wp2
   clear p0 p1 p2 p3 p4;obtain⟨wa,hwa⟩:∃wa:World,wa=wr:=⟨_,rfl⟩;subst hwa;go_loopw [71] (fun i wr=>∃k:Nat,k≤js.length∧i=iv k∧Hid (firstBad (jointE ps.length js) k=none)∧Hid (BW W1 wr)) (fun i _=>js.length-(intOf i).toNat)
   case atStart=>exact⟨0,Nat.zero_le _,rfl,Lq rfl,HBW⟩
   case round =>
    clear HBW;obtain⟨k,hk,rfl,HN,HBW⟩:=hrel;obtain⟨p0,p1,p2,p3,p4⟩:=HC.out _ HBW.out;have hzr:w.heap.size<wr.heap.size:=lt_of_cell p0;by_cases hlt:k<js.length
    ·obtain⟨j,hx⟩:=gX (l:=js) (i:=k) hlt;obtain⟨a,b⟩:=j;have hRw:=(HH.out.below HBW.out (by omega)).js
     have hje:jointE ps.length js k=if inB 0 ((ps.length:Int)-1) a&&inB 0 ((ps.length:Int)-1) b then(if b≤a then 2 else if hasJ (js.take k) (a,b)then 5 else 0)else 4:=by simp[jointE,hx]
     obtain⟨bb,off,rfl,_,d0,d1⟩:=spAt hRw hx;simp only at d0 d1;have htl:(js.take k).length=k:=by rw[List.length_take];omega
     have hct:=fun W (hb:BW wr W)=>containsJ_any (some ⟨bb,off,none⟩) (js.take k) B capJ a b W (by rw[htl];unfold maxLen;omega) ((hRw.take k).below hb (by have:=HBW.out.size;omega)) (by have:=HBW.out.size;have:=hb.size;omega)
     rw[htl]at hct;have HCT:=Lq hct;have HJE:=Lq hje;have hkz:(k:Int)<(js.length:Int):=by omega
     have hk0:(0:Int)≤(k:Int):=by omega
     have hkc:(k:Int)≤(capJ:Int):=by omega
     clear hct hje hx hRw htl;cases h1:(inB 0 ((ps.length:Int)-1) a&&inB 0 ((ps.length:Int)-1) b)
     ·have hj:jointE ps.length js k=4:=by rw[HJE.out,h1];rfl
      have HJ:=Lq hj;have HO:=Lq (fun g W=>out_twoB h1 g W)
      have hw1:=HW1.out;clear hj h1;go_wp2_with fail;refine(HO.out _ _ (by go_simp) (by go_simp)).mono ?_
      rintro e w5 ⟨rfl,hb5⟩;have HB5:=Lq (bT HBW.out (bT (bA (bA (bR _) _) _) hb5));clear hb5 p0 p1 p2 p3 p4 d0 d1 hw1;go_wp2
      go_ret3
      exact⟨by rw[HFIN.out (3,k,4) (by rw[HRR.out,firstBad_at HN.out (by rw[HJ.out];decide) hlt,HJ.out])];rfl,bT HB0.out HB5.out⟩
     have hb12:=h1;rw[Bool.and_eq_true]at hb12;have hab:=inB_t hb12.1;have hbb:=inB_t hb12.2;have HO:=Lq (fun g W=>out_twoB h1 g W)
     have hw1:=HW1.out;clear hb12;by_cases h2:b≤a
     ·have hj:jointE ps.length js k=2:=by rw[HJE.out,h1,if_pos rfl,if_pos h2]
      have HJ:=Lq hj;clear hj h1;go_wp2_with fail;refine(HO.out _ _ (by go_simp) (by go_simp)).mono ?_
      rintro e w5 ⟨rfl,hb5⟩;have HB5:=Lq (bT HBW.out (bT (bA (bA (bR _) _) _) hb5));have e0:w5.cell? ⟨wr.heap.size,0,none⟩=some (iv a):=kC hb5 (by go_simp)
      have e1:w5.cell? ⟨wr.heap.size,1,none⟩=some (iv b):=kC hb5 (by go_simp)
      clear hb5 p0 p1 p2 p3 p4 d0 d1 hw1;go_wp2
      go_ret3
      exact⟨by rw[HFIN.out (3,k,2) (by rw[HRR.out,firstBad_at HN.out (by rw[HJ.out];decide) hlt,HJ.out])];rfl,bT HB0.out HB5.out⟩
     cases h3:hasJ (js.take k) (a,b);all_goals
      have HJ3:=Lq h3;have hj:jointE ps.length js k=if hasJ (js.take k) (a,b)then 5 else 0:=by rw[HJE.out,h1,if_pos rfl,if_neg h2]
      have HJ:=Lq hj;clear hj h1 h3;go_wp2_with fail;refine(HO.out _ _ (by go_simp) (by go_simp)).mono ?_
      rintro e w5 ⟨rfl,hb5⟩;have hb6:=bT (bA (bA (bR wr) (.cells #[iv a,iv b] 47)) (.cells #[iv a,iv b] 3)) hb5;have HB6:=Lq hb6;have HB5:=Lq (bT HBW.out hb6);have e0:w5.cell? ⟨wr.heap.size,0,none⟩=some (iv a):=kC hb5 (by go_simp)
      have e1:w5.cell? ⟨wr.heap.size,1,none⟩=some (iv b):=kC hb5 (by go_simp)
      have hzr5:=hb6.size;clear hb5 hb6 p0 p1 p2 p3 p4 d0 d1 hw1;obtain⟨p0,p1,p2,p3,p4⟩:=HC.out _ HB5.out;have HCN:Hid (Cs 152 #[.slice (some ⟨bb,off,none⟩) k capJ,.agg #[iv a,iv b]] w5.drew (Rt w5.drew (.bool (hasJ (js.take k) (a,b))))):=Lq (HCT.out w5.drew (belowDrB HB6.out));have HC5:Hid (∀W,BW w5 W→W.cell? ⟨w.heap.size,1,none⟩=some (.slice (some ⟨bb,off,none⟩) js.length capJ)∧W.cell? ⟨wr.heap.size,0,none⟩=some (iv a)∧W.cell? ⟨wr.heap.size,1,none⟩=some (iv b)):=Lq fun W hb=>⟨kC hb p1,kC hb e0,kC hb e1⟩
      go_wp2
      go_region_held3 (fun W=>W.cell? ⟨w.heap.size,1,none⟩=some (.slice (some ⟨bb,off,none⟩) js.length capJ)∧W.cell? ⟨wr.heap.size,0,none⟩=some (iv a)∧W.cell? ⟨wr.heap.size,1,none⟩=some (iv b)) (first | exact HC5.out _ (undrew0B hb7) | exact HC5.out _ (belowDrB (bR _))) (((go_at_call 152;refine HCN.out.mono ?_;rintro e w7 ⟨he,hb7⟩;rw[HJ3.out]at he;subst he)))
      have HB7:=Lq (bT HB5.out (undrew0B hb7));clear hb7 p0 p1 p2 p3 p4 e0 e1;go_wp2
     ·go_roundw
      case rel=>exact⟨k+1,by omega,by go_num,Lq (firstBad_succ HN.out (by rw[HJ.out,HJ3.out];rfl)),HB7⟩
      case measure=>simp[intOf];omega
     ·go_ret3
      exact⟨by rw[HFIN.out (3,k,5) (by rw[HRR.out,firstBad_at HN.out (by rw[HJ.out,HJ3.out];decide) hlt,HJ.out,HJ3.out];rfl)];rfl,bT HB0.out HB7.out⟩
    ·obtain rfl:k=js.length:=by omega
     have hr2:R=(0,0,0):=by rw[HRR.out,HN.out]
     have HRR:=Lq hr2;clear hr2 HN p0 p1 p2 p3 p4;go_wp2
     go_ret3
     exact⟨by rw[HFIN.out _ HRR.out];rfl,bT HB0.out HBW.out⟩
end
end Go.Proofs.YtigcophcpboanaaGreatDoor
namespace Go.Proofs.YtigcophcpboanaaGreatDoor
section
variable{a b k s:Nat}
theorem wrap62(n:Int)(h0:0≤n)(h1:n<2^62):IntKind.i64.wrap n=n:=by rw[IntKind.wrap_i64];omega
theorem and64(ha:a<2^62)(hb:b<2^62):bits .and .i64 (a:Int) (b:Int)=((a&&&b:Nat):Int):=(bits_nat .i64 62 (by decide) wrap62 a b ha hb).1
theorem or64(ha:a<2^62)(hb:b<2^62):bits .or .i64 (a:Int) (b:Int)=((a|||b:Nat):Int):=(bits_nat .i64 62 (by decide) wrap62 a b ha hb).2
theorem low64:∀s:Nat,s<256→bits .and .i64 (s:Int) (-(s:Int))=((s&&&(256-s):Nat):Int):=by decide +kernel
theorem shl1:∀a:Nat,a<9→IntKind.i64.wrap (2^a)=((2^a:Nat):Int):=by decide +kernel
theorem andNot64(ha:a<256)(hb:b<256):bits .andNot .i64 (a:Int) (b:Int)=((a&&&(255-b):Nat):Int):=by
 have h1:∀b:Nat,b<256→(~~~BitVec.ofInt 64 (b:Int))=BitVec.ofInt 64 ((18446744073709551615-b:Nat):Int):=by decide +kernel
 have hx:a&&&(18446744073709551615-b)<2^62:=Nat.lt_of_le_of_lt Nat.and_le_left (by omega)
 have hy:a&&&(18446744073709551615-b)=a&&&(255-b):=by
  apply Nat.eq_of_testBit_eq;intro i;rw[Nat.testBit_and,Nat.testBit_and];rcases Nat.lt_or_ge i 8 with hi | hi
  ·congr 1
   have e1:18446744073709551615-b=2^64-(b+1):=by omega
   have e2:255-b=2^8-(b+1):=by omega
   rw[e1,e2,Nat.testBit_two_pow_sub_succ (by omega),Nat.testBit_two_pow_sub_succ (by omega)]
   simp[hi,show i<64 by omega]
  ·have:a.testBit i=false:=Nat.testBit_lt_two_pow (lz ha (by
    have:=Nat.pow_le_pow_right (show 0<2 by decide) hi
    exact this))
   rw[this];simp
 show IntKind.i64.wrap ((BitVec.ofInt 64 (a:Int)&&&~~~BitVec.ofInt 64 (b:Int)).toNat:Int)=_
 rw[h1 b hb,BitVec.toNat_and,ofInt_u64 a (by omega),ofInt_u64 _ (by omega),wrap62 _ (by omega) (by omega),hy]
theorem bit64(hs:s<2^62)(k:Nat):bits .and .i64 ((s:Int)/2^k) 1=if s.testBit k then 1 else 0:=by
 have h1:(s:Int)/2^k=((s/2^k:Nat):Int):=by rw[Int.natCast_ediv,Int.natCast_pow];rfl
 have h2:s/2^k<2^62:=Nat.lt_of_le_of_lt (Nat.div_le_self _ _) hs;have h3:=and64 (a:=s/2^k) (b:=1) h2 (by decide)
 rw[h1,show(1:Int)=((1:Nat):Int)from rfl,h3,Nat.and_one_is_mod,Nat.testBit_eq_decide_div_mod_eq]
 rcases Nat.mod_two_eq_zero_or_one (s/2^k)with h | h<;>simp[h]
theorem bit64_t(hs:s<256)(h:s.testBit k=true):bits .and .i64 ((s:Int)/2^k) 1=1:=by rw[bit64 (by omega),h];rfl
theorem bit64_f(hs:s<256)(h:s.testBit k=false):bits .and .i64 ((s:Int)/2^k) 1=0:=by rw[bit64 (by omega),h];rfl
def pairN(j:Int×Int):Nat:=2^j.1.toNat|||2^j.2.toNat
def hstep(s next:Nat)(j:Int×Int):Nat:=if pairN j&&&s=pairN j∧pairN j&&&next≠0 then next|||pairN j else next
def hround(js:List (Int×Int))(s met:Nat):Nat:=js.foldl (hstep s) met
def hangF(js:List (Int×Int))(s:Nat):Nat→Nat→Bool
 | 0,_=>false
 | f+1,met=>if hround js s met=met then met==s else hangF js s f (hround js s met)
def hangsB(js:List (Int×Int))(s:Nat):Bool:=hangF js s 257 (s&&&(256-s))
def JsOk(n:Nat)(js:List (Int×Int)):Prop:=∀j∈js,0≤j.1∧j.1<j.2∧j.2<n
theorem pow_lt(h:a<8):2^a<256:=by
 have:=Nat.pow_le_pow_right (show 0<2 by decide) (show a≤7 by omega)
 omega
theorem or_lt(ha:a<256)(hb:b<256):a|||b<256:=Nat.or_lt_two_pow (n:=8) ha hb
theorem pairN_lt{j:Int×Int}(h1:j.1<8)(h2:j.2<8):pairN j<256:=or_lt (pow_lt (by omega)) (pow_lt (by omega))
theorem hstep_lt{next:Nat}{j:Int×Int}(h1:j.1<8)(h2:j.2<8)(hn:next<256):hstep s next j<256:=by
 unfold hstep;split
 ·exact or_lt hn (pairN_lt h1 h2)
 ·exact hn
theorem le_or_left(a b:Nat):a≤a|||b:=Nat.left_le_or
theorem hstep_ge(s next:Nat)(j:Int×Int):next≤hstep s next j:=by
 unfold hstep;split
 ·exact le_or_left _ _
 ·exact lr _
theorem fold_lt{n:Nat}(hn:n≤8)(s:Nat):∀(js:List (Int×Int)) (met:Nat),JsOk n js→met<256→js.foldl (hstep s) met<256:=by
 intro js;induction js with
 | nil=>intro met _ h;exact h
 | cons j js ih =>
  intro met hj h;rw[List.foldl_cons];have:=hj j (by simp)
  exact ih _ (fun x hx=>hj x (List.mem_cons_of_mem _ hx)) (hstep_lt (by omega) (by omega) h)
theorem fold_ge(s:Nat):∀(js:List (Int×Int)) (met:Nat),met≤js.foldl (hstep s) met:=by
 intro js;induction js with
 | nil=>intro met;exact lr _
 | cons j js ih=>intro met;rw[List.foldl_cons];exact lT (hstep_ge s met j) (ih _)
theorem fold_snoc(s:Nat)(js:List (Int×Int))(met k:Nat)(j:Int×Int)(h:js[k]?=some j):(js.take (k+1)).foldl (hstep s) met=hstep s ((js.take k).foldl (hstep s) met) j:=by obtain⟨hk,rfl⟩:=List.getElem?_eq_some_iff.1 h;rw[List.take_succ_eq_append_getElem hk,List.foldl_append];rfl
theorem low_lt(s:Nat)(h:s<256):s&&&(256-s)<256:=Nat.lt_of_le_of_lt Nat.and_le_left h
end
end Go.Proofs.YtigcophcpboanaaGreatDoor
namespace Go.Proofs.YtigcophcpboanaaGreatDoor
open Go.RowKit
theorem hangs_any(g s n:Nat)(J:Option Addr)(js:List (Int×Int))(capJ B:Nat)(w:World)(hs:s<256)(hn8:n≤8)(hj:JsOk n js)(hjl:js.length≤12)(c1:w.cell? ⟨g,1,none⟩=some (.slice J js.length capJ))(hR:RdN 2 encSp w B J js)(hB:B≤w.heap.size) :
  Cs 92 #[pT g 0,iv s] w (Rt w (.bool (hangsB js s))):=by
 have hl:=low64 s hs;have hlt:=low_lt s hs;obtain⟨L,hL⟩:=ex (s&&&(256-s));rw[hL]at hl hlt;have hst:hangsB js s=hangF js s 257 L:=by unfold hangsB;rw[hL]
 obtain⟨R,hR0⟩:=ex (hangsB js s);rw[hR0]at hst ⊢;have HST:=Lq hst.symm;have HJ:=Lq hj;have HR:=Lq hR;have HC:Hid (∀W,BW w W→W.cell? ⟨g,1,none⟩=some (.slice J js.length capJ)):=Lq fun W hb=>kC hb c1
 clear hst hR0 hL hj hR;have hg:=lt_of_cell c1;go_enter Tryz.func92,Tryz.ntmps92
 go_wp2
 go_loopw [5] (fun vm wr=>∃m f:Nat,vm=iv m∧m<256∧257≤m+f∧Hid (hangF js s f m=R)∧Hid (BW w wr)) (fun vm _=>256-(intOf vm).toNat)
 case atStart=>exact⟨L,257,rfl,hlt,by omega,HST,Lq (bR _)⟩
 case round =>
  clear HST c1;obtain⟨m,f,rfl,hm,hmf,HF,HBW⟩:=hrel;have c1:=HC.out _ HBW.out;have hzr:g<wr.heap.size:=lt_of_cell c1;go_wp2
  obtain⟨wa,hwa⟩:∃wa:World,wa=wr:=⟨_,rfl⟩;subst hwa;go_loopw [6,21] (fun vn vi wr=>∃k:Nat,∃x:Nat,k≤js.length∧vi=iv k∧vn=iv x∧x<256∧Hid ((js.take k).foldl (hstep s) m=x)∧Hid (BW w wr)) (fun _ vi _=>js.length-(intOf vi).toNat)
  case atStart=>exact⟨0,m,Nat.zero_le _,rfl,rfl,hm,Lq rfl,HBW⟩
  case round =>
   clear HBW c1;obtain⟨k,x,hk,rfl,rfl,hx,HX,HBW⟩:=hrel;have c1:=HC.out _ HBW.out;have hzr:g<wr.heap.size:=lt_of_cell c1;by_cases hlt:k<js.length
   ·obtain⟨j,hjx⟩:=gX (l:=js) (i:=k) hlt;have hjo:=HJ.out j (List.mem_of_getElem? hjx);have hsn:=fold_snoc s js m k j hjx;rw[HX.out]at hsn;obtain⟨bb,off,rfl,_,d0,d1⟩:=spAt (HR.out.below HBW.out hB) hjx;obtain⟨a,b⟩:=j;simp only at d0 d1 hjo;obtain⟨a,rfl⟩:∃n:Nat,a=n:=⟨a.toNat,by omega⟩
    obtain⟨b,rfl⟩:∃n:Nat,b=n:=⟨b.toNat,by omega⟩
    have ha8:a<8:=by omega
    have hb8:b<8:=by omega
    have hpa:=shl1 a (by omega)
    have hpb:=shl1 b (by omega)
    have hla:=pow_lt ha8;have hlb:=pow_lt hb8;have hpp:pairN ((a:Int),(b:Int))=2^a|||2^b:=rfl
    have hor:=or64 (a:=2^a) (b:=2^b) (by omega) (by omega)
    have hlp:=or_lt hla hlb;obtain⟨pa,hpa'⟩:=ex ((2^a:Nat));obtain⟨pb,hpb'⟩:=ex ((2^b:Nat));rw[hpa']at hpa hor hlp hpp hla;rw[hpb']at hpb hor hlp hpp hlb;obtain⟨P,hP⟩:=ex (pa|||pb)
    rw[hP]at hor hlp hpp;have ha1:=and64 (a:=P) (b:=s) (by omega) (by omega)
    have ha2:=and64 (a:=P) (b:=x) (by omega) (by omega)
    have ha3:=or64 (a:=x) (b:=P) (by omega) (by omega)
    have hxl:=or_lt hx hlp;have hkz:(k:Int)<(js.length:Int):=by omega
    have hk0:(0:Int)≤(k:Int):=by omega
    have hsn2:(js.take (k+1)).foldl (hstep s) m=if P&&&s=P∧P&&&x≠0 then x|||P else x:=by rw[hsn];unfold hstep;rw[hpp]
    have HSN:=Lq hsn2;have HBS:Hid (BW w (wr.alloc (.cells #[iv (a:Int),iv (b:Int)] 47))):=Lq (bA HBW.out _);clear hsn hsn2 hjx hjo hP hpp hpa' hpb';have HA1:=Lq ha1;have HA2:=Lq ha2;have HA3:=Lq ha3;clear ha1 ha2 ha3;go_wp2
    go_quiet (fail)
    have HBN:=Lq (belowN HBS.out nq);clear HBS;generalize(wr.alloc (.cells #[iv (a:Int),iv (b:Int)] 47)).drewN nq=wn at *;clear hpa hpb hor d0 d1 c1;by_cases hq1:P&&&s=P
    ·have ha1:=HA1.out;rw[hq1]at ha1;by_cases hq2:P&&&x=0
     ·have ha2:=HA2.out;rw[hq2]at ha2;have HS2:Hid ((js.take (k+1)).foldl (hstep s) m=x):=Lq (by rw[HSN.out,if_neg (fun h=>h.2 hq2)])
      clear hq1 hq2;go_wp2
      go_roundw
      case rel=>exact⟨k+1,x,by omega,by go_num,rfl,hx,HS2,HBN⟩
      case measure=>simp[intOf];omega
     ·have HS2:Hid ((js.take (k+1)).foldl (hstep s) m=x|||P):=Lq (by rw[HSN.out,if_pos ⟨hq1,hq2⟩])
      have ha2:=HA2.out;obtain⟨M,hM⟩:=ex (P&&&x);rw[hM]at hq2 ha2;have hne:(((M:Nat):Int) != 0)=true:=by simpa using hq2
      have ha3:=HA3.out;clear hq1 hM hq2;go_wp2
      go_roundw
      case rel=>exact⟨k+1,x|||P,by omega,by go_num,rfl,hxl,HS2,HBN⟩
      case measure=>simp[intOf];omega
    ·have HS2:Hid ((js.take (k+1)).foldl (hstep s) m=x):=Lq (by rw[HSN.out,if_neg (fun h=>hq1 h.1)])
     have ha1:=HA1.out;obtain⟨M,hM⟩:=ex (P&&&s);rw[hM]at hq1 ha1;have hne:(((M:Nat):Int)==((P:Nat):Int))=false:=by rw[beq_eq_false_iff_ne];omega
     clear hq1 hM;go_wp2
     go_roundw
     case rel=>exact⟨k+1,x,by omega,by go_num,rfl,hx,HS2,HBN⟩
     case measure=>simp[intOf];omega
   ·obtain rfl:k=js.length:=by omega
    have hxx:=HX.out;rw[List.take_length]at hxx;have hge:=fold_ge s js m;rw[hxx]at hge;have hhr:hround js s m=x:=hxx;obtain⟨f,rfl⟩:∃f',f=f'+1:=⟨f-1,by omega⟩
    have hF:=HF.out;unfold hangF at hF;rw[hhr]at hF;have HFF:=Lq hF;clear hxx hhr hF HX HF;by_cases hxm:x=m
    ·subst hxm;have hres:(x==s)=R:=by have:=HFF.out;rwa [if_pos rfl]at this
     have HRS:=Lq hres;clear hres;go_wp2
     go_ret
     exact⟨by rw[←HRS.out];refine ret_bool ?_;rw[Bool.eq_iff_iff];simp;omega,HBW.out⟩
    ·have hres:hangF js s f x=R:=by have:=HFF.out;rwa [if_neg hxm]at this
     have HRS:=Lq hres;have hne:(((x:Nat):Int)==((m:Nat):Int))=false:=by rw[beq_eq_false_iff_ne];omega
     clear hres HFF;go_wp2
     go_roundw
     case rel=>exact⟨x,f,rfl,hx,by omega,HRS,HBW⟩
     case measure=>simp[intOf];omega
def blockE(n:Nat)(js:List (Int×Int))(set:Int):Int:=if inB 1 ((2:Int)^n-1) set then(if hangsB js set.toNat then 0 else 6)else 4
theorem block_any(g n:Nat)(set:Int)(A J:Option Addr)(js:List (Int×Int))(cap capJ B:Nat)(w:World)(hn1:1≤n)(hn8:n≤8)(hj:JsOk n js)(hjl:js.length≤12)(c0:w.cell? ⟨g,0,none⟩=some (.slice A n cap))(c1:w.cell? ⟨g,1,none⟩=some (.slice J js.length capJ))(hR:RdN 2 encSp w B J js)(hB:B≤w.heap.size) :
  Cs 104 #[pT g 0,iv set] w (Rt w (iv (blockE n js set))):=by
 have hg:=lt_of_cell c1;have hsh:=shl1 n (by omega)
 have hp:2≤2^n∧2^n≤256:=⟨by
  have:=Nat.pow_le_pow_right (show 0<2 by decide) hn1
  omega,by
  have:=Nat.pow_le_pow_right (show 0<2 by decide) hn8
  omega⟩
 have hbe:blockE n js set=if inB 1 (((2^n:Nat):Int)-1) set then(if hangsB js set.toNat then 0 else 6)else 4:=by unfold blockE;rw[Int.natCast_pow];rfl
 obtain⟨P,hP⟩:=ex ((2^n:Nat));rw[hP]at hsh hp hbe;obtain⟨hp1,hp2⟩:=hp;have HBE:=Lq hbe;clear hbe hP;have hhc:=fun(s:Nat) (hs:s<256) W (hb:BW w W)=>hangs_any g s n J js capJ B W hs hn8 hj hjl (kC hb c1) (hR.below hb hB) (lT hB hb.size)
 have HHC:=Lq hhc;clear hhc hj hR;cases h1:inB 1 ((P:Int)-1) set
 ·have HO:=Lq (fun g W=>out_oneB h1 g W)
  have HE:Hid (blockE n js set=4):=Lq (by rw[HBE.out,h1];rfl)
  clear h1;go_enter Tryz.func104,Tryz.ntmps104
  go_wp2_with fail;refine(HO.out _ _ (by go_simp)).mono ?_
  rintro e w2 ⟨rfl,hb2⟩;have HB2:=Lq (bT (bA (bR _) _) hb2);clear hb2;go_wp2
  go_ret
  exact⟨by rw[HE.out];rfl,HB2.out⟩
 ·have HO:=Lq (fun g W=>out_oneB h1 g W)
  have hb:=inB_t h1;obtain⟨s,rfl⟩:∃s:Nat,set=s:=⟨set.toNat,by omega⟩
  have hs:s<256:=by omega
  have hbe2:blockE n js s=if hangsB js s then 0 else 6:=by rw[HBE.out,h1];rfl
  have HE:=Lq hbe2;clear h1 hbe2 HBE;cases h2:hangsB js s;all_goals
   have HG:=Lq h2;clear h2;go_enter Tryz.func104,Tryz.ntmps104
   go_wp2_with fail;refine(HO.out _ _ (by go_simp)).mono ?_
   rintro e w2 ⟨rfl,hb2⟩;have hb2':=bT (bA (bR w) (.cells #[iv (s:Int)] 3)) hb2;have HB2:=Lq hb2';clear hb2 hb2';go_wp2_with fail;refine(HHC.out s hs w2 HB2.out).mono ?_;rintro e w3 ⟨he,hb3⟩;rw[HG.out]at he;subst he;have HB3:=Lq (bT HB2.out hb3);clear hb3;go_wp2
   go_ret
   exact⟨by rw[HE.out,HG.out];rfl,HB3.out⟩
end Go.Proofs.YtigcophcpboanaaGreatDoor
namespace Go.Proofs.YtigcophcpboanaaGreatDoor
section
variable{a b:Int}
structure Nd where
 lo:Int
 hi:Int
 set:Nat
 own:Nat
 kids:List Nat
structure Mass where
 alo:Int
 ahi:Int
 slo:Int
 shi:Int
def hasPB(s i:Nat):Bool:=s.testBit i
def partM(own set i:Nat)(p:Prt)(m:Mass):Mass :=
 if hasPB own i then(if hasPB set i then⟨m.alo+p.lo,m.ahi+p.hi,m.slo+p.lo,m.shi+p.hi⟩else⟨m.alo+p.lo,m.ahi+p.hi,m.slo,m.shi⟩)else m
def ownTo(ps:List Prt)(own set:Nat):Nat→Mass
 | 0=>⟨0,0,0,0⟩
 | k+1=>match ps[k]? with
  | some p=>partM own set k p (ownTo ps own set k)
  | none=>ownTo ps own set k
def addM(m y:Mass):Mass:=⟨m.alo+y.alo,m.ahi+y.ahi,m.slo+y.slo,m.shi+y.shi⟩
def capM(lo hi:Int)(m:Mass):Mass×Bool :=
 (⟨max m.alo lo,min m.ahi hi,min m.shi (m.slo+max m.alo lo-m.alo),min m.shi (m.slo+min m.ahi hi-m.alo)⟩,decide (max m.alo lo≤min m.ahi hi))
def upF(N:List Nd)(ps:List Prt)(set:Nat):Nat→Nat→Mass×Bool
 | 0,_=>(⟨0,0,0,0⟩,true)
 | f+1,i=>match N[i]? with
  | none=>(⟨0,0,0,0⟩,true)
  | some nd =>
   let r:=nd.kids.foldl (fun(acc:Mass×Bool) j=>(addM acc.1 (upF N ps set f j).1,acc.2&&(upF N ps set f j).2)) (ownTo ps nd.own set ps.length,true)
   ((capM nd.lo nd.hi r.1).1,r.2&&(capM nd.lo nd.hi r.1).2)
def kidsTo(N:List Nd)(ps:List Prt)(set f:Nat)(nd:Nd)(k:Nat):Mass×Bool :=
 (nd.kids.take k).foldl (fun(acc:Mass×Bool) j=>(addM acc.1 (upF N ps set f j).1,acc.2&&(upF N ps set f j).2)) (ownTo ps nd.own set ps.length,true)
section
variable {N:List Nd} {ps:List Prt} {set f:Nat} {nd:Nd}
theorem kidsTo_zero:kidsTo N ps set f nd 0=(ownTo ps nd.own set ps.length,true):=rfl
theorem kidsTo_succ{k j:Nat}(h:nd.kids[k]?=some j):kidsTo N ps set f nd (k+1)=(addM (kidsTo N ps set f nd k).1 (upF N ps set f j).1,(kidsTo N ps set f nd k).2&&(upF N ps set f j).2):=by unfold kidsTo;obtain⟨hk,rfl⟩:=List.getElem?_eq_some_iff.1 h;rw[List.take_succ_eq_append_getElem hk,List.foldl_append];rfl
theorem upF_at{i:Nat}(h:N[i]?=some nd):upF N ps set (f+1) i=((capM nd.lo nd.hi (kidsTo N ps set f nd nd.kids.length).1).1,(kidsTo N ps set f nd nd.kids.length).2&&(capM nd.lo nd.hi (kidsTo N ps set f nd nd.kids.length).1).2):=by rw[upF,h];unfold kidsTo;rw[List.take_length]
/-! No number is too great. -/
def MB(b:Int)(m:Mass):Prop:=0≤m.alo∧m.alo≤b∧0≤m.ahi∧m.ahi≤b∧-b≤m.slo∧m.slo≤b∧-b≤m.shi∧m.shi≤b
def PsOk(ps:List Prt):Prop:=∀p∈ps,0≤p.lo∧p.lo≤p.hi∧p.hi≤100000
theorem ownTo_bd(hp:PsOk ps)(own set:Nat):∀k:Nat,MB (100000*k) (ownTo ps own set k):=by
 intro k;induction k with
 | zero=>simp[ownTo,MB]
 | succ k ih =>
  unfold ownTo;cases hx:ps[k]? with
  | none =>
   obtain⟨h1,h2,h3,h4,h5,h6,h7,h8⟩:=ih;simp only[MB];omega
  | some p =>
   obtain⟨h1,h2,h3,h4,h5,h6,h7,h8⟩:=ih;have:=hp p (List.mem_of_getElem? hx);simp only[partM];split
   ·split
    ·simp only[MB];omega
    ·simp only[MB];omega
   ·simp only[MB];omega
theorem MB.mono{m:Mass}(h:MB a m)(hab:a≤b):MB b m:=by obtain⟨h1,h2,h3,h4,h5,h6,h7,h8⟩:=h;simp only[MB];omega
theorem addM_bd{m y:Mass}(h:MB a m)(k:MB b y):MB (a+b) (addM m y):=by obtain⟨h1,h2,h3,h4,h5,h6,h7,h8⟩:=h;obtain⟨k1,k2,k3,k4,k5,k6,k7,k8⟩:=k;simp only[MB,addM];omega
def bdF(f:Nat):Int:=10000000*16^f
theorem bdF_succ(f:Nat):bdF (f+1)=16*bdF f:=by unfold bdF;rw[Int.pow_succ];omega
theorem bdF_pos(f:Nat):10000000≤bdF f:=by
 induction f with
 | zero=>simp[bdF]
 | succ f ih=>rw[bdF_succ];omega
theorem bdF_mono{f g:Nat}(h:f≤g):bdF f≤bdF g:=by
 induction g with
 | zero =>
  obtain rfl:f=0:=by omega
  exact Int.le_refl _
 | succ g ih =>
  rcases Nat.lt_or_ge f (g+1)with hlt | hge
  ·have:=ih (by omega)
   have:=bdF_pos g;rw[bdF_succ];omega
  ·obtain rfl:f=g+1:=by omega
   exact Int.le_refl _
theorem bdF_eight:bdF 8=42949672960000000:=by simp[bdF]
theorem capM_bd{lo hi:Int}{m:Mass}(h:MB b m)(h1:0≤lo∧lo≤b)(h2:0≤hi∧hi≤b):MB (2*b) (capM lo hi m).1:=by obtain⟨k1,k2,k3,k4,k5,k6,k7,k8⟩:=h;simp only[MB,capM];omega
def NOk(N:List Nd):Prop:=∀nd∈N,0≤nd.lo∧nd.lo≤1000000∧0≤nd.hi∧nd.hi≤1000000∧nd.own<256∧nd.kids.length≤7
theorem kidsTo_bd(hp:PsOk ps)(hl:ps.length≤8)(hb:∀j,MB (bdF f) (upF N ps set f j).1):∀k:Nat,k≤nd.kids.length→MB (800000+k*bdF f) (kidsTo N ps set f nd k).1:=by
 intro k;induction k with
 | zero =>
  intro _;exact(ownTo_bd hp nd.own set ps.length).mono (by omega)
 | succ k ih =>
  intro hk;rw[kidsTo_succ (gE (show k<nd.kids.length by omega))]
  refine(addM_bd (ih (by omega)) (hb _)).mono ?_
  rw[Int.natCast_succ,Int.add_mul];omega
theorem upF_bd(hp:PsOk ps)(hl:ps.length≤8)(hN:NOk N):∀(f j:Nat),MB (bdF f) (upF N ps set f j).1:=by
 intro f;induction f with
 | zero=>intro j;have:=bdF_pos 0;simp only[upF,MB];omega
 | succ f ih =>
  intro j;cases hx:N[j]? with
  | none=>rw[upF,hx];have:=bdF_pos (f+1);simp only[MB];omega
  | some nd =>
   rw[upF_at hx];obtain⟨h1,h2,h3,h4,h5,h6⟩:=hN nd (List.mem_of_getElem? hx);have hk:=(kidsTo_bd (nd:=nd) hp hl ih nd.kids.length (lr _)).mono (show(800000:Int)+(nd.kids.length:Int)*bdF f≤800000+7*bdF f by
    have:=bdF_pos f;have:=Int.mul_le_mul_of_nonneg_right (show(nd.kids.length:Int)≤7 by omega) (show 0≤bdF f by omega)
    omega)
   have hb:=bdF_pos f;refine(capM_bd hk ⟨h1,by omega⟩ ⟨h3,by omega⟩).mono ?_
   rw[bdF_succ];omega
end
end
end Go.Proofs.YtigcophcpboanaaGreatDoor
namespace Go.Proofs.YtigcophcpboanaaGreatDoor
open Go.RowKit
section
variable{B b g:Nat}{W w1:World}
abbrev ptr(b:Nat):Value:=pT b 0
abbrev upV(gd gs gu gi:Nat):Value:=.func (.func 129) #[] #[ptr gd,ptr gs,ptr gu,ptr gi]
section
variable {W w1 w2:World} {g:Nat}
theorem keepAF{w:World}(h:b<w.heap.size)(o:Nat)(ob:Obj):(w.alloc ob).frozen? ⟨b,o,none⟩=w.frozen? ⟨b,o,none⟩ :=
 (bA (bR w) ob).frozen (p:=⟨b,o,none⟩) h
theorem OnlyAt.refl(W:World)(g:Nat):OnlyAt W W g:=⟨rfl,rfl,rfl,lr _,fun _ _ _=>rfl⟩
theorem OnlyAt.trans(h:OnlyAt W w1 g)(k:OnlyAt w1 w2 g):OnlyAt W w2 g :=
 ⟨k.os.trans h.os,k.tape.trans h.tape,k.output.trans h.output,lT h.size k.size,fun i hi hne=>(k.block i (lz hi h.size) hne).trans (h.block i hi hne)⟩
theorem OnlyAt.alloc(h:OnlyAt W w1 g)(o:Obj):OnlyAt W (w1.alloc o) g:=h.trans (OnlyAt.of_below (bA (bR _) o) g)
theorem OnlyAt.new(h:OnlyAt W w1 g)(hb:W.heap.size≤b)(k:Nat)(u:Value):OnlyAt W (w1.setCell ⟨b,k,none⟩ u) g :=
 ⟨h.os,h.tape,h.output,by simp only[World.size_setCell];exact h.size,fun i hi hne=>(Below.heap_setCell w1 ⟨b,k,none⟩ u i (show i≠b by omega)).trans (h.block i hi hne)⟩
theorem OnlyAt.belowN'(h:OnlyAt W w1 g)(n:Nat):OnlyAt W (w1.drewN n) g:=⟨h.os,h.tape,h.output,h.size,h.block⟩
end
def TabAt(w:World)(B:Nat)(N:List Nd)(bs:List Nat):Prop:=∀(i:Nat) (nd:Nd),N[i]?=some nd→∃b,bs[i]?=some b∧b<B∧w.cell? ⟨b,0,none⟩=some (iv nd.lo)∧w.cell? ⟨b,1,none⟩=some (iv nd.hi)∧w.cell? ⟨b,2,none⟩=some (iv (nd.set:Int))∧w.cell? ⟨b,3,none⟩=some (iv (nd.own:Int)) ∧
 ∃A cap,w.cell? ⟨b,4,none⟩=some (.slice A nd.kids.length cap)∧∀(k j:Nat),nd.kids[k]?=some j→∃bb off bj,A=some ⟨bb,off,none⟩∧bb<B∧bs[j]?=some bj∧w.cell? ⟨bb,off+k,none⟩=some (ptr bj)
theorem TabAt.only{N:List Nd}{bs:List Nat}(h:TabAt W B N bs)(ho:OnlyAt W w1 g)(hB:B≤g):TabAt w1 B N bs:=by
 intro i nd hi;obtain⟨b,h1,h2,c0,c1,c2,c3,A,cap,c4,hk⟩:=h i nd hi;refine⟨b,h1,h2,ho.cell c0 (by omega),ho.cell c1 (by omega),ho.cell c2 (by omega),ho.cell c3 (by omega),A,cap,ho.cell c4 (by omega),fun k j hkj=>?_⟩
 obtain⟨bb,off,bj,e,hb,hj,hc⟩:=hk k j hkj;exact⟨bb,off,bj,e,hb,hj,ho.cell hc (by omega)⟩
structure UpSt(w:World)(B g gd gs gu gi:Nat)(A:Option Addr)(cap:Nat)(ps:List Prt)(set:Nat)(N:List Nd)(bs:List Nat):Prop where
 tab:TabAt w B N bs
 dk:w.cell? ⟨g,0,none⟩=some (.slice A ps.length cap)
 rd:RdN 3 encPrt w B A ps
 cd:w.cell? ⟨gd,0,none⟩=some (ptr g)
 cs:w.cell? ⟨gs,0,none⟩=some (iv (set:Int))
 cu:w.cell? ⟨gu,0,none⟩=some (upV gd gs gu gi)
 gB:g<B
 hB:B≤gi
 nd:gd≠gi
 ns:gs≠gi
 nu:gu≠gi
theorem UpSt.only{gd gs gu gi:Nat}{A:Option Addr}{cap:Nat}{ps:List Prt}{set:Nat}{N:List Nd}{bs:List Nat}(h:UpSt W B g gd gs gu gi A cap ps set N bs)(ho:OnlyAt W w1 gi):UpSt w1 B g gd gs gu gi A cap ps set N bs :=
 ⟨h.tab.only ho h.hB,ho.cell h.dk (by have:=h.gB;have:=h.hB;omega),ho.rdN h.rd h.hB,ho.cell h.cd h.nd,ho.cell h.cs h.ns,ho.cell h.cu h.nu,h.gB,h.hB,h.nd,h.ns,h.nu⟩
structure MassAt(w:World)(b:Nat)(m:Mass):Prop where
 c0:w.cell? ⟨b,0,none⟩=some (iv m.alo)
 c1:w.cell? ⟨b,1,none⟩=some (iv m.ahi)
 c2:w.cell? ⟨b,2,none⟩=some (iv m.slo)
 c3:w.cell? ⟨b,3,none⟩=some (iv m.shi)
 fz:∀o,w.frozen? ⟨b,o,none⟩=false
abbrev massV(m:Mass):Value:=.agg #[iv m.alo,iv m.ahi,iv m.slo,iv m.shi]
def UpPost(m:Mass)(v:Bool)(gi:Nat)(w:World)(e:Ending)(w':World):Prop :=
 e=.returned (massV m)∧OnlyAt w w' gi∧w'.cell? ⟨gi,0,none⟩=some (.bool v)∧w'.frozen? ⟨gi,0,none⟩=false
theorem up_any(B g gd gs gu gi:Nat)(A:Option Addr)(cap:Nat)(ps:List Prt)(set:Nat)(N:List Nd)(bs:List Nat)(hp:PsOk ps)(hl:ps.length≤8)(hN:NOk N)(hs:set<256)(hk:∀(i:Nat) (nd:Nd),N[i]?=some nd→∀j∈nd.kids,j<i):∀(f i:Nat),f≤7→i<f→i<N.length→∀(b:Nat) (v:Bool) (w:World),bs[i]?=some b→UpSt w B g gd gs gu gi A cap ps set N bs→w.cell? ⟨gi,0,none⟩=some (.bool v)→w.frozen? ⟨gi,0,none⟩=false →
  Cs 129 #[ptr b,ptr gd,ptr gs,ptr gu,ptr gi] w (UpPost (upF N ps set f i).1 (v&&(upF N ps set f i).2) gi w):=by
 intro f;induction f with
 | zero=>intro i _ h;omega
 | succ f ih =>
  intro i hf hif hiN b v w hb hst hv hvf;obtain⟨nd,hnd⟩:=gX (l:=N) (i:=i) hiN;obtain⟨b',hb',hbB,n0,n1,n2,n3,A4,cap4,n4,hkid⟩:=hst.tab i nd hnd;rw[hb]at hb';injection hb' with hb'
  subst hb';rw[upF_at hnd];have hno:=hN nd (List.mem_of_getElem? hnd);have hkb:=fun k hk=>kidsTo_bd (N:=N) (set:=set) (nd:=nd) hp hl (upF_bd hp hl hN f) k hk
  have hbf:=bdF_mono (show f≤8 by omega)
  rw[bdF_eight]at hbf;obtain⟨W1,hW1⟩:=ex (w.alloc (.cells #[iv 0,iv 0,iv 0,iv 0] 164));have hb0:BW w W1:=by rw[←hW1];exact bA (bR _) _
  have hm0:MassAt W1 w.heap.size ⟨0,0,0,0⟩:=by rw[←hW1];clear hW1;exact⟨by go_simp,by go_simp,by go_simp,by go_simp,fun o=>by go_simp⟩
  have hgi:=lt_of_cell hv;have HST:=Lq hst;have d1:=kC hb0 hst.cd;have d2:=kC hb0 hst.dk;have s1:=kC hb0 hst.cs;have u1:=kC hb0 hst.cu;have n0:=kC hb0 n0;have n1:=kC hb0 n1;have n3:=kC hb0 n3;have n4:=kC hb0 n4;obtain⟨gm,hgm⟩:=ex w.heap.size;have hne1:gd≠gm:=by rw[←hgm];have:=lt_of_cell hst.cd;omega
  have hne2:g≠gm:=by rw[←hgm];have:=lt_of_cell hst.dk;omega
  have hne3:gs≠gm:=by rw[←hgm];have:=lt_of_cell hst.cs;omega
  have hne4:gu≠gm:=by rw[←hgm];have:=lt_of_cell hst.cu;omega
  have hne5:b≠gm:=by rw[←hgm];have:=hst.hB;omega
  have hne6:gi≠gm:=by rw[←hgm];omega
  have hBm:B≤gm:=by rw[←hgm];have:=hst.hB;omega
  have hlm:gm<W1.heap.size:=by rw[←hgm];exact lt_of_cell hm0.c0
  have hRd:=hst.rd.below hb0 (by have:=hst.hB;omega)
  have v1:=kC hb0 hv;have hbg:b≠gi:=by have:=hst.hB;omega
  have HC:Hid (∀W,OnlyAt W1 W gm→W.cell? ⟨gd,0,none⟩=some (ptr g)∧W.cell? ⟨g,0,none⟩=some (.slice A ps.length cap)∧W.cell? ⟨gs,0,none⟩=some (iv (set:Int))∧W.cell? ⟨gu,0,none⟩=some (upV gd gs gu gi)∧W.cell? ⟨b,0,none⟩=some (iv nd.lo)∧W.cell? ⟨b,1,none⟩=some (iv nd.hi)∧W.cell? ⟨b,3,none⟩=some (iv (nd.own:Int))∧W.cell? ⟨b,4,none⟩=some (.slice A4 nd.kids.length cap4)∧W.cell? ⟨gi,0,none⟩=some (.bool v)):=Lq fun W h=>⟨h.cell d1 hne1,h.cell d2 hne2,h.cell s1 hne3,h.cell u1 hne4,h.cell n0 hne5,h.cell n1 hne5,h.cell n3 hne5,h.cell n4 hne5,h.cell v1 hne6⟩
  have HRD:Hid (∀W,OnlyAt W1 W gm→RdN 3 encPrt W B A ps):=Lq fun W h=>h.rdN hRd hBm
  have HM0:Hid (MassAt W1 gm (ownTo ps nd.own set 0)):=Lq (by rw[←hgm];exact hm0)
  have HIH:=Lq ih;have HKB:=Lq hkb;have HKID:=Lq hkid;have HB0:=Lq hb0;have hob:=fun k=>ownTo_bd hp nd.own set k
  have HOB:=Lq hob;have HP:=Lq hp;have HNN:=Lq hN;have HKK:=Lq (hk i nd hnd);have HNO:=Lq hno;have HHV:=Lq (And.intro hv hvf);clear hob hb0 hm0 hkb hkid ih hst hRd hp hno hv hvf hb hN hk hbB hne1 hne2 hne4 hne5 hne6 v1;go_enter Tryz.func129,Tryz.ntmps129
  go_wp2
  clear hW1 d1 d2 s1 u1 n0 n1 n2 n3 n4;go_loopw [20] (fun vi wr=>∃k:Nat,k≤ps.length∧vi=iv k∧Hid (MassAt wr gm (ownTo ps nd.own set k))∧Hid (OnlyAt W1 wr gm)) (fun vi _=>ps.length-(intOf vi).toNat)
  case atStart=>exact⟨0,Nat.zero_le _,rfl,HM0,Lq (OnlyAt.refl _ _)⟩
  case round =>
   clear HM0;obtain⟨k,hk,rfl,HM,HO⟩:=hrel;obtain⟨d1,d2,s1,u1,n0,n1,n3,n4,v1⟩:=HC.out _ HO.out;by_cases hlt:k<ps.length
   ·obtain⟨x,hx⟩:=gX (l:=ps) (i:=k) hlt;obtain⟨bb,off,rfl,hbb,e0,e1,e2⟩:=prtAt (HRD.out _ HO.out) hx;have hxo:=HP.out x (List.mem_of_getElem? hx);obtain⟨name,lo,hi⟩:=x;simp only at e0 e1 e2 hxo;obtain⟨m0,m1,m2,m3,mf⟩:=HM.out;have hlr:=lt_of_cell m0;have hlb:=lt_of_cell n3;have hls:=lt_of_cell s1;have hmb:=HOB.out k;have hsn:ownTo ps nd.own set (k+1)=partM nd.own set k ⟨name,lo,hi⟩ (ownTo ps nd.own set k):=by rw[ownTo,hx]
    obtain⟨M,hM⟩:=ex (ownTo ps nd.own set k);rw[hM]at hmb hsn m0 m1 m2 m3;obtain⟨ma,mb,mc,md⟩:=M;simp only[MB]at hmb m0 m1 m2 m3;obtain⟨q1,q2,q3,q4,q5,q6,q7,q8⟩:=hmb;have f0:=mf 0;have f1:=mf 1;have f2:=mf 2;have f3:=mf 3;have HMF:=Lq mf;have HSN:=Lq hsn;have hown:=HNO.out.2.2.2.2.1;have hkz:(k:Int)<(ps.length:Int):=by omega
    have hk0:(0:Int)≤(k:Int):=by omega
    clear mf hM hsn hx HM;cases h1:nd.own.testBit k
    ·have hb1:=bit64_f hown h1;have HS2:Hid (ownTo ps nd.own set (k+1)=⟨ma,mb,mc,md⟩):=Lq (by rw[HSN.out];simp[partM,hasPB,h1])
     clear h1;go_wp2
     go_roundw
     case rel=>exact⟨k+1,by omega,by go_num,Lq (by rw[HS2.out];exact⟨keepA m0 _,keepA m1 _,keepA m2 _,keepA m3 _,fun o=>(keepAF hlr o _).trans (HMF.out o)⟩),Lq (HO.out.alloc _)⟩
     case measure=>simp[intOf];omega
    ·have hb1:=bit64_t hown h1;cases h2:set.testBit k
     ·have hb2:=bit64_f hs h2;have HS2:Hid (ownTo ps nd.own set (k+1)=⟨ma+lo,mb+hi,mc,md⟩):=Lq (by rw[HSN.out];simp[partM,hasPB,h1,h2])
      clear h1 h2;go_wp2
      go_roundw
      case rel=>exact⟨k+1,by omega,by go_num,Lq (by rw[HS2.out];exact⟨by go_simp,by go_simp,by go_simp,by go_simp,fun o=>(keepAF (by simpa using hlr) o _).trans (by simp only[World.frozen?_setCell];exact HMF.out o)⟩),Lq (((HO.out.set _ _).set _ _).alloc _)⟩
      case measure=>simp[intOf];omega
     ·have hb2:=bit64_t hs h2;have HS2:Hid (ownTo ps nd.own set (k+1)=⟨ma+lo,mb+hi,mc+lo,md+hi⟩):=Lq (by rw[HSN.out];simp[partM,hasPB,h1,h2])
      clear h1 h2;go_wp2
      go_roundw
      case rel=>exact⟨k+1,by omega,by go_num,Lq (by rw[HS2.out];exact⟨by go_simp,by go_simp,by go_simp,by go_simp,fun o=>(keepAF (by simpa using hlr) o _).trans (by simp only[World.frozen?_setCell];exact HMF.out o)⟩),Lq (((((HO.out.set _ _).set _ _).set _ _).set _ _).alloc _)⟩
      case measure=>simp[intOf];omega
   ·obtain rfl:k=ps.length:=by omega
    obtain⟨F,hF⟩:=ex (bdF f);have hFp:=bdF_pos f;rw[hF]at hbf hFp;have hkb2:∀k,k≤nd.kids.length→MB (800000+7*F) (kidsTo N ps set f nd k).1:=fun k hk=>(HKB.out k hk).mono (by
     rw[hF];have h7:=HNO.out.2.2.2.2.2;have:=Int.mul_le_mul_of_nonneg_right (show(k:Int)≤7 by omega) (show 0≤F by omega)
     omega)
    have hub:∀j,MB F (upF N ps set f j).1:=fun j=>by rw[←hF];exact upF_bd HP.out hl HNN.out f j
    have HKB2:=Lq hkb2;have HUB:=Lq hub;have hO2:OnlyAt w wr gi:=OnlyAt.of_below (HO.out.below HB0.out (by omega)) gi
    have HO2:=Lq hO2;have HV2:Hid (wr.cell? ⟨gi,0,none⟩=some (.bool (v&&(kidsTo N ps set f nd 0).2))∧wr.frozen? ⟨gi,0,none⟩=false):=Lq ⟨by rw[kidsTo_zero];simpa using v1,(HO.out.below HB0.out (by omega)).frozen (p:=⟨gi,0,none⟩) hgi |>.trans HHV.out.2⟩
    have HM2:Hid (MassAt wr gm (kidsTo N ps set f nd 0).1):=Lq HM.out;have hkl:=HNO.out.2.2.2.2.2;clear hF hkb2 hub hO2 HM;go_wp2
    clear d1 d2 s1 u1 n0 n1 n3 n4 v1;obtain⟨wa,hwa⟩:∃wa:World,wa=wr:=⟨_,rfl⟩;subst hwa;go_loopw [80] (fun vi wr=>∃k:Nat,k≤nd.kids.length∧vi=iv k∧Hid (MassAt wr gm (kidsTo N ps set f nd k).1)∧Hid (OnlyAt w wr gi)∧Hid (wr.cell? ⟨gi,0,none⟩=some (.bool (v&&(kidsTo N ps set f nd k).2))∧wr.frozen? ⟨gi,0,none⟩=false)) (fun vi _=>nd.kids.length-(intOf vi).toNat)
    case atStart=>exact⟨0,Nat.zero_le _,rfl,HM2,HO2,HV2⟩
    case round =>
     clear HM2 HO2 HV2;obtain⟨k,hk,rfl,HM,HO2,HV2⟩:=hrel;have hst2:=HST.out.only HO2.out;have u1:=hst2.cu;have HST2:=Lq hst2;obtain⟨m0,m1,m2,m3,mf⟩:=HM.out;have HMF:=Lq mf;have hmb:=HKB2.out k hk;clear mf hst2;by_cases hlt:k<nd.kids.length
     ·obtain⟨j,hj⟩:=gX (l:=nd.kids) (i:=k) hlt;obtain⟨bb,off,bj,rfl,hbb,hbj,hcp⟩:=HKID.out k j hj;have hcp:=HO2.out.cell hcp (by have:=HST.out.hB;omega)
      have hji:j<i:=HKK.out j (List.mem_of_getElem? hj);have hcall:=HIH.out j (by omega) (by omega) (by omega) bj _ wr hbj HST2.out HV2.out.1 HV2.out.2
      have hsn:=kidsTo_succ (N:=N) (ps:=ps) (set:=set) (f:=f) hj;have hub:=HUB.out j;obtain⟨V0,hV0⟩:=ex ((v&&(kidsTo N ps set f nd k).2));have hV1:(v&&(kidsTo N ps set f nd (k+1)).2)=(V0&&(upF N ps set f j).2):=by rw[hsn,←hV0,Bool.and_assoc]
      have hsn1:(kidsTo N ps set f nd (k+1)).1=addM (kidsTo N ps set f nd k).1 (upF N ps set f j).1:=by rw[hsn]
      rw[hV0]at hcall;obtain⟨K,hK⟩:=ex ((kidsTo N ps set f nd k).1);obtain⟨Y,hY⟩:=ex ((upF N ps set f j).1);rw[hY]at hcall hsn1 hub;rw[hK]at hsn1 hmb m0 m1 m2 m3;obtain⟨ka,kb,kc,kd⟩:=K;obtain⟨ya,yb,yc,yd⟩:=Y;simp only[MB]at hmb hub m0 m1 m2 m3;obtain⟨q1,q2,q3,q4,q5,q6,q7,q8⟩:=hmb;obtain⟨r1,r2,r3,r4,r5,r6,r7,r8⟩:=hub;have HCALL:=Lq hcall;have HS1:=Lq hsn1;have HV1:=Lq hV1;have hgml:=lt_of_cell m0;have hgw:w.heap.size≤gm:=by omega
      have hgg:gi≠gm:=by omega
      have hkz:(k:Int)<(nd.kids.length:Int):=by omega
      have hk0:(0:Int)≤(k:Int):=by omega
      clear hcall hsn hsn1 hV1 hV0 hK hY hj hbj;go_wp2_with fail;refine HCALL.out.mono ?_;rintro e w5 ⟨rfl,ho5,hv5,hf5⟩;have m0:=ho5.cell m0 (by omega)
      have m1:=ho5.cell m1 (by omega)
      have m2:=ho5.cell m2 (by omega)
      have m3:=ho5.cell m3 (by omega)
      have hg5:=lt_of_cell m0;have hMF5:∀o,w5.frozen? ⟨gm,o,none⟩=false:=fun o=>(ho5.frozen o hgml (by omega)).trans (HMF.out o)
      have f0:=hMF5 0;have f1:=hMF5 1;have f2:=hMF5 2;have f3:=hMF5 3;have HMF5:=Lq hMF5;have HO5:=Lq (HO2.out.trans ho5);have HV5:=Lq (And.intro hv5 hf5);have hgi5:=lt_of_cell hv5;clear hMF5 ho5 hv5 hf5 HCALL u1 hcp;go_wp2
      go_roundw
      case rel=>exact⟨k+1,by omega,by go_num,Lq (by rw[HS1.out];exact⟨by go_simp;rfl,by go_simp;rfl,by go_simp;rfl,by go_simp;rfl,fun o=>(keepAF (by simpa using hg5) o _).trans (by simp only[World.frozen?_setCell];exact HMF5.out o)⟩),Lq (((((HO5.out.new hgw _ _).new hgw _ _).new hgw _ _).new hgw _ _).alloc _),Lq ⟨by rw[HV1.out];exact keepA (keepSet (keepSet (keepSet (keepSet HV5.out.1 hgg) hgg) hgg) hgg) _,(keepAF (by simpa using hgi5) 0 _).trans (by simp only[World.frozen?_setCell];exact HV5.out.2)⟩⟩
      case measure=>simp[intOf];omega
     ·obtain rfl:k=nd.kids.length:=by omega
      obtain⟨V0,hV0⟩:=ex ((v&&(kidsTo N ps set f nd nd.kids.length).2));have hv2:=HV2.out;rw[hV0]at hv2;have hfin:∀(m:Mass) (vv:Bool) (w':World),m=(capM nd.lo nd.hi (kidsTo N ps set f nd nd.kids.length).1).1→vv=(V0&&(capM nd.lo nd.hi (kidsTo N ps set f nd nd.kids.length).1).2)→OnlyAt w w' gi→w'.cell? ⟨gi,0,none⟩=some (.bool vv)→w'.frozen? ⟨gi,0,none⟩=false →
        UpPost (capM nd.lo nd.hi (kidsTo N ps set f nd nd.kids.length).1).1 (v&&((kidsTo N ps set f nd nd.kids.length).2&&(capM nd.lo nd.hi (kidsTo N ps set f nd nd.kids.length).1).2)) gi w (.returned (massV m)) w':=by
       intro m vv w' h1 h2 h3 h4 h5;subst h1 h2;exact⟨rfl,h3,by rw[h4,←hV0,Bool.and_assoc],h5⟩
      have HFIN:=Lq hfin;clear hfin;obtain⟨K,hK⟩:=ex ((kidsTo N ps set f nd nd.kids.length).1);rw[hK]at hmb m0 m1 m2 m3;have HK:=Lq hK;obtain⟨ka,kb,kc,kd⟩:=K;simp only[MB]at hmb m0 m1 m2 m3;obtain⟨q1,q2,q3,q4,q5,q6,q7,q8⟩:=hmb;have hno:=HNO.out;obtain⟨o1,o2,o3,o4,_,_⟩:=hno;have n0:=HO2.out.cell n0 hbg;have n1:=HO2.out.cell n1 hbg;obtain⟨hv2,hf2⟩:=hv2;have hmax:(if ka<nd.lo then nd.lo else ka)=max ka nd.lo:=by split<;>omega
      have hmin:(if nd.hi<kb then nd.hi else kb)=min kb nd.hi:=by split<;>omega
      obtain⟨L,hL⟩:=ex (max ka nd.lo);obtain⟨U,hU⟩:=ex (min kb nd.hi);have l1:0≤L∧L≤400000000000000000:=by omega
      have l2:0≤U∧U≤400000000000000000:=by omega
      obtain⟨l1,l1'⟩:=l1;obtain⟨l2,l2'⟩:=l2;rw[hL]at hmax;rw[hU]at hmin;have hcap:(capM nd.lo nd.hi ⟨ka,kb,kc,kd⟩)=(⟨L,U,min kd (kc+L-ka),min kd (kc+U-ka)⟩,decide (L≤U)):=by unfold capM;simp only[hL,hU]
      have HCAP:=Lq hcap;have q5':-400000000000000000≤kc:=by omega
      have q6':kc≤400000000000000000:=by omega
      have q2':ka≤400000000000000000:=by omega
      have q7':-400000000000000000≤kd:=by omega
      have q8':kd≤400000000000000000:=by omega
      have hmn1:(if kc+L-ka<kd then kc+L-ka else kd)=min kd (kc+L-ka):=by split<;>omega
      have hmn2:(if kc+U-ka<kd then kc+U-ka else kd)=min kd (kc+U-ka):=by split<;>omega
      clear hK hV0 hL hU hcap o1 o2 o3 o4 q3 q4 q5 q6 q2 q7 q8;have f0:=HMF.out 0;have f1:=HMF.out 1;have f2:=HMF.out 2;have f3:=HMF.out 3;go_wp2
      go_quiet (fail)
      have HN:=Lq (HO2.out.belowN' nq);have m0:(wr.drewN nq).cell? ⟨gm,0,none⟩=some (iv ka):=m0;have m1:(wr.drewN nq).cell? ⟨gm,1,none⟩=some (iv kb):=m1;have m2:(wr.drewN nq).cell? ⟨gm,2,none⟩=some (iv kc):=m2;have m3:(wr.drewN nq).cell? ⟨gm,3,none⟩=some (iv kd):=m3;have f0:(wr.drewN nq).frozen? ⟨gm,0,none⟩=false:=f0;have f1:(wr.drewN nq).frozen? ⟨gm,1,none⟩=false:=f1;have f2:(wr.drewN nq).frozen? ⟨gm,2,none⟩=false:=f2;have f3:(wr.drewN nq).frozen? ⟨gm,3,none⟩=false:=f3;have hv2:(wr.drewN nq).cell? ⟨gi,0,none⟩=some (.bool V0):=hv2;have hf2:(wr.drewN nq).frozen? ⟨gi,0,none⟩=false:=hf2;have HMF2:Hid (∀o,(wr.drewN nq).frozen? ⟨gm,o,none⟩=false):=Lq HMF.out;have hgg:gi≠gm:=by omega
      clear hmax hmin u1 HMF HM HO2 HV2 HST2 n0 n1;generalize wr.drewN nq=wz at *;have hgw:w.heap.size≤gm:=by omega
      cases V0
      ·go_wp2
       refine bodyPost_ret (v:=massV ⟨L,U,min kd (kc+L-ka),min kd (kc+U-ka)⟩) (by simp[results,Tryz.results129,go_sem,m0,m1,m2,m3]) rfl ?_
       exact HFIN.out _ false _ (by rw[HK.out,HCAP.out]) (by rw[HK.out,HCAP.out];rfl) (((((HN.out.set 0 _).new hgw 0 _).new hgw 1 _).new hgw 2 _).new hgw 3 _) (keepSet (keepSet (keepSet (keepSet (World.cell?_setCell_same _ ⟨gi,0,none⟩ _ hv2) hgg) hgg) hgg) hgg) (by simp only[World.frozen?_setCell];exact hf2)
      ·go_wp2
       refine bodyPost_ret (v:=massV ⟨L,U,min kd (kc+L-ka),min kd (kc+U-ka)⟩) (by simp[results,Tryz.results129,go_sem,m0,m1,m2,m3]) rfl ?_
       exact HFIN.out _ (decide (L≤U)) _ (by rw[HK.out,HCAP.out]) (by rw[HK.out,HCAP.out];rfl) (((((HN.out.set 0 _).new hgw 0 _).new hgw 1 _).new hgw 2 _).new hgw 3 _) (keepSet (keepSet (keepSet (keepSet (World.cell?_setCell_same _ ⟨gi,0,none⟩ _ hv2) hgg) hgg) hgg) hgg) (by simp only[World.frozen?_setCell];exact hf2)
end
end Go.Proofs.YtigcophcpboanaaGreatDoor
