/- The law's own hull: its values. No program is named here. Awake. Awake and BlockKnown .. -/
import Derived.Test.YtigcophcpboanaaGreatDoorM8
set_option maxRecDepth 1000000
set_option maxHeartbeats 0
namespace Go.Proofs.YtigcophcpboanaaGreatDoor
open Go.RowKit
def treeA:List Nd:=treeTo ((allWB [] 4).map ndOf) 1
def treeB:List Nd:=treeTo ((allWB wgh7 4).map ndOf) 2
theorem tree_none{N:List Nd}(h:IsTree hul7 [] N):N=treeA:=by
 obtain⟨X,hp,_,rfl⟩:=h;have e:allWB [] hul7.ps.length=[⟨15,0,400000⟩]:=by kernel_rfl
 rw[e]at hp;have hX:=List.perm_singleton.1 hp.symm;rw[hX];have e2:allWB [] 4=[⟨15,0,400000⟩]:=e;unfold treeA;rw[e2];rfl
theorem tree_one{N:List Nd}(h:IsTree hul7 wgh7 N):N=treeB:=by
 obtain⟨X,hp,hs,rfl⟩:=h;have e:allWB wgh7 hul7.ps.length=[⟨12,350,360⟩,⟨15,0,400000⟩]:=by kernel_rfl
 rw[e]at hp;have e2:allWB wgh7 4=[⟨12,350,360⟩,⟨15,0,400000⟩]:=e;have hX:X=[⟨12,350,360⟩,⟨15,0,400000⟩]:=by
  have hl:=hp.length_eq
  match X,hl with
  | [a,b],_ =>
   have ha:=hp.symm.subset (List.mem_cons_self (a:=a) (l:=[b]));have hb:=hp.symm.subset (show b∈[a,b]by simp)
   have hc:=hp.subset (show(⟨12,350,360⟩:Wgh)∈[(⟨12,350,360⟩:Wgh),⟨15,0,400000⟩]by simp)
   have hd:=hp.subset (show(⟨15,0,400000⟩:Wgh)∈[(⟨12,350,360⟩:Wgh),⟨15,0,400000⟩]by simp)
   simp only[List.pairwise_cons,List.mem_cons,List.not_mem_nil,or_false,forall_eq]at hs;have hs:=hs.1;simp only[List.mem_cons,List.not_mem_nil,or_false]at ha hb hc hd;rcases ha with rfl | rfl
   ·rcases hb with rfl | rfl
    ·rcases hd with hd | hd<;>(injection hd with hd;exact absurd hd (by decide))
    ·rfl
   ·rcases hb with rfl | rfl
    ·exact absurd hs (by decide)
    ·rcases hc with hd | hd<;>(injection hd with hd;exact absurd hd (by decide))
 rw[hX];unfold treeB;rw[e2];rfl
theorem pre_none:openPre hul7 []=0:=by decide +kernel
theorem pre_one:openPre hul7 wgh7=0:=by decide +kernel
def wts(a b c d:Int)(i:Nat):Int:=match i with
 | 0=>a
 | 1=>b
 | 2=>c
 | _=>d
theorem feas_none:Feas hul7 []:=by
 refine⟨wts 100 200 50 300,fun i p hp=>?_,fun x hx=>by cases hx⟩
 match i,hp with
 | 0,hp=>injection hp with hp;subst hp;decide
 | 1,hp=>injection hp with hp;subst hp;decide
 | 2,hp=>injection hp with hp;subst hp;decide
 | 3,hp=>injection hp with hp;subst hp;decide
theorem feas_one:Feas hul7 wgh7:=by
 refine⟨wts 100 200 50 300,fun i p hp=>?_,fun x hx=>?_⟩
 ·match i,hp with
  | 0,hp=>injection hp with hp;subst hp;decide
  | 1,hp=>injection hp with hp;subst hp;decide
  | 2,hp=>injection hp with hp;subst hp;decide
  | 3,hp=>injection hp with hp;subst hp;decide
 ·rw[wgh7,List.mem_singleton]at hx;subst hx;decide +kernel
theorem openE_none:openE hul7 []=0:=by unfold openE;rw[if_pos pre_none,if_pos feas_none]
theorem openE_one:openE hul7 wgh7=0:=by unfold openE;rw[if_pos pre_one,if_pos feas_one]
theorem canF_mono(h:Hul)(N:List Nd)(b:Nat){x y:Nat}(hxy:x≤y)(hc:canF h N b x=true):canF h N b y=true:=by unfold canF at hc ⊢;rw[List.any_eq_true]at hc ⊢;obtain⟨C,hC,hf⟩:=hc;refine⟨C,hC, ?_⟩;unfold fitsCut at hf ⊢;simp only[Bool.not_eq_true',anyToB,List.any_eq_false]at hf ⊢;intro i hi;have:=hf i hi;simp only[decide_eq_true_eq]at this ⊢;omega
theorem lightW_is{h:Hul}{N:List Nd}{b v:Nat}(hv:v+1≤h.ps.length*100000+1)(h1:canF h N b (v+1:Nat)=true)(h0:canF h N b v=false):lightW h N b=v+1:=by
 have hl:=searchF_least (pred:=fun k=>canF h N b k) (fun a c hac hp=>canF_mono h N b hac hp) (h.ps.length*100000+2) 0 (h.ps.length*100000+1) (Nat.zero_le _) (by omega) (fun k hk=>by omega)
 obtain⟨_,l2,l3,l4⟩:=hl;have e:searchF (fun k=>canF h N b k) (h.ps.length*100000+2) 0 (h.ps.length*100000+1)=lightW h N b:=rfl
 rw[e]at l2 l3 l4;obtain⟨R,hR⟩:=ex (lightW h N b);rw[hR]at l2 l3 l4 ⊢;rcases Nat.lt_trichotomy R (v+1)with hlt | heq | hgt
 ·have hp:=l4 (by omega)
  have:=canF_mono h N b (show R≤v by omega) hp
  rw[h0]at this;cases this
 ·exact heq
 ·have:=l3 (v+1) hgt;rw[h1]at this;cases this
theorem val_few1:fewOf hul7 treeB=(2,[0,0,1,1,0,0,0,0]):=by kernel_rfl
theorem val_bad0b:badAt hul7 treeA (blkTo (cut8 [0,0,1,1]) 4) (manyTo (cut8 [0,0,1,1]) 4)=1:=by kernel_rfl
theorem val_light2:lightW hul7 treeA 2=390:=lightW_is (v:=389) (by decide) (by kernel_rfl) (by kernel_rfl)
theorem val_spans:spansV hul7 treeB 4=[(100,120),(200,220),(50,60),(300,310)]:=by kernel_rfl
theorem val_lim:limL treeB 12 (mostV hul7 treeB 12) hul7.ps 4=[100,200,50,310]:=by kernel_rfl
theorem val_pull1:pullV hul7 (leastV hul7 treeB 12) (mostV hul7 treeB 12)=(175,216):=by kernel_rfl
end Go.Proofs.YtigcophcpboanaaGreatDoor
namespace Go.Proofs.YtigcophcpboanaaGreatDoor
open Go.RowKit Go.Shelf
section
variable{x:Int}{L b:Nat}{A AL J:Option Addr}{w:World}
attribute [local go_sem] Oper.semAt_some
theorem weights7(hH:HulRd w w.heap.size hul7 A 4 J 3)(hL:RdN 3 encWgh w w.heap.size AL wgh7) :
  Cs 34 #[hv hul7 A 4 J 3,.slice AL 1 1] w fun e w'=>BW w w'∧∃A cap,e=.returned (.tuple #[.slice A 4 cap,iv 0])∧RdN 2 encSp w' w'.heap.size A [(100,120),(200,220),(50,60),(300,310)]:=by
 refine(weights_any hul7 A J w.heap.size 4 3 AL wgh7 1 w hH hL (by decide) (lr _)).mono ?_
 rintro e w' ⟨hb,h | ⟨_,_,_,N,A',cap',hN,rfl,ho⟩⟩
 ·exact absurd openE_one h.1
 ·refine⟨hb,A',cap',rfl, ?_⟩;rw[tree_one hN]at ho;have:(spansV hul7 treeB hul7.ps.length)=[(100,120),(200,220),(50,60),(300,310)]:=val_spans;rw[this]at ho;obtain⟨A2,cap2,e2,hr,_⟩:=own_rdN (xs:=[((100:Int),(120:Int)),(200,220),(50,60),(300,310)]) encSp_len ho;injection e2 with e2 _ _
  subst e2;exact hr
theorem pull7(hH:HulRd w w.heap.size hul7 A 4 J 3)(hL:RdN 3 encWgh w w.heap.size AL wgh7) :
  Cs 12 #[hv hul7 A 4 J 3,.slice AL 1 1,iv 12] w fun e w'=>BW w w'∧e=.returned (.tuple #[.agg #[iv 175,iv 216],iv 0]):=by
 refine(pull_any hul7 A J w.heap.size 4 3 AL wgh7 1 12 w hH hL (by decide) (lr _)).mono ?_
 rintro e w' ⟨hb,h | ⟨_,_,_,_,N,hN,rfl⟩⟩
 ·exact absurd (by unfold enterE;rw[if_pos openE_one];kernel_rfl) h.1
 ·refine⟨hb, ?_⟩;rw[tree_one hN];have:pullV hul7 (leastV hul7 treeB (12:Int).toNat) (mostV hul7 treeB (12:Int).toNat)=(175,216):=val_pull1;rw[this]
theorem pull75(hH:HulRd w w.heap.size hul7 A 4 J 3) :
  Cs 12 #[hv hul7 A 4 J 3,.slice none 0 0,iv 5] w fun e w'=>BW w w'∧e=.returned (.tuple #[.agg #[iv 0,iv 0],iv 6]):=by
 have he:enterE hul7 [] 5=6:=by unfold enterE;rw[if_pos openE_none];kernel_rfl
 refine(pull_any hul7 A J w.heap.size 4 3 none [] 0 5 w hH RdN.nil (by decide) (lr _)).mono ?_
 rintro e w' ⟨hb,⟨_,rfl⟩ | h⟩
 ·exact⟨hb,by rw[he]⟩
 ·exact absurd h.1 (by rw[he];decide)
theorem heaviest7(hH:HulRd w w.heap.size hul7 A 4 J 3)(hL:RdN 3 encWgh w w.heap.size AL wgh7) :
  Cs 37 #[hv hul7 A 4 J 3,.slice AL 1 1,iv 12] w fun e w'=>BW w w'∧∃A cap,e=.returned (.tuple #[.slice A 4 cap,iv 0])∧Rd1 iv w' w'.heap.size A [100,200,50,310]:=by
 refine(heaviest_any hul7 A J w.heap.size 4 3 AL wgh7 1 12 w hH hL (by decide) (lr _)).mono ?_
 rintro e w' ⟨hb,h | ⟨_,_,_,_,N,A',cap',hN,rfl,ho⟩⟩
 ·exact absurd (by unfold enterE;rw[if_pos openE_one];kernel_rfl) h.1
 ·refine⟨hb,A',cap',rfl, ?_⟩;rw[tree_one hN]at ho;have:limL treeB (12:Int).toNat (mostV hul7 treeB (12:Int).toNat) hul7.ps hul7.ps.length=[100,200,50,310]:=val_lim;rw[this]at ho;exact own_rdP ho rfl
theorem bad70{AN:Option Addr}{capN:Nat}{ns:List Int}{v:Int}(hc:cutOkTo ns ns.length=true)(hl:ns.length=4)(hva:badAt hul7 treeA (blkTo (cut8 ns) 4) (manyTo (cut8 ns) 4)=v)(hH:HulRd w w.heap.size hul7 A 4 J 3)(hN:Rd1 iv w w.heap.size AN ns) :
  Cs 38 #[hv hul7 A 4 J 3,.slice none 0 0,.slice AN 4 capN] w fun e w'=>BW w w'∧e=.returned (.tuple #[iv v,iv 0]):=by
 have hb:=bad_any hul7 A J w.heap.size 4 3 none [] 0 AN ns capN w hH RdN.nil (by decide) hN (by rw[hl];decide) (lr _)
 rw[hl]at hb;refine hb.mono ?_;rintro e w' ⟨hb,h | ⟨_,_,_,h | h | ⟨_,_,N,hN,rfl⟩⟩⟩
 ·exact absurd openE_none h.1
 ·exact absurd hl h.1
 ·rw[hc]at h;exact absurd h.2.1 (by decide)
 ·refine⟨hb, ?_⟩;rw[tree_none hN];have:badAt hul7 treeA (blkTo (cut8 ns) hul7.ps.length) (manyTo (cut8 ns) hul7.ps.length)=v:=hva;rw[this]
theorem fewest7(hH:HulRd w w.heap.size hul7 A 4 J 3)(hL:RdN 3 encWgh w w.heap.size AL wgh7) :
  Cs 39 #[hv hul7 A 4 J 3,.slice AL 1 1] w fun e w'=>BW w w'∧∃A cap,e=.returned (.tuple #[.slice A 4 cap,iv 0])∧Rd1 iv w' w'.heap.size A [0,0,1,1]:=by
 refine(fewest_any hul7 A J w.heap.size 4 3 AL wgh7 1 w hH hL (by decide) (lr _)).mono ?_
 rintro e w' ⟨hb,h | ⟨_,_,_,N,hN,h | ⟨_,A',cap',rfl,ho⟩⟩⟩
 ·exact absurd openE_one h.1
 ·rw[tree_one hN,val_few1]at h;exact absurd h.1 (by decide)
 ·refine⟨hb,A',cap',rfl, ?_⟩;rw[tree_one hN,val_few1]at ho;exact own_rdP (xs:=[(0:Int),0,1,1]) ho rfl
theorem count7{F:Nat→Int×Int}(hb1:1≤b∧b≤8)(hL:lightW hul7 treeA b=L)(hl:L≤400000)(hF:F L=(x,0)){e:Ending}{w':World}(h:CountOne F hul7 [] b w e w'):BW w w'∧e=.returned (.tuple #[iv x,iv 0]):=by
 obtain⟨hb,h | h | ⟨_,_,_,_,_,N,hN,h | h⟩⟩:=h
 ·exact absurd openE_none h.1
 ·exact absurd (by omega) h.2.1
 ·rw[tree_none hN,Int.toNat_natCast,hL]at h;exact absurd h.1 (by simp[hul7];omega)
 ·rw[tree_none hN,Int.toNat_natCast,hL,hF]at h;exact⟨hb,h.2⟩
theorem winch7(hb1:1≤b∧b≤8)(hL:lightW hul7 treeA b=L)(hl:L≤400000)(hF:winchOf hul7 L=(x,0))(hH:HulRd w w.heap.size hul7 A 4 J 3) :
  Cs 40 #[hv hul7 A 4 J 3,.slice none 0 0,iv b] w fun e w'=>BW w w'∧e=.returned (.tuple #[iv x,iv 0]) :=
 (winch_any hul7 A J w.heap.size 4 3 none [] 0 b w hH RdN.nil (by decide) (lr _)).mono fun e w' h=>count7 hb1 hL hl hF h
theorem sand7(hb1:1≤b∧b≤8)(hL:lightW hul7 treeA b=L)(hl:L≤400000)(hF:sandOf hul7 L=(x,0))(hH:HulRd w w.heap.size hul7 A 4 J 3) :
  Cs 41 #[hv hul7 A 4 J 3,.slice none 0 0,iv b] w fun e w'=>BW w w'∧e=.returned (.tuple #[iv x,iv 0]) :=
 (sand_any hul7 A J w.heap.size 4 3 none [] 0 b w hH RdN.nil (by decide) (lr _)).mono fun e w' h=>count7 hb1 hL hl hF h
end
section
variable{A:Option Addr}{W W':World}
attribute [local go_sem] Oper.semAt_some
theorem HulRd.on{h:Hul}{J:Option Addr}{cap capJ:Nat}(H:HulRd W W.heap.size h A cap J capJ)(hb:BW W W'):HulRd W' W'.heap.size h A cap J capJ :=
 ⟨(H.ps.below hb (lr _)).more hb.size,(H.js.below hb (lr _)).more hb.size,H.pl,H.pm,H.jl,H.jm,H.nm⟩
theorem RdN.on{α:Type}{k:Nat}{encs:α→List Value}{xs:List α}(H:RdN k encs W W.heap.size A xs)(hb:BW W W'):RdN k encs W' W'.heap.size A xs:=(H.below hb (lr _)).more hb.size
theorem Rd1.on{α:Type}{enc:α→Value}{xs:List α}(H:Rd1 enc W W.heap.size A xs)(hb:BW W W'):Rd1 enc W' W'.heap.size A xs:=(H.below hb (lr _)).more hb.size
theorem newInts(w:World)(xs:List Int):Rd1 iv (w.alloc (.cells (xs.map iv).toArray 3)) (w.alloc (.cells (xs.map iv).toArray 3)).heap.size (some ⟨w.heap.size,0,none⟩) xs:=by
 intro i x hx;refine⟨w.heap.size,0,rfl,by simp, ?_⟩
 rw[(Blk.new w 3 _).cell,Nat.zero_add];simp[hx]
theorem newSp(w:World)(a b c d e f g h:Int):RdN 2 encSp (w.alloc (.cells #[iv a,iv b,iv c,iv d,iv e,iv f,iv g,iv h] 36)) (w.alloc (.cells #[iv a,iv b,iv c,iv d,iv e,iv f,iv g,iv h] 36)).heap.size (some ⟨w.heap.size,0,none⟩) [(a,b),(c,d),(e,f),(g,h)] :=
 Blk.rdNb encSp_len (xs:=[(a,b),(c,d),(e,f),(g,h)]) (Blk.new w 36 _) (by simp)
theorem newI(w:World)(a b c d:Int):Rd1 iv (w.alloc (.cells #[iv a,iv b,iv c,iv d] 3)) (w.alloc (.cells #[iv a,iv b,iv c,iv d] 3)).heap.size (some ⟨w.heap.size,0,none⟩) [a,b,c,d]:=newInts w [a,b,c,d]
theorem spansSame(A A':Option Addr)(l:List (Int×Int))(cap cap':Nat)(w:World)(hR:RdN 2 encSp w w.heap.size A l)(hR':RdN 2 encSp w w.heap.size A' l)(hl:l.length=4) :
  Cs 42 #[.slice A 4 cap,.slice A' 4 cap'] w (Rt w (.bool true)):=by
 have h:=spans_any A A' l l w.heap.size cap cap' w hR hR' (by omega) (by omega) (lr _)
 rw[hl]at h;exact h.mono fun e w' hp=>⟨by rw[hp.1];simp,hp.2⟩
theorem intsSame(A A':Option Addr)(l:List Int)(cap cap':Nat)(w:World)(hR:Rd1 iv w w.heap.size A l)(hR':Rd1 iv w w.heap.size A' l)(hl:l.length=4) :
  Cs 32 #[.slice A 4 cap,.slice A' 4 cap'] w (Rt w (.bool true)):=by
 have h:=ints_any A A' l l w.heap.size cap cap' w hR hR' (by omega) (by omega) (lr _)
 rw[hl]at h;exact h.mono fun e w' hp=>⟨by rw[hp.1];simp,hp.2⟩
theorem awake_any(w0:World):Cs 6 #[] w0 (Rt w0 (.bool true)):=by
 have HH:=Lq hull_any;have HG:=Lq weighed_any;go_enter Tryz.func6,Tryz.ntmps6
 go_wp2_with fail;refine(HH.out _).mono ?_;rintro e w1 ⟨hb1,A1,J1,rfl,hH1⟩;have S1:Hid (BW w0 w1):=Lq hb1;clear hb1;have H1:=Lq hH1;clear hH1;go_wp2_with fail;refine(HG.out _).mono ?_;rintro e w2 ⟨hb2,L1,rfl,hL1⟩;have S2:Hid (BW w1 w2):=Lq hb2;clear hb2;have G1:=Lq hL1;clear hL1;go_wp2_with fail;refine(weights7 (H1.out.on S2.out) G1.out).mono ?_;rintro e w3 ⟨hb3,R1,cp1,rfl,hR1⟩;have S3:Hid (BW w2 w3):=Lq hb3;clear hb3;have K1:=Lq hR1;clear hR1;go_wp2_with fail;refine(HH.out _).mono ?_;rintro e w4 ⟨hb4,A2,J2,rfl,hH2⟩;have S4:Hid (BW w3 w4):=Lq hb4;clear hb4;have H2:=Lq hH2;clear hH2;go_wp2_with fail;refine(HG.out _).mono ?_;rintro e w5 ⟨hb5,L2,rfl,hL2⟩;have S5:Hid (BW w4 w5):=Lq hb5;clear hb5;have G2:=Lq hL2;clear hL2;go_wp2_with fail;refine(pull7 (H2.out.on S5.out) G2.out).mono ?_;rintro e w6 ⟨hb6,rfl⟩;have S6:Hid (BW w5 w6):=Lq hb6;clear hb6;go_wp2_with fail;refine(HH.out _).mono ?_;rintro e w7 ⟨hb7,A3,J3,rfl,hH3⟩;have S7:Hid (BW w6 w7):=Lq (bT (bA (bR w6) _) hb7);have BB:Hid (Blk w7 w6.heap.size 36 #[iv 175,iv 216]):=Lq ((Blk.new w6 36 _).same (hb7.block _ (by simp)))
 clear hb7;have H3:=Lq hH3;clear hH3;go_wp2_with fail;refine(HG.out _).mono ?_;rintro e w8 ⟨hb8,L3,rfl,hL3⟩;have S8:Hid (BW w7 w8):=Lq hb8;clear hb8;have G3:=Lq hL3;clear hL3;go_wp2_with fail;refine(heaviest7 (H3.out.on S8.out) G3.out).mono ?_;rintro e w9 ⟨hb9,R3,cp3,rfl,hR3⟩;have S9:Hid (BW w8 w9):=Lq hb9;clear hb9;have K3:=Lq hR3;clear hR3;go_wp2_with fail;refine(HH.out _).mono ?_;rintro e w10 ⟨hb10,A4,J4,rfl,hH4⟩;have S10:Hid (BW w9 w10):=Lq hb10;clear hb10;have H4:=Lq hH4;clear hH4;go_wp2_with fail;refine(bad70 (ns:=[0,0,1,1]) (v:=1) (by decide) rfl val_bad0b (H4.out.on (bA (bR w10) _)) (newInts w10 [0,0,1,1])).mono ?_
 rintro e w11 ⟨hb11,rfl⟩;have S11:Hid (BW w10 w11):=Lq (bT (bA (bR w10) _) hb11);clear hb11;go_wp2_with fail;refine(HH.out _).mono ?_;rintro e w12 ⟨hb12,A5,J5,rfl,hH5⟩;have S12:Hid (BW w11 w12):=Lq hb12;clear hb12;have H5:=Lq hH5;clear hH5;go_wp2_with fail;refine(HG.out _).mono ?_;rintro e w13 ⟨hb13,L5,rfl,hL5⟩;have S13:Hid (BW w12 w13):=Lq hb13;clear hb13;have G5:=Lq hL5;clear hL5;go_wp2_with fail;refine(fewest7 (H5.out.on S13.out) G5.out).mono ?_;rintro e w14 ⟨hb14,R5,cp5,rfl,hR5⟩;have S14:Hid (BW w13 w14):=Lq hb14;clear hb14;have K5:=Lq hR5;clear hR5;go_wp2_with fail;refine(HH.out _).mono ?_;rintro e w15 ⟨hb15,A6,J6,rfl,hH6⟩;have S15:Hid (BW w14 w15):=Lq hb15;clear hb15;have H6:=Lq hH6;clear hH6;go_wp2_with fail;refine(winch7 (b:=2) (L:=390) (x:=234) (by decide) val_light2 (by decide) (by kernel_rfl) H6.out).mono ?_
 rintro e w16 ⟨hb16,rfl⟩;have S16:Hid (BW w15 w16):=Lq hb16;clear hb16;go_wp2_with fail;refine(HH.out _).mono ?_;rintro e w17 ⟨hb17,A7,J7,rfl,hH7⟩;have S17:Hid (BW w16 w17):=Lq hb17;clear hb17;have H7:=Lq hH7;clear hH7;go_wp2_with fail;refine(sand7 (b:=2) (L:=390) (x:=564) (by decide) val_light2 (by decide) (by kernel_rfl) H7.out).mono ?_
 rintro e w18 ⟨hb18,rfl⟩;have S18:Hid (BW w17 w18):=Lq hb18;clear hb18;go_wp2_with fail;refine(HH.out _).mono ?_;rintro e w19 ⟨hb19,A8,J8,rfl,hH8⟩;have S19:Hid (BW w18 w19):=Lq hb19;clear hb19;have H8:=Lq hH8;clear hH8;go_wp2_with fail;refine(pull75 H8.out).mono ?_;rintro e w20 ⟨hb20,rfl⟩;have S20:Hid (BW w19 w20):=Lq hb20;clear hb20;go_wp2_with (refine HH.out _ ?_)
 obtain⟨V,hV⟩:=ex ((w20.alloc (.cells #[iv 0,iv 0] 36)));have SV:BW w20 V:=by rw[←hV];exact bA (bR _) _
 have bb:=BB.out.same ((bT (bT (bT (bT (bT (bT (bT (bT (bT (bT (bT (bT (bT S8.out S9.out) S10.out) S11.out) S12.out) S13.out) S14.out) S15.out) S16.out) S17.out) S18.out) S19.out) S20.out) SV).block _ BB.out.lt);have KK1:=Lq fun(W:World) (hb:BW V W)=>K1.out.on (bT (bT (bT (bT (bT (bT (bT (bT (bT (bT (bT (bT (bT (bT (bT (bT (bT (bT S4.out S5.out) S6.out) S7.out) S8.out) S9.out) S10.out) S11.out) S12.out) S13.out) S14.out) S15.out) S16.out) S17.out) S18.out) S19.out) S20.out) SV) hb)
 have KK3:=Lq fun(W:World) (hb:BW V W)=>K3.out.on (bT (bT (bT (bT (bT (bT (bT (bT (bT (bT (bT (bT S10.out S11.out) S12.out) S13.out) S14.out) S15.out) S16.out) S17.out) S18.out) S19.out) S20.out) SV) hb)
 have KK5:=Lq fun(W:World) (hb:BW V W)=>K5.out.on (bT (bT (bT (bT (bT (bT (bT S15.out S16.out) S17.out) S18.out) S19.out) S20.out) SV) hb)
 obtain⟨pb,hpb⟩:=ex w6.heap.size;rw[hpb]at bb;have HC:Hid (∀W,BW V W→W.cell? ⟨pb,0,none⟩=some (iv 175)∧W.cell? ⟨pb,1,none⟩=some (iv 216)):=Lq fun W hb=>⟨kC hb (bb.cell 0),kC hb (bb.cell 1)⟩
 have HB0:=Lq (bT (bT (bT (bT (bT (bT (bT (bT (bT (bT (bT (bT (bT (bT (bT (bT (bT (bT (bT (bT S1.out S2.out) S3.out) S4.out) S5.out) S6.out) S7.out) S8.out) S9.out) S10.out) S11.out) S12.out) S13.out) S14.out) S15.out) S16.out) S17.out) S18.out) S19.out) S20.out) SV);rw[hV,hpb];clear bb SV hV hpb;simp only[List.append_eq,List.cons_append,List.nil_append];go_region_held3 (fun W=>W.cell? ⟨pb,0,none⟩=some (iv 175)∧W.cell? ⟨pb,1,none⟩=some (iv 216)) (first | exact HC.out _ (belowDq (bR V)) | exact HC.out _ HBc | exact HC.out _ (bA HBc _)) (first | (go_at_call 43;(with_reducible refine(span_any _ _ _).mono ?_);rintro e wx ⟨rfl,hbx⟩;have HBc:BW V wx:=by first | exact undrew0B hbx | exact bT HBc hbx | exact bT (bA HBc _) hbx) | (go_at_call 42;(with_reducible refine(spansSame R1 (some ⟨wx.heap.size,0,none⟩) [(100,120),(200,220),(50,60),(300,310)] cp1 4 _ (KK1.out _ (bA HBc _)) (newSp wx 100 120 200 220 50 60 300 310) rfl).mono ?_);rintro e wx ⟨rfl,hbx⟩;have HBc:BW V wx:=by first | exact bT (bA HBc _) hbx | exact undrew0B hbx | exact bT HBc hbx) | (go_at_call 32;(with_reducible refine(intsSame R3 (some ⟨wx.heap.size,0,none⟩) [100,200,50,310] cp3 4 _ (KK3.out _ (bA HBc _)) (newI wx 100 200 50 310) rfl).mono ?_);rintro e wx ⟨rfl,hbx⟩;have HBc:BW V wx:=by first | exact bT (bA HBc _) hbx | exact undrew0B hbx | exact bT HBc hbx) | (go_at_call 32;(with_reducible refine(intsSame R5 (some ⟨wx.heap.size,0,none⟩) [0,0,1,1] cp5 4 _ (KK5.out _ (bA HBc _)) (newI wx 0 0 1 1) rfl).mono ?_);rintro e wx ⟨rfl,hbx⟩;have HBc:BW V wx:=by first | exact bT (bA HBc _) hbx | exact undrew0B hbx | exact bT HBc hbx))
 go_wp2_with fail;go_ret
 exact⟨rfl,bT HB0.out HBc⟩
end
end Go.Proofs.YtigcophcpboanaaGreatDoor
namespace Go.Proofs.YtigcophcpboanaaGreatDoor
open Go.RowKit

theorem in_b{n lo hi:Int}{b:Bool}(h:inB lo hi n=b)(w:World):Cs 46 #[iv n,iv lo,iv hi] w fun e w'=>e=.returned (.bool b)∧w=w':=by subst h;exact in_any n lo hi w
theorem joint_any(h:Hul)(A J:Option Addr)(B cap capJ k:Nat)(w:World)(hH:HulRd w B h A cap J capJ)(hk:k<h.js.length)(hB:B≤w.heap.size) :
  Cs 49 #[hv h A cap J capJ,iv k] w (Rt w (iv (jointE h.ps.length h.js k))):=by
 obtain⟨W1,hW1,hb0,hz1,p0,p1,p2,p3,p4⟩:=hulBox w h A cap J capJ;have hpm:=hH.pm;have hjm:=hH.jm;have hpl:=hH.pl;have hjl:=hH.jl;unfold maxLen at hpm hjm;obtain⟨j,hj⟩:=gX (l:=h.js) (i:=k) hk;obtain⟨a,b⟩:=j;obtain⟨bb,off,rfl,_,d0,d1⟩:=spAt (hH.js.below hb0 hB) hj;simp only at d0 d1;have hJE:jointE h.ps.length h.js k=if inB 0 ((h.ps.length:Int)-1) a&&inB 0 ((h.ps.length:Int)-1) b then(if b≤a then 2 else if hasJ (h.js.take k) (a,b)then 5 else 0)else 4:=by unfold jointE;rw[hj]
 obtain⟨R,hR⟩:=ex (jointE h.ps.length h.js k);rw[hR]at hJE ⊢;have hlt0:=lt_of_cell p0;have hlt1:=lt_of_cell d0;have HJ:=Lq (hH.js.below hb0 hB);have HB0:=Lq hb0;have hzz:w.heap.size≤W1.heap.size:=hb0.size;clear hz1 hb0 hH p2 p3 p4 hR;obtain⟨N,hN⟩:=ex h.ps.length;obtain⟨M,hM⟩:=ex h.js.length;have hjj:=hj;clear hj;have HJJ:=Lq hjj;have hkM:(k:Int)<(M:Int):=by omega
 have hk0:(0:Int)≤(k:Int):=by omega
 rw[hN]at hJE p0 hW1 hpl;rw[hM]at p1 hW1 hjl;clear hjj hk;cases h1:inB 0 ((N:Int)-1) a
 ·have hr:R=4:=by rw[hJE,h1];rfl
  subst hr;have H1:=Lq h1;clear h1 hJE;go_enter Tryz.func49,Tryz.ntmps49
  go_wp2_with (go_at_call 46;refine(in_b H1.out _).mono ?_;rintro e w2 ⟨rfl,rfl⟩)
  go_ret
  exact⟨rfl,bA HB0.out _⟩
 cases h2:inB 0 ((N:Int)-1) b
 ·have hr:R=4:=by rw[hJE,h1,h2];rfl
  subst hr;have H1:=Lq h1;have H2:=Lq h2;clear h1 h2 hJE;go_enter Tryz.func49,Tryz.ntmps49
  go_wp2_with fail;refine(in_b H1.out _).mono ?_;rintro e w2 ⟨rfl,rfl⟩;go_wp2_with fail;refine(in_b H2.out _).mono ?_;rintro e w2 ⟨rfl,rfl⟩;go_wp2_with fail;go_ret
  exact⟨rfl,bA HB0.out _⟩
 have H1:=Lq h1;have H2:=Lq h2;rw[h1,h2]at hJE;simp only[Bool.and_self,if_true]at hJE;clear h1 h2;by_cases h3:b≤a
 ·rw[if_pos h3]at hJE;subst hJE;go_enter Tryz.func49,Tryz.ntmps49
  go_wp2_with fail;refine(in_b H1.out _).mono ?_;rintro e w2 ⟨rfl,rfl⟩;go_wp2_with fail;refine(in_b H2.out _).mono ?_;rintro e w2 ⟨rfl,rfl⟩;go_wp2_with fail;go_ret
  exact⟨rfl,bA HB0.out _⟩
 ·rw[if_neg h3]at hJE;have HE:=Lq hJE;obtain⟨W2,hW2⟩:=ex (W1.alloc (.cells #[iv a,iv b] 47));have hb2:BW W1 W2:=by rw[←hW2];exact bA (bR _) _
  have c0:W2.cell? ⟨W1.heap.size,0,none⟩=some (iv a):=by rw[←hW2];clear hW1 hW2;go_simp
  have c1:W2.cell? ⟨W1.heap.size,1,none⟩=some (iv b):=by rw[←hW2];clear hW1 hW2;go_simp
  have HC:Hid (∀W,BW W2 W→W.cell? ⟨w.heap.size,0,none⟩=some (.slice A N cap)∧W.cell? ⟨w.heap.size,1,none⟩=some (.slice (some ⟨bb,off,none⟩) M capJ)∧W.cell? ⟨W1.heap.size,0,none⟩=some (iv a)∧W.cell? ⟨W1.heap.size,1,none⟩=some (iv b)):=Lq fun W hb=>⟨kC hb (kC hb2 p0),kC hb (kC hb2 p1),kC hb c0,kC hb c1⟩
  have HB2:=Lq (bT HB0.out hb2);have HJ2:=Lq (HJ.out.below hb2 (lT hB HB0.out.size));have hz2:=hb2.size;have HZ:=Lq (lT hB (lT HB0.out.size hb2.size));obtain⟨q0,q1,e0,e1⟩:=HC.out W2 (bR _);clear hb2 hJE;go_enter Tryz.func49,Tryz.ntmps49
  go_wp2_with fail;refine(in_b H1.out _).mono ?_;rintro e w2 ⟨rfl,rfl⟩;go_wp2_with fail;refine(in_b H2.out _).mono ?_;rintro e w2 ⟨rfl,rfl⟩;go_wp2_with fail;clear hW1 hW2 p0 p1 d0 d1 c0 c1 q0 q1 e0 e1;go_loopw [6] (fun i wr=>∃q:Nat,q≤k∧i=iv q∧Hid (hasJ (h.js.take q) (a,b)=false)∧Hid (BW W2 wr)) (fun i _=>k-(intOf i).toNat)
  case atStart=>exact⟨0,Nat.zero_le _,rfl,Lq (by simp[hasJ]),Lq (bR _)⟩
  case round =>
   obtain⟨q,hq,rfl,HN,HBW⟩:=hrel;obtain⟨p0,p1,c0,c1⟩:=HC.out _ HBW.out;by_cases hlt:q<k
   ·obtain⟨x,hx⟩:=gX (l:=h.js) (i:=q) (by omega)
    obtain⟨x0,x1⟩:=x;obtain⟨b2,off2,he2,_,d0,d1⟩:=spAt (HJ2.out.below HBW.out HZ.out) hx;injection he2 with he2
    injection he2 with he3 he4
    subst he3 he4;simp only at d0 d1;have Hx:=Lq hx;have hkz:(q:Int)<(M:Int):=by omega
    have hk0:(0:Int)≤(q:Int):=by omega
    have hkd:(q:Int)<(k:Int):=by omega
    clear hx;by_cases hp:a=x0∧b=x1
    ·obtain⟨rfl,rfl⟩:=hp;have hEQ:∀w,(Op.equalIn 10000 47 (.agg #[iv a,iv b]) (.agg #[iv a,iv b])).run Tryz.prog w=.ok true w:=fun w=>by have:=run_eqJ 9998 a b a b w;simpa using this
     go_wp2_with fail;go_quiet (fail)
     go_wp2_with fail;go_ret
     have hyes:hasJ (h.js.take k) (a,b)=true:=hasJ_yes (k:=q) (x:=(a,b)) (by rw[List.getElem?_take,if_pos hlt];exact Hx.out) (by simp[eqJ])
     exact⟨by rw[HE.out,hyes];rfl,bT HB2.out (belowN HBW.out _)⟩
    ·have hp':eqJ (a,b) (x0,x1)=false:=by
      unfold eqJ;rw[Bool.and_eq_false_iff];simp only[beq_eq_false_iff_ne];by_cases h:a=x0
      ·exact .inr fun h2=>hp ⟨h,h2⟩
      ·exact .inl h
     have HP:=Lq hp';have hp2:(x0==a&&x1==b)=false:=by rw[←hp'];unfold eqJ;rw[Bool.eq_iff_iff];simp only[Bool.and_eq_true,beq_iff_eq];constructor<;>rintro⟨h1,h2⟩<;>exact⟨h1.symm,h2.symm⟩
     have hEQ:∀w,(Op.equalIn 10000 47 (.agg #[iv x0,iv x1]) (.agg #[iv a,iv b])).run Tryz.prog w=.ok false w:=fun w=>by have:=run_eqJ 9998 x0 x1 a b w;rw[this];exact congrArg (fun r=>Result.ok r w) hp2
     clear hp hp' hp2;go_wp2_with fail;go_quiet (fail)
     go_wp2_with fail;go_roundw
     case rel=>exact⟨q+1,by omega,by go_num,Lq (by rw[hasJ_snoc _ _ _ _ Hx.out,HN.out,HP.out];rfl),Lq (belowN HBW.out _)⟩
     case measure=>simp[intOf];omega
   ·obtain rfl:q=k:=by omega
    go_wp2_with fail;go_ret
    exact⟨by rw[HE.out,HN.out];rfl,bT HB2.out HBW.out⟩
theorem Tryz.info9b:(Tryz.prog.info? 9).map (fun i=>(i.zero,i.size,i.bytes))=some (some (.string ⟨#[]⟩),1,16):=by kernel_rfl
theorem refCheck_any(h:Hul)(A J:Option Addr)(B cap capJ:Nat)(w:World)(hH:HulRd w B h A cap J capJ)(hB:B≤w.heap.size) :
  Cs 9 #[hv h A cap J capJ] w (Rt w (ret3 (checkE h))):=by
 obtain⟨i0,hi0,hz0,hz1,hz2⟩:=info_parts Tryz.info9b;obtain⟨W1,hW1,hb0,hzz,p0,p1,p2,p3,p4⟩:=hulBox w h A cap J capJ;have HC:Hid (∀W,BW W1 W→W.cell? ⟨w.heap.size,0,none⟩=some (.slice A h.ps.length cap)∧W.cell? ⟨w.heap.size,1,none⟩=some (.slice J h.js.length capJ)∧W.cell? ⟨w.heap.size,2,none⟩=some (iv h.slo)∧W.cell? ⟨w.heap.size,3,none⟩=some (iv h.shi)∧W.cell? ⟨w.heap.size,4,none⟩=some (iv h.winch)):=Lq fun W hb=>⟨kC hb p0,kC hb p1,kC hb p2,kC hb p3,kC hb p4⟩
 have hz1':w.heap.size≤W1.heap.size:=hb0.size;have HB0:=Lq hb0;have HH:=Lq (hH.below hb0 hB);have hpm:=hH.pm;have hjm:=hH.jm;have hpl:=hH.pl;have hjl:=hH.jl;unfold maxLen at hpm hjm;obtain⟨R,hR⟩:=ex (checkE h);rw[hR];have HR:=Lq hR;have hBz:=lT hB hb0.size;clear hb0 hH hR;have hfin:∀(r:Int×Int×Int),R=r→ret3 R=.tuple #[iv r.1,iv r.2.1,iv r.2.2]:=fun r h=>by rw[h];rfl
 have HFIN:=Lq hfin;clear hfin;cases h1:inB 1 8 (h.ps.length:Int)
 ·have hr:R=(1,0,3):=by rw[←HR.out];simp[checkE,h1]
  have HRR:=Lq hr;have H1:=Lq h1;clear hr h1;go_enter Tryz.func9,Tryz.ntmps9
  go_wp2_with (go_at_call 46;refine(in_b H1.out _).mono ?_;rintro e w2 ⟨rfl,rfl⟩)
  go_ret3
  exact⟨by rw[HFIN.out _ HRR.out];rfl,HB0.out⟩
 have hn8:=inB_t h1;by_cases h2:h.js.length≤12
 case neg =>
  have hr:R=(1,0,3):=by rw[←HR.out];simp[checkE,h2]
  have HRR:=Lq hr;have H1:=Lq h1;have hd:(12:Int)<(h.js.length:Int):=by omega
  clear hr h1;go_enter Tryz.func9,Tryz.ntmps9
  go_wp2_with (go_at_call 46;refine(in_b H1.out _).mono ?_;rintro e w2 ⟨rfl,rfl⟩)
  go_ret3
  exact⟨by rw[HFIN.out _ HRR.out];rfl,HB0.out⟩
 have hd:¬(12:Int)<(h.js.length:Int):=by omega
 have H1:=Lq h1;obtain⟨E,hE⟩:=ex (rangeE 1 2000 h.slo h.shi);cases h3:(inB 1 2000 h.slo&&inB 1 2000 h.shi)
 ·have hr:R=(1,0,7):=by rw[←HR.out];simp[checkE,h1,h2,h3]
  have HRR:=Lq hr;obtain rfl:E=7:=by rw[←hE];exact rangeE_out h3
  have HE:=Lq hE;clear hr h1 h3 hE;go_enter Tryz.func9,Tryz.ntmps9
  go_wp2_with (go_at_call 46;refine(in_b H1.out _).mono ?_;rintro e w2 ⟨rfl,rfl⟩)
  refine(range_any 1 2000 h.slo h.shi _).mono ?_;rintro e w2 ⟨he,hb2⟩;rw[HE.out]at he;subst he;have HB2:=Lq hb2;clear hb2 hW1 p0 p1 p2 p3 p4;obtain⟨p0,p1,p2,p3,p4⟩:=HC.out _ HB2.out;go_wp2
  go_ret3
  exact⟨by rw[HFIN.out _ HRR.out];rfl,bT HB0.out HB2.out⟩
 have hE7:E=if h.shi<h.slo then 2 else 0:=by
  rw[←hE];split
  ·exact rangeE_turned h3 (by assumption)
  ·exact rangeE_ok h3 (by omega)
 cases h4:inB 1 10000000 h.winch
 ·have hr:R=(1,0,7):=by rw[←HR.out];simp[checkE,h1,h2,h3,h4]
  have HRR:=Lq hr;have H4:=Lq h4;have hne:(E==7)=false:=by rw[hE7];split<;>rfl
  have HE:=Lq hE;clear hr h1 h3 h4 hE hE7;go_enter Tryz.func9,Tryz.ntmps9
  go_wp2_with (go_at_call 46;refine(in_b H1.out _).mono ?_;rintro e w2 ⟨rfl,rfl⟩)
  refine(range_any 1 2000 h.slo h.shi _).mono ?_;rintro e w2 ⟨he,hb2⟩;rw[HE.out]at he;subst he;have HB2:=Lq hb2;clear hb2 hW1 p0 p1 p2 p3 p4;obtain⟨p0,p1,p2,p3,p4⟩:=HC.out _ HB2.out;go_wp2_with (go_at_call 46;refine(in_b H4.out _).mono ?_;rintro e w2 ⟨rfl,rfl⟩)
  go_ret3
  exact⟨by rw[HFIN.out _ HRR.out];rfl,bT HB0.out HB2.out⟩
 have H4:=Lq h4;by_cases h5:h.shi<h.slo
 ·have hr:R=(1,0,2):=by rw[←HR.out];simp[checkE,h1,h2,h3,h4,h5]
  have HRR:=Lq hr;obtain rfl:E=2:=by rw[hE7,if_pos h5]
  have HE:=Lq hE;clear hr h1 h3 h4 hE hE7;go_enter Tryz.func9,Tryz.ntmps9
  go_wp2_with (go_at_call 46;refine(in_b H1.out _).mono ?_;rintro e w2 ⟨rfl,rfl⟩)
  refine(range_any 1 2000 h.slo h.shi _).mono ?_;rintro e w2 ⟨he,hb2⟩;rw[HE.out]at he;subst he;have HB2:=Lq hb2;clear hb2 hW1 p0 p1 p2 p3 p4;obtain⟨p0,p1,p2,p3,p4⟩:=HC.out _ HB2.out;go_wp2_with (go_at_call 46;refine(in_b H4.out _).mono ?_;rintro e w2 ⟨rfl,rfl⟩)
  go_ret3
  exact⟨by rw[HFIN.out _ HRR.out];rfl,bT HB0.out HB2.out⟩
 have hr:R=listsE h:=by rw[←HR.out];simp[checkE,h1,h2,h3,h4,h5]
 unfold listsE at hr;have HRR:=Lq hr;obtain rfl:E=0:=by rw[hE7,if_neg h5]
 have HE:=Lq hE;clear hr h1 h3 h4 hE hE7;go_enter Tryz.func9,Tryz.ntmps9
 go_wp2_with (go_at_call 46;refine(in_b H1.out _).mono ?_;rintro e w2 ⟨rfl,rfl⟩)
 refine(range_any 1 2000 h.slo h.shi _).mono ?_;rintro e w2 ⟨he,hb2⟩;rw[HE.out]at he;subst he;have HB2:=Lq hb2;clear hb2 hW1 p0 p1 p2 p3 p4;obtain⟨p0,p1,p2,p3,p4⟩:=HC.out _ HB2.out;go_wp2_with (go_at_call 46;refine(in_b H4.out _).mono ?_;rintro e w2 ⟨rfl,rfl⟩)
 obtain⟨w1,hw1⟩:∃w1:World,w1=w2:=⟨_,rfl⟩;have HBW1:Hid (BW W1 w1):=Lq (by rw[hw1];exact HB2.out)
 have hq0:w1.cell? ⟨w.heap.size,0,none⟩=some (.slice A h.ps.length cap):=by rw[hw1];exact p0
 subst hw1;have HHW:=Lq (HH.out.below HBW1.out hBz);have HC1:Hid (∀W,BW w1 W→W.cell? ⟨w.heap.size,0,none⟩=some (.slice A h.ps.length cap)∧W.cell? ⟨w.heap.size,1,none⟩=some (.slice J h.js.length capJ)∧W.cell? ⟨w.heap.size,2,none⟩=some (iv h.slo)∧W.cell? ⟨w.heap.size,3,none⟩=some (iv h.shi)∧W.cell? ⟨w.heap.size,4,none⟩=some (iv h.winch)):=Lq fun W hb=>HC.out W (bT HBW1.out hb)
 have hzw1:W1.heap.size≤w1.heap.size:=HBW1.out.size;have hBw:B≤w1.heap.size:=lT hBz hzw1;have HNM:=Lq HH.out.nm;have HHP:=Lq HH.out;clear p0 p1 p2 p3 p4 hq0 HB2 hzz HC;go_loopw [6,7] (fun vn vi wr=>∃(k:Nat) (v:Value),k≤h.ps.length∧vi=iv k∧v=vn∧Hid (wr.ownsRow w1.heap.size 9 1 v k (((h.ps.take k).map Prt.name).map Value.string))∧Hid (BW w1 wr)∧Hid (firstBad (partE h.ps) k=none)) (fun _ vi _=>h.ps.length-(intOf vi).toNat)
 case atStart=>exact⟨0,_,Nat.zero_le _,rfl,rfl,Lq (World.ownsRow_nil _ _ _ _),Lq (bR _),Lq rfl⟩
 case round =>
  obtain⟨k,v,hk,rfl,rfl,OWN,HBW,HN⟩:=hrel;obtain⟨p0,p1,p2,p3,p4⟩:=HC1.out _ HBW.out;have hzr:=HBW.out.size;by_cases hlt:k<h.ps.length
  ·obtain⟨c,hx⟩:=gX (l:=h.ps) (i:=k) hlt;have hsn:=HNM.out c (List.mem_of_getElem? hx);have HX:=Lq hx;have htk:(h.ps.take k).length=k:=by rw[List.length_take];omega
   have htk1:h.ps.take (k+1)=h.ps.take k++[c]:=by obtain⟨h,rfl⟩:=List.getElem?_eq_some_iff.1 hx;rw[List.take_succ_eq_append_getElem h]
   obtain⟨A2,cap2,rfl,hrd,hA2⟩:=own_rd1 (xs:=(h.ps.take k).map Prt.name) (enc:=Value.string) (by rw[List.length_map,htk];exact OWN.out)
   clear hA2;rw[List.length_map,htk]at OWN ⊢;have ht:=fresh_any A2 ((h.ps.take k).map Prt.name) wr.heap.size cap2 c.name wr hsn (by rw[List.length_map,htk];unfold maxLen;omega) hrd (lr _)
   rw[List.length_map,htk]at ht;have he:partE h.ps k=if freshE ((h.ps.take k).map Prt.name) c.name=0 then rangeE 0 100000 c.lo c.hi else freshE ((h.ps.take k).map Prt.name) c.name:=by unfold partE;rw[hx]
   obtain⟨T,hT⟩:=ex (freshE ((h.ps.take k).map Prt.name) c.name);rw[hT]at he ht;obtain⟨b,off,rfl,_,e0,e1,e2⟩:=prtAt (HHW.out.ps.below HBW.out hBw) hx;obtain⟨name,clo,chi⟩:=c;simp only at e0 e1 e2 ht hsn he;have HT:=Lq ht;have HTK:=Lq htk1;have hkz:(k:Int)<(h.ps.length:Int):=by omega
   have hk0:(0:Int)≤(k:Int):=by omega
   clear htk htk1 hrd ht hT hx;go_wp2_with fail;refine HT.out.mono ?_;rintro e w3 ⟨rfl,hb3⟩;have OWN3:=Lq (own_belowB OWN.out hb3);have HB3:=Lq (bT HBW.out hb3);have d0:=kC hb3 e0;have d1:=kC hb3 e1;have d2:=kC hb3 e2;have hz3:=hb3.size;clear p0 p1 p2 p3 p4 e0 e1 e2;obtain⟨p0,p1,p2,p3,p4⟩:=HC1.out _ HB3.out;have hnew:∀j u,[Value.string name][j]?=some u→(w3.alloc (.cells #[.string name] 9)).cell? ((⟨w3.heap.size,0,none⟩:Addr).add j)=some u:=one_new _ _ _;have HNW:=Lq hnew;clear hb3 hnew OWN p1 p2 p3 p4 d1 d2;go_wp2_with (at_builtin;refine wpList_append_own _ rfl _ _ 41 rfl w1.heap.size 9 i0 (.string ⟨#[]⟩) 1 16 Tryz.underlying41 hi0 hz0 hz1 hz2 rfl (by decide) _ _ _ rfl (OWN3.out.alloc _) ⟨w3.heap.size,0,none⟩ 1 1 [.string name] rfl rfl ?c1 ?c2 ?c3 ?c4 ?c5 ?_)
   case c1=>exact HNW.out
   case c2=>simp[Value.oneCell']
   case c3=>unfold maxLen;omega
   case c4=>omega
   case c5=>simp;omega
   intro v' w4 hown' hgrow _;have hB4:BW w1 w4:=grownB (OWN3.out.alloc _) hgrow (lr _) (bA HB3.out _);have HO':=Lq hown';have HB4:=Lq hB4;clear hgrow hown' p0 d0 hB4;by_cases hT0:T=0
   ·subst hT0;rw[if_pos rfl]at he;have hrg:=fun W=>range_any 0 100000 clo chi W
    obtain⟨V,hV⟩:=ex (rangeE 0 100000 clo chi);rw[hV]at he hrg;have HRG:=Lq hrg;have HE2:=Lq he;obtain⟨p0,p1,p2,p3,p4⟩:=HC1.out _ HB4.out;obtain⟨b',off',he',_,e0,e1,e2⟩:=prtAt (HHW.out.ps.below HB4.out hBw) HX.out;injection he' with he'
    injection he' with he1 he2
    subst he1 he2;simp only at e0 e1 e2;clear he hrg hV p1 p2 p3 p4 e0;go_wp2_with fail;refine(HRG.out _).mono ?_;rintro e w5 ⟨rfl,hb5⟩;have HO5:=Lq (own_belowB HO'.out hb5);have HB5:=Lq (bT HB4.out hb5);clear hb5 p0 e1 e2 HO' HB4;by_cases hV0:V=0
    ·subst hV0;go_wp2_with fail;go_roundw
     case rel=>exact⟨k+1,v',by omega,by go_num,rfl,Lq (by have h:=HO5.out;rw[HTK.out];simpa using h),HB5,Lq (firstBad_succ HN.out HE2.out)⟩
     case measure=>simp[intOf];omega
    ·have hne:(V != 0)=true:=by simpa using hV0
     have HV0:=Lq hV0;clear hV0;go_wp2_with fail
     go_ret3
     exact⟨by rw[HFIN.out _ HRR.out,firstBad_at HN.out (by rw[HE2.out];exact HV0.out) hlt,HE2.out];rfl,bT HB0.out (bT HBW1.out HB5.out)⟩
   ·have hne:(T != 0)=true:=by simpa using hT0
    have hne2:(T==0)=false:=by simpa using hT0
    rw[if_neg hT0]at he;have HE2:=Lq he;have HT0:=Lq hT0;clear hT0 he;go_wp2_with fail
    go_ret3
    exact⟨by rw[HFIN.out _ HRR.out,firstBad_at HN.out (by rw[HE2.out];exact HT0.out) hlt,HE2.out];rfl,bT HB0.out (bT HBW1.out HB4.out)⟩
  ·obtain rfl:k=h.ps.length:=by omega
   have HNP:=HN;go_wp2_with fail;clear p0 p1 p2 p3 p4;obtain⟨wq,hwq⟩:∃wq:World,wq=wr:=⟨_,rfl⟩;have HBQ:Hid (BW w1 wq):=Lq (by rw[hwq];exact HBW.out)
   subst hwq;go_loopw [8] (fun vi wr=>∃q:Nat,q≤h.js.length∧vi=iv q∧Hid (BW w1 wr)∧Hid (firstBad (jointE h.ps.length h.js) q=none)) (fun vi _=>h.js.length-(intOf vi).toNat)
   case atStart=>exact⟨0,Nat.zero_le _,rfl,HBQ,Lq rfl⟩
   case round =>
    obtain⟨q,hq,rfl,HBW2,HN2⟩:=hrel;obtain⟨p0,p1,p2,p3,p4⟩:=HC1.out _ HBW2.out;by_cases hlt2:q<h.js.length
    ·have hjt:=joint_any h A J B cap capJ q wr (HHW.out.below HBW2.out hBw) hlt2 (lT hBw HBW2.out.size);obtain⟨V,hV⟩:=ex (jointE h.ps.length h.js q);rw[hV]at hjt;have HJT:=Lq hjt;have HV:=Lq hV;have hkz:(q:Int)<(h.js.length:Int):=by omega
     have hk0:(0:Int)≤(q:Int):=by omega
     clear hjt hV;go_wp2_with fail;refine HJT.out.mono ?_;rintro e w5 ⟨rfl,hb5⟩;have HB5:=Lq (bT HBW2.out hb5);clear hb5 p0 p1 p2 p3 p4;by_cases hV0:V=0
     ·subst hV0;go_wp2_with fail;go_roundw
      case rel=>exact⟨q+1,by omega,by go_num,HB5,Lq (firstBad_succ HN2.out HV.out)⟩
      case measure=>simp[intOf];omega
     ·have hne:(V != 0)=true:=by simpa using hV0
      have HV0:=Lq hV0;clear hV0;go_wp2_with fail
      go_ret3
      exact⟨by rw[HFIN.out _ HRR.out,HNP.out];simp only;rw[firstBad_at HN2.out (by rw[HV.out];exact HV0.out) hlt2,HV.out];rfl,bT HB0.out (bT HBW1.out HB5.out)⟩
    ·obtain rfl:q=h.js.length:=by omega
     go_wp2_with fail
     go_ret3
     exact⟨by rw[HFIN.out _ HRR.out,HNP.out];simp only;rw[HN2.out];rfl,bT HB0.out (bT HBW1.out HBW2.out)⟩
end Go.Proofs.YtigcophcpboanaaGreatDoor
