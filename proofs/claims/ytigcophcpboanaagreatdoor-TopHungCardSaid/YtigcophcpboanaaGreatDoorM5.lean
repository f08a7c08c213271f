/- tree F105. block.open: the plain words. What parts can weigh: the plain law of sums over .. -/
import Derived.Carry
import Derived.Test.YtigcophcpboanaaGreatDoorM4
set_option maxRecDepth 1000000
set_option maxHeartbeats 0
namespace Go.Proofs.YtigcophcpboanaaGreatDoor
open Go.RowKit
def allWB(l:List Wgh)(n:Nat):List Wgh:=l++[⟨((2^n-1:Nat):Int),0,(n:Int)*100000⟩]
theorem allW_len(l:List Wgh)(n:Nat):(allWB l n).length=l.length+1:=by simp[allWB]
def TreePost(l:List Wgh)(n:Nat)(w:World)(e:Ending)(w':World):Prop :=
 ∃(br:Nat) (N:List Nd) (bs:List Nat) (X:List Wgh),e=.returned (ptr br)∧BW w w'∧(allWB l n).Perm X∧X.Pairwise (fun a b=>onesN a.set.toNat≤onesN b.set.toNat)∧N=treeTo (X.map ndOf) (l.length+1)∧TabAt w' w'.heap.size N bs∧bs[N.length-1]?=some br∧∀km,km<w.heap.size→TabOff w' km N bs
theorem tree_any(A:Option Addr)(l:List Wgh)(n B cap:Nat)(w:World)(hn0:0<n)(hn:n≤8)(hl:l.length≤6)(hR:RdN 3 encWgh w B A l)(hB:B≤w.heap.size)(hs:∀x∈l,∃s:Nat,s<256∧x.set=(s:Int)) :
  Cs 128 #[.slice A l.length cap,iv n] w (TreePost l n w):=by
 have hc:=cloneWgh_any A l B cap (w.alloc (.cells #[] 116)) hl (hR.alloc hB _);have hlit:=World.ownsRow_lit (e:=116) (size:=1) (base:=w.heap.size) w #[] 0 (lr _) (by decide) (by simp)
 have HL:=Lq hlit;clear hlit;have hsh:=shl1 n (by omega)
 obtain⟨i1,hi1,hz10,hz11,hz12⟩:=info_parts Tryz.info159;obtain⟨i2,hi2,hz20,hz21,hz22⟩:=info_parts Tryz.info213;have hp1:1≤2^n:=Nat.one_le_two_pow;have hp2:2^n≤256:=by
  have:=Nat.pow_le_pow_right (show 0<2 by decide) hn
  omega
 have hcast:((2^n-1:Nat):Int)=((2^n:Nat):Int)-1:=by omega
 have hsX:∀x∈allWB l n,∃s:Nat,s<256∧x.set=(s:Int):=fun x hx=>by
  rcases List.mem_append.1 hx with hx | hx
  ·exact hs x hx
  ·rw[List.mem_singleton.1 hx];exact⟨2^n-1,by omega,rfl⟩
 have HGOAL:Hid (∀e w',(∃(br:Nat) (N:List Nd) (bs:List Nat) (X':List Wgh),e=.returned (ptr br)∧BW w w'∧(allWB l n).Perm X'∧X'.Pairwise (fun a b=>onesN a.set.toNat≤onesN b.set.toNat)∧N=treeTo (X'.map ndOf) (l.length+1)∧TabAt w' w'.heap.size N bs∧bs[N.length-1]?=some br∧∀km,km<w.heap.size→TabOff w' km N bs)→TreePost l n w e w'):=Lq fun _ _ h=>h
 obtain⟨POST,hPOST⟩:=ex (TreePost l n w);rw[hPOST]at HGOAL ⊢;clear hPOST;obtain⟨X,hX⟩:=ex (allWB l n);have hXl:X.length=l.length+1:=by rw[←hX];exact allW_len _ _
 have hXf:X.flatMap encWgh=l.flatMap encWgh++[iv (((2^n:Nat):Int)-1),iv 0,iv ((n:Int)*100000)]:=by rw[←hX,←hcast];simp[allWB,encWgh]
 rw[hX]at hsX HGOAL;have HSX:=Lq hsX;obtain⟨P,hP⟩:=ex ((2^n:Nat));rw[hP]at hsh hp1 hp2 hXf;have HC:=Lq hc;have HXF:=Lq hXf;clear hc hX hXf hcast hP hsX hs;go_enter Tryz.func128,Tryz.ntmps128
 go_wp2_with fail;refine HC.out.mono ?_;rintro e w1 ⟨v1,rfl,own1,hb1⟩;have hb1':BW w w1:=bT (bA (bR w) _) hb1;have OWN1:=Lq own1;have HB1:=Lq hb1;have HB1':=Lq hb1';have hz1:=hb1'.size;have hz1':=hb1.size;clear own1 hb1 hb1' HC;go_wp2_with (at_builtin;refine wpList_append_own _ rfl _ _ 93 rfl (w.alloc (.cells #[] 116)).heap.size 159 i1 (.agg #[iv 0,iv 0,iv 0]) 3 24 Tryz.underlying93 hi1 hz10 hz11 hz12 rfl (by decide) _ _ _ rfl (OWN1.out.alloc _) ⟨w1.heap.size,0,none⟩ 1 1 [iv ((P:Int)-1),iv 0,iv ((n:Int)*100000)] rfl rfl ?d1 ?d2 ?d3 ?d4 ?d5 ?_)
 case d1=>exact cells3_new _ _ _ _ _
 case d2=>simp[Value.oneCell']
 case d3=>unfold maxLen;omega
 case d4=>omega
 case d5=>simp;omega
 intro v2 w2 hown2 hg2 _;have hb2:BW w w2:=grownB (OWN1.out.alloc _) hg2 (by simp) (bA HB1'.out _)
 have hrow:w2.ownsRow w.heap.size 116 1 (.slice (some ⟨w.heap.size,0,none⟩) 0 0) 0 []:=((HL.out.kept (row:=none) ⟨HB1.out.os,HB1.out.tape,HB1.out.output,HB1.out.size,fun k hk _=>HB1.out.block k hk⟩ (.inr (by simp[Value.ownBlock]))).alloc _).kept hg2 (.inr (fun e=>by have:=(OWN1.out.lt _ e.symm).1;simp at this;omega))
 have hz2:=hg2.size;simp only[World.size_alloc]at hz2;rw[←HXF.out]at hown2;rw[←hXl]at hown2;obtain⟨A2,cap2,rfl,hR2,hA2,_,_⟩:=own_rdN encWgh_len hown2;have hstart:LaidB w w2 X (.slice (some ⟨w.heap.size,0,none⟩) 0 0) []:=⟨hrow,fun i b x hi=>by simp at hi,fun b hb=>(by simp at hb),List.nodup_nil,hb2⟩
 have HST:=Lq hstart;have HR2:=Lq hR2;have HNE:Hid (∀b off,A2=some ⟨b,off,none⟩→(Value.slice (some ⟨w.heap.size,0,none⟩) 0 0).ownBlock≠some b):=Lq fun b off e e2=>by
  have h1:=(hA2 b off e).1;have e3:some w.heap.size=some b:=e2;injection e3 with e3
  have h2:(w.alloc (.cells #[] 116)).heap.size=w.heap.size+1:=by simp
  omega
 have HA2:Hid (∀b off,A2=some ⟨b,off,none⟩→off=0):=Lq fun b off e=>(hA2 b off e).2
 clear hstart hR2 hrow hown2 hg2 hb2 HB1 HB1' OWN1 HL hA2;rw[hXl];go_wp2_with fail;go_loopw [6,27] (fun vn vi wr=>∃(k:Nat) (bs:List Nat) (vo:Value),k≤l.length+1∧vi=iv k∧vo=vn∧bs.length=k∧Hid (LaidB w wr X vo bs)∧Hid (RdN 3 encWgh wr w2.heap.size A2 X)∧Hid (∀b off,A2=some ⟨b,off,none⟩→vo.ownBlock≠some b)∧Hid (bs.Pairwise (· < ·))∧w2.heap.size≤wr.heap.size) (fun _ vi _=>l.length+1-(intOf vi).toNat)
 case atStart=>exact⟨0,[],_,Nat.zero_le _,rfl,rfl,rfl,HST,HR2,HNE,Lq List.Pairwise.nil,lr _⟩
 case round =>
  clear HST HR2 HNE;obtain⟨k,bs,vo,hk,rfl,rfl,hbs,HI,HR,HNE,HUP,hz2r⟩:=hrel;by_cases hlt:k<l.length+1
  ·obtain⟨x,hx⟩:=gX (l:=X) (i:=k) (by omega)
   obtain⟨b,off,rfl,hbB,e0,e1,e2⟩:=wghAt HR.out hx;obtain rfl:=HA2.out _ _ rfl;rw[Nat.zero_add]at e0 e1 e2;have HX:=Lq hx;have OWN:Hid (wr.ownsRow w.heap.size 116 1 vo k (bs.map ptr)):=Lq (by have:=HI.out.own;rwa [hbs]at this)
   clear hx;have HAL:Hid (((((wr.alloc (.cells #[iv x.set,iv x.lo,iv x.hi] 159)).alloc (.cells #[iv x.lo,iv x.hi,iv x.set,iv x.set,.slice none 0 0] 215)).alloc (.cells #[ptr (wr.heap.size+1)] 116))).ownsRow w.heap.size 116 1 vo k (bs.map ptr)):=Lq (((OWN.out.alloc _).alloc _).alloc _);go_wp2_with (at_builtin;refine wpList_append_own_at _ rfl _ _ 213 rfl w.heap.size 116 i2 (.pointer none) 1 8 Tryz.underlying213 hi2 hz20 hz21 hz22 rfl (by decide) _ _ _ rfl HAL.out ⟨wr.heap.size+1+1,0,none⟩ 1 1 [ptr (wr.heap.size+1)] rfl rfl ?d1 ?d2 ?d3 ?d4 ?d5 ?_)
   case d1 =>
    rw[show wr.heap.size+1+1=((wr.alloc (.cells #[iv x.set,iv x.lo,iv x.hi] 159)).alloc (.cells #[iv x.lo,iv x.hi,iv x.set,iv x.set,.slice none 0 0] 215)).heap.size from by simp]
    exact cell_one_new _ _ _
   case d2=>simp[Value.oneCell']
   case d3=>unfold maxLen;omega
   case d4=>omega
   case d5=>have:=HI.out.below.size;simp;omega
   intro v3 w3 hown3 hg3 _ hv3;have hx:=HX.out;rw[←hbs]at hx hown3;have hI3:=HI.out.more hx hg3 hown3 (by simpa using hv3)
   have hR3:RdN 3 encWgh w3 w2.heap.size (some ⟨b,0,none⟩) X:=fun i y hy=>by
    obtain⟨b',off',e',hb',hc'⟩:=HR.out i y hy;injection e' with e'
    injection e' with e'1 e'2
    subst e'1 e'2;exact⟨b,0,rfl,hb',fun j u hu=>hg3.cell (keepA (keepA (keepA (hc' j u hu) _) _) _) (fun e2=>HNE.out b 0 rfl e2.symm)⟩
   have hne3:∀b1 off,(some (⟨b,0,none⟩:Addr))=some ⟨b1,off,none⟩→v3.ownBlock≠some b1:=fun b1 off e e2=>by
    injection e with e
    injection e with e'
    subst e';rcases hv3 with hv3 | hv3
    ·exact HNE.out b 0 rfl (hv3▸e2)
    ·rw[hv3]at e2;injection e2 with e2;(try simp at e2);omega
   have hup3:(bs++[wr.heap.size+1]).Pairwise (· < ·):=by
    rw[List.pairwise_append];refine⟨HUP.out,by simp,fun a ha b hb=>?_⟩
    have:=(HI.out.apart a ha).2.1;rw[List.mem_singleton.1 hb];omega
   have hsz3:=hg3.size;simp only[World.size_alloc]at hsz3;have HI3:=Lq hI3;have HR3:=Lq hR3;have HNE3:=Lq hne3;have HUP3:=Lq hup3;clear hI3 hR3 hown3 hg3 hv3 hx HAL OWN HI HR HX e0 e1 e2 hne3 hup3;go_wp2
   go_roundw
   case rel=>exact⟨k+1,bs++[wr.heap.size+1],v3,by omega,by go_num,rfl,by simp[hbs],HI3,HR3,HNE3,HUP3,by omega⟩
   case measure=>simp[intOf];omega
  ·obtain rfl:k=l.length+1:=by omega
   obtain⟨g,cap3,rfl,hgB,hgS,hgc⟩:=own_form HI.out.own (by omega)
   have hso:=sortNd_any (keyOf wr) g 0 cap3 bs.toArray wr (own_holdsP HI.out.own) (laid_keys HI.out (by omega) HSX.out) (by simp;omega)
   have hsorted:=laid_sorted HI.out (by omega) HSX.out HUP.out hgB
   have hsa:bs.toArray.size=l.length+1:=by simp[hbs]
   rw[hsa]at hso hsorted;rw[hbs]at hsorted ⊢;have HSO:=Lq hso;have HSD:=Lq hsorted;clear hso hsorted HI HR HNE HUP HA2;go_wp2_with fail;refine HSO.out.mono ?_;rintro e w4 ⟨rfl,nd,hw4⟩;obtain⟨X',bs2,hXp,hXs,hb2l,htree,hbel⟩:=HSD.out nd;rw[←hw4]at htree hbel;have HT:=Lq htree;have HBL:=Lq hbel;have HXP:=Lq hXp;have HXS:=Lq hXs;have hXpl:X'.length=l.length+1:=by rw[←hXp.length_eq];exact hXl
   obtain⟨N0,hN0⟩:=ex (X'.map ndOf);have hN0l:N0.length=l.length+1:=by rw[←hN0];simpa using hXpl
   have h0:∀nd∈N0,nd.kids=[]:=fun nd h=>by rw[←hN0]at h;obtain⟨x,_,rfl⟩:=List.mem_map.1 h;rfl
   have h2s:∀nd∈N0,nd.set<256∧nd.own<256:=fun nd h=>by rw[←hN0]at h;obtain⟨x,hx,rfl⟩:=List.mem_map.1 h;obtain⟨s,hs1,hs2⟩:=HSX.out x (hXp.mem_iff.2 hx);simp only[ndOf,hs2];exact⟨by omega,by omega⟩
   rw[hN0]at htree;have HN0:=Lq hN0;have HH0:=Lq h0;have HS0:Hid (∀(i j:Nat) (nd:Nd),(treeTo N0 i)[j]?=some nd→nd.set<256∧nd.own<256):=Lq fun i j nd h=>by obtain⟨nd0,e1,_,_,e4,e5⟩:=(shaped_tree h0 i).same j nd h;obtain⟨q1,q2⟩:=h2s nd0 (List.mem_of_getElem? e1);omega
   have HT:Hid (TreeAt w.heap.size w4 (.slice (some ⟨g,0,none⟩) (l.length+1) cap3) (treeTo N0 0) bs2 (fun _=>.slice none 0 0)):=Lq htree
   have HBL:=Lq hbel;have HXP:=Lq hXp;have HXS:=Lq hXs;have hb2:bs2.length=l.length+1:=by omega
   have hcap3:l.length+1≤cap3:=by omega
   clear hgc;clear htree hbel hXp hXs hw4 HSO HSD hsa hbs hb2l h0 h2s hN0 hXpl HSX HXF;clear bs;go_wp2_with fail;go_loopw [47] (fun vi wr=>∃(i:Nat) (ks:Nat→Value),i≤l.length+1∧vi=iv i∧Hid (TreeAt w.heap.size wr (.slice (some ⟨g,0,none⟩) (l.length+1) cap3) (treeTo N0 i) bs2 ks)∧Hid (BW w wr)) (fun vi _=>l.length+1-(intOf vi).toNat)
   case atStart=>exact⟨0,_,Nat.zero_le _,rfl,HT,HBL⟩
   case round =>
    clear HT HBL;obtain⟨i,ks,hi,rfl,HT,HB⟩:=hrel;by_cases hlt:i<l.length+1
    ·obtain⟨bi,ndi,hbi,hni,hsi,ci2,ci3,ci4,cif,hbi0,hbiS⟩:=HT.out.at (i:=i) (by omega)
     have hrow:=HT.out.row;rw[hb2]at hrow;have crow:=hrow.cellAt i (by omega)
     rw[List.getElem?_map,hbi]at crow;have hci:=HS0.out i i ndi hni;by_cases hil:i<l.length
     ·clear hrow;go_wp2_with fail;clear crow ci2 ci3 ci4 cif;go_loopw [57] (fun vj wr2=>∃j:Nat,i+1+j≤l.length+1∧vj=iv j∧Hid (TreeAt w.heap.size wr2 (.slice (some ⟨g,0,none⟩) (l.length+1) cap3) (treeTo N0 i) bs2 ks)∧Hid (BW w wr2)∧Hid (∀m,i<m→m<i+1+j→subN (setAt (treeTo N0 i) i) (setAt (treeTo N0 i) m)=false)) (fun vj _=>l.length+1-(intOf vj).toNat)
      case atStart=>exact⟨0,by omega,rfl,HT,HB,Lq (fun m a b=>by omega)⟩
      case round =>
       clear HT HB;obtain⟨j,hj,rfl,HT,HB,HNO⟩:=hrel;by_cases hjl:i+1+j<l.length+1
       ·obtain⟨bm,ndm,hbm,hnm,hsm,cm2,cm3,cm4,cmf,hbm0,hbmS⟩:=HT.out.at (i:=i+1+j) (by omega)
        obtain⟨ci2,ci3,ci4,fi3,fi4,hbiS⟩:=HT.out.cells hbi hni;have fm3:=cmf 3;have fm4:=cmf 4;clear cmf;have hcm:=HS0.out i (i+1+j) ndm hnm;have hrow:=HT.out.row;rw[hb2]at hrow;have crow:=hrow.cellAt (i+1+j) (by omega)
        rw[List.getElem?_map,hbm]at crow;clear hrow;have han:=andNot64 hci.1 hcm.1;have hsub:subN (setAt (treeTo N0 i) i) (setAt (treeTo N0 i) (i+1+j))=(((ndi.set&&&(255-ndm.set):Nat):Int)==0):=by rw[hsi,hsm];unfold subN;rw[Bool.eq_iff_iff];simp
        obtain⟨b,hb⟩:=ex ((((ndi.set&&&(255-ndm.set):Nat):Int)==0));rw[hb]at hsub;cases b
        ·go_wp2_with fail;go_quiet (fail)
         go_wp2
         go_roundw
         case rel =>
          refine⟨j+1,by omega,by go_num,Lq (HT.out.keep (belowN (bR _) _)),Lq (belowN HB.out _),Lq fun m a b=>?_⟩
          rcases Nat.lt_or_ge m (i+1+j)with hlt | hge
          ·exact HNO.out m a hlt
          ·obtain rfl:m=i+1+j:=by omega
           exact hsub
         case measure=>simp[intOf];omega
        ·have hup:=findUp_at (N:=treeTo N0 i) (i:=i) (m:=i+1+j) (by omega) (by rw[treeTo_len];omega) hsub HNO.out
         have HUP:=Lq hup;clear hup hsub;go_wp2_with fail;go_quiet (fail)
         obtain⟨wq,hwq⟩:=ex (wr.drewN nq);have hbq:BW w wq:=by rw[←hwq];exact belowN HB.out _
         have htq:=HT.out.keep (w':=wq) (by rw[←hwq];exact belowN (bR _) _)
         have hkid:=htq.kid (i+1+j) ndm hnm;obtain⟨ci2,ci3,ci4,fi3,fi4,hbiS⟩:=htq.cells hbi hni;obtain⟨cm2,cm3,cm4,fm3,fm4,hbmS⟩:=htq.cells hbm hnm;have hkb:∀b',bs2[i]?=some b'∨bs2[i+1+j]?=some b'→(ks (i+1+j)).ownBlock≠some b':=fun b' hb' e=>(htq.ka (i+1+j) (by omega) b' e).2.1 b' (hb'.elim List.mem_of_getElem? List.mem_of_getElem?) rfl
         have hkl:ndm.kids.length≤7:=by have:=kids_len HH0.out i (i+1+j) ndm hnm;omega
         rw[hwq];have HTQ:=Lq htq;have HBQ:=Lq hbq;have HAL:Hid ((wq.alloc (.cells #[ptr bi] 116)).ownsRow w.heap.size 116 1 (ks (i+1+j)) ndm.kids.length (ndm.kids.map (ptrAt bs2))):=Lq (hkid.alloc _);have hzq:=hbq.size;clear hkid htq hbq hwq HT HB nq;obtain⟨kv,hkv⟩:=ex (ks (i+1+j));rw[hkv]at HAL cm4 hkb;have HKV:=Lq hkv;clear hkv;go_wp2_with (at_builtin;refine wpList_append_own_at _ rfl _ _ 213 rfl w.heap.size 116 i2 (.pointer none) 1 8 Tryz.underlying213 hi2 hz20 hz21 hz22 rfl (by decide) _ _ _ rfl HAL.out ⟨wq.heap.size,0,none⟩ 1 1 [ptr bi] rfl rfl ?d1 ?d2 ?d3 ?d4 ?d5 ?_)
         case d1=>exact cell_one_new _ _ _
         case d2=>simp[Value.oneCell']
         case d3=>unfold maxLen;omega
         case d4=>omega
         case d5=>simp;omega
         intro v3 w3 hown3 hg3 _ hv3;obtain⟨g3,cap4,rfl,_,_,_⟩:=own_form hown3 (by omega)
         obtain⟨v3,hv3d⟩:=ex (Value.slice (some ⟨g3,0,none⟩) (ndm.kids.length+1) cap4);have hg3:(wq.alloc (.cells #[ptr bi] 116)).grownBy w3 kv.ownBlock:=hg3;have hv3:v3.ownBlock=kv.ownBlock∨v3.ownBlock=some (wq.heap.size+1):=by rw[←hv3d];simpa using hv3
         rw[hv3d]at hown3;have hnb:∀b',bs2[i]?=some b'∨bs2[i+1+j]?=some b'→some b'≠kv.ownBlock:=fun b' hb' e=>hkb b' hb' e.symm
         have cm3':=hg3.cell (keepA cm3 _) (hnb bm (.inr hbm));have cm4':=hg3.cell (keepA cm4 _) (hnb bm (.inr hbm));have ci2':=hg3.cell (keepA ci2 _) (hnb bi (.inl hbi));have fm3':w3.frozen? ⟨bm,3,none⟩=false:=by rw[World.frozen?_of_block (a:=⟨bm,3,none⟩) (hg3.block bm (by simp;omega) (hnb bm (.inr hbm))),keepAF hbmS];exact fm3
         have fm4':w3.frozen? ⟨bm,4,none⟩=false:=by rw[World.frozen?_of_block (a:=⟨bm,4,none⟩) (hg3.block bm (by simp;omega) (hnb bm (.inr hbm))),keepAF hbmS];exact fm4
         have hbne:bi≠bm:=fun e=>by have:=getElem_inj (HTQ.out.nodup) hbi (e▸hbm);omega
         have hpi:ptrAt bs2 i=ptr bi:=by unfold ptrAt;rw[hbi];rfl
         rw[←hpi]at hown3;have hgive:=fun hh=>(HTQ.out.keep (bA (bR wq) (.cells #[ptr bi] 116))).give (i:=i) hbm hnm (by rw[HKV.out];exact hg3) hown3 hh
         have hgive2:=hgive (by rw[HKV.out];rcases hv3 with h | h;exact .inl h;exact .inr ⟨_,h,by simp⟩)
         rw[←hv3d]at hgive2;rw[hsi]at hgive2;have hb3:BW w w3:=grownB HAL.out hg3 (lr _) (bA HBQ.out _);have HG:=Lq hgive2;have HB3:=Lq hb3;have hz3:=hb3.size;have han2:=andNot64 hcm.2 hci.1;clear hgive hgive2 hb3 hown3 hg3 hv3 hv3d hnb cm2 cm3 cm4 ci2 ci3 ci4 fi3 fi4 fm3 fm4 hkb HTQ HBQ HAL HKV crow han;go_wp2_with fail;obtain⟨wx,hwx⟩:=ex (w3.setCell ⟨bm,4,none⟩ (.slice (some ⟨g3,0,none⟩) (ndm.kids.length+1) cap4));have cm3:wx.cell? ⟨bm,3,none⟩=some (iv (ndm.own:Int)):=by rw[←hwx,World.cell?_setCell_other _ _ _ _ (fun e=>by injection e with _ e;exact absurd e (by decide))];exact cm3'
         have ci2:wx.cell? ⟨bi,2,none⟩=some (iv (ndi.set:Int)):=by rw[←hwx];exact keepSet ci2' hbne
         have fm3:wx.frozen? ⟨bm,3,none⟩=false:=by rw[←hwx,World.frozen?_setCell];exact fm3'
         have hbx:BW w wx:=by rw[←hwx];exact belowS HB3.out hbm0 _
         have HG:=HG.out;rw[hwx]at HG ⊢;have HG:=Lq HG;have HBX:=Lq hbx;clear hbx hwx cm3' cm4' ci2' fm3' fm4' HB3 hv3 hpi
         go_region
         all_goals go_wp2_with fail
         exact⟨⟨i+1,_,by omega,by go_num,Lq (by rw[tree_go HUP.out];exact HG.out.keep (belowDrB (bR _))),Lq (belowDrB (belowS HBX.out hbm0 _))⟩,by simp[intOf];omega⟩
       ·obtain rfl:j=l.length-i:=by omega
        have hno:=findUp_no (N:=treeTo N0 i) (i:=i) (fun k a b=>HNO.out k a (by rw[treeTo_len]at b;omega))
        have HNU:=Lq hno;clear hno HNO;go_wp2_with fail;exact⟨⟨i+1,ks,by omega,by go_num,Lq (by rw[tree_no HNU.out];exact HT.out),HB⟩,by simp[intOf];omega⟩
     ·obtain rfl:i=l.length:=by omega
      have hno:=findUp_no (N:=treeTo N0 l.length) (i:=l.length) (fun k a b=>by rw[treeTo_len]at b;omega)
      have HNU:=Lq hno;clear hno hrow;by_cases hc:cap3=l.length+1
      ·subst hc;go_wp2_with fail;refine wp_loop_rounds 1 ?_;rw[rounds_succ];go_wp2_with fail;exact⟨⟨l.length+1,ks,lr _,by go_num,Lq (by rw[tree_no HNU.out];exact HT.out),HB⟩,by simp[intOf]⟩
      ·go_wp2_with fail;refine wp_loop_rounds 1 ?_;rw[rounds_succ];go_wp2_with fail;exact⟨⟨l.length+1,ks,lr _,by go_num,Lq (by rw[tree_no HNU.out];exact HT.out),HB⟩,by simp[intOf]⟩
    ·obtain rfl:i=l.length+1:=by omega
     have hrow:=HT.out.row;rw[hb2]at hrow;have crow:=hrow.cellAt l.length (by omega)
     obtain⟨br,hbr⟩:∃br,bs2[l.length]?=some br:=⟨_,gE (by omega)⟩
     rw[List.getElem?_map,hbr]at crow;clear hrow;go_wp2_with fail;have hkid:=(shaped_tree HH0.out (l.length+1)).kid;have hlen:(treeTo N0 (l.length+1)).length=l.length+1:=by rw[treeTo_len];exact hN0l
     exact HGOAL.out _ _ ⟨br,treeTo N0 (l.length+1),bs2,X',rfl,HB.out,HXP.out,HXS.out,by rw[HN0.out],HT.out.tab hkid,by rw[hlen];exact hbr,fun km hkm=>HT.out.tabOff hkm⟩
end Go.Proofs.YtigcophcpboanaaGreatDoor
namespace Go.Proofs.YtigcophcpboanaaGreatDoor
open Go.RowKit Go.Maps
section
variable{n:Nat}
def crossN(a b:Nat):Bool:=(a&&&b) != 0&&(a&&&b) != a&&(a&&&b) != b
def crossB(l:List Wgh)(s:Nat):Bool:=l.any fun y=>crossN s y.set.toNat
def weighedE(n:Nat)(js:List (Int×Int))(l:List Wgh)(i:Nat):Int:=match l[i]? with
 | some x=>if blockE n js x.set=0 then(if crossB (l.take i) x.set.toNat then 6 else rangeE 0 1000000 x.lo x.hi)else blockE n js x.set
 | none=>0
def weighedsE(h:Hul)(l:List Wgh):Int:=match firstBad (weighedE h.ps.length h.js l) l.length with
 | some p=>p.2
 | none=>0
def openPre(h:Hul)(l:List Wgh):Int:=if(checkE h).2.2=0 then(if l.length≤6 then weighedsE h l else 3)else(checkE h).2.2
def IsTree(h:Hul)(l:List Wgh)(N:List Nd):Prop:=∃X:List Wgh,(allWB l h.ps.length).Perm X∧X.Pairwise (fun a b=>onesN a.set.toNat≤onesN b.set.toNat)∧N=treeTo (X.map ndOf) (l.length+1)
theorem firstBad_none{f:Nat→Int}(h:firstBad f n=none):∀i,i<n→f i=0:=by
 intro i hi;unfold firstBad at h;rw[List.findSome?_eq_none_iff]at h;have:=h i (by simpa using hi)
 by_cases h0:f i=0
 ·exact h0
 ·rw[if_neg h0]at this;cases this
theorem firstBad_some{f:Nat→Int}{i:Nat}{e:Int}(h:firstBad f n=some (i,e)):i<n∧e=f i∧e≠0:=by
 unfold firstBad at h;obtain⟨k,hk,hs⟩:=List.exists_of_findSome?_eq_some h;simp at hk;by_cases h0:f k=0
 ·rw[if_pos h0]at hs;cases hs
 ·rw[if_neg h0]at hs;injection hs with hs
  injection hs with h1 h2
  subst h1;exact⟨hk,h2.symm,by rw[←h2];exact h0⟩
theorem rangeE_zero{L H lo hi:Int}(h:rangeE L H lo hi=0):L≤lo∧lo≤hi∧hi≤H:=by
 unfold rangeE at h;split at h
 ·rename_i hb;rw[Bool.and_eq_true]at hb;have h1:=inB_t hb.1;have h2:=inB_t hb.2;split at h
  ·omega
  ·omega
 ·omega
theorem blockE_zero{js:List (Int×Int)}{set:Int}(hn:n≤8)(h:blockE n js set=0):∃s:Nat,s<256∧0<s∧s<2^n∧set=(s:Int)∧hangsB js s=true:=by
 unfold blockE at h;split at h
 ·rename_i hb;have h1:=inB_t hb;have h2:2^n≤256:=by
   have:=Nat.pow_le_pow_right (show 0<2 by decide) hn
   omega
  have h3:((2:Int)^n)=((2^n:Nat):Int):=by rw[Int.natCast_pow];rfl
  rw[h3]at h1;refine⟨set.toNat,by omega,by omega,by omega,by omega, ?_⟩
  split at h
  ·assumption
  ·omega
 ·omega
structure HulOk(h:Hul):Prop where
 n1:1≤h.ps.length
 n8:h.ps.length≤8
 j12:h.js.length≤12
 s1:1≤h.slo
 s2:h.slo≤h.shi
 s3:h.shi≤2000
 w1:1≤h.winch
 w2:h.winch≤10000000
 ps:PsOk h.ps
 js:JsOk h.ps.length h.js
theorem hulOk{h:Hul}(hc:(checkE h).2.2=0):HulOk h:=by
 unfold checkE at hc;split at hc
 case isFalse=>simp at hc
 rename_i h1;rw[Bool.and_eq_true]at h1;have a1:=inB_t h1.1;have a2:h.js.length≤12:=by simpa using h1.2
 split at hc
 case isFalse=>simp at hc
 rename_i h2;rw[Bool.and_eq_true,Bool.and_eq_true]at h2;have b1:=inB_t h2.1.1;have b2:=inB_t h2.1.2;have b3:=inB_t h2.2;split at hc
 case isTrue=>simp at hc
 unfold listsE at hc;split at hc
 case h_1 i e hf =>
  have:=(firstBad_some hf).2.2;exact absurd hc this
 case h_2 hp =>
  split at hc
  case h_1 i e hf =>
   have:=(firstBad_some hf).2.2;exact absurd hc this
  case h_2 hj =>
   refine⟨by omega,by omega,a2,by omega,by omega,by omega,by omega,by omega,fun p hp1=>?_,fun j hj1=>?_⟩
   ·obtain⟨i,hi⟩:=List.getElem?_of_mem hp1;have hz:=firstBad_none hp i (lG hi);unfold partE at hz;rw[hi]at hz;simp only at hz;split at hz
    ·obtain⟨c1,c2,c3⟩:=rangeE_zero hz;exact⟨c1,c2,c3⟩
    ·exact absurd hz (by assumption)
   ·obtain⟨i,hi⟩:=List.getElem?_of_mem hj1;have hz:=firstBad_none hj i (lG hi);unfold jointE at hz;rw[hi]at hz;simp only at hz;split at hz
    ·rename_i hb;rw[Bool.and_eq_true]at hb;have c1:=inB_t hb.1;have c2:=inB_t hb.2;split at hz
     ·omega
     ·omega
    ·omega
theorem openPre_zero{h:Hul}{l:List Wgh}(hp:openPre h l=0):(checkE h).2.2=0∧l.length≤6∧∀i,i<l.length→weighedE h.ps.length h.js l i=0:=by
 unfold openPre at hp;split at hp
 ·rename_i h1;split at hp
  ·rename_i h2;refine⟨h1,h2, ?_⟩;unfold weighedsE at hp;split at hp
   ·rename_i p hf;obtain⟨i,e⟩:=p;have:=(firstBad_some hf).2.2;exact absurd hp this
   ·rename_i hf;exact firstBad_none hf
  ·omega
 ·exact absurd hp (by assumption)
theorem wghs_ok{h:Hul}{l:List Wgh}(hp:openPre h l=0):∀x∈l,∃s:Nat,s<256∧0<s∧s<2^h.ps.length∧x.set=(s:Int)∧hangsB h.js s=true∧0≤x.lo∧x.lo≤x.hi∧x.hi≤1000000:=by
 obtain⟨h1,_,h3⟩:=openPre_zero hp;have hk:=hulOk h1;intro x hx;obtain⟨i,hi⟩:=List.getElem?_of_mem hx;have hz:=h3 i (lG hi);unfold weighedE at hz;rw[hi]at hz;simp only at hz;split at hz
 ·rename_i hb;obtain⟨s,a1,a2,a3,a4,a5⟩:=blockE_zero hk.n8 hb;split at hz
  ·omega
  ·obtain⟨c1,c2,c3⟩:=rangeE_zero hz;exact⟨s,a1,a2,a3,a4,a5,c1,c2,c3⟩
 ·exact absurd hz (by assumption)
theorem treeOk_isTree{h:Hul}{l:List Wgh}{N:List Nd}(hp:openPre h l=0)(hN:IsTree h l N):TreeOk h.ps N:=by
 obtain⟨h1,h2,_⟩:=openPre_zero hp;have hk:=hulOk h1;obtain⟨X,p1,_,rfl⟩:=hN;have hl:(X.map ndOf).length=l.length+1:=by rw[List.length_map,←p1.length_eq,allW_len]
 have ho:=treeOk_of (ps:=h.ps) (N0:=X.map ndOf) hk.ps hk.n8 (fun nd hnd=>by obtain⟨x,_,rfl⟩:=List.mem_map.1 hnd;rfl) (fun nd hnd=>by
  obtain⟨x,hx,rfl⟩:=List.mem_map.1 hnd;have hn8:=hk.n8;rcases List.mem_append.1 (p1.mem_iff.2 hx)with hx | hx
  ·obtain⟨s,a1,a2,a3,a4,_,a5,a6,a7⟩:=wghs_ok hp x hx;simp only[ndOf,a4];omega
  ·rw[List.mem_singleton.1 hx];have:2^h.ps.length≤256:=by
    have:=Nat.pow_le_pow_right (show 0<2 by decide) hk.n8
    omega
   simp only[ndOf];omega) (by omega) (by omega)
 rwa [hl]at ho
end
end Go.Proofs.YtigcophcpboanaaGreatDoor
namespace Go.Proofs.YtigcophcpboanaaGreatDoor
section
variable{hi lo:Int}{j:Nat}
def sumTo(w:Nat→Int)(P:Nat→Bool):Nat→Int
 | 0=>0
 | k+1=>sumTo w P k+if P k then w k else 0
def sumP(w:Nat→Int)(P:Nat→Bool):Int:=sumTo w P 8
def sumS(w:Nat→Int)(s:Nat):Int:=sumP w (fun i=>s.testBit i)
theorem sumTo_congr{w w':Nat→Int}{P Q:Nat→Bool}:∀k,(∀i,i<k→P i=Q i)→(∀i,i<k→P i=true→w i=w' i)→sumTo w P k=sumTo w' Q k:=by
 intro k;induction k with
 | zero=>intros;rfl
 | succ k ih =>
  intro h1 h2;simp only[sumTo];rw[ih (fun i hi=>h1 i (by omega)) (fun i hi=>h2 i (by omega)),←h1 k (by omega)]
  cases hk:P k with
  | true=>rw[if_pos rfl,if_pos rfl,h2 k (by omega) hk]
  | false=>simp
theorem sumP_congr{w w':Nat→Int}{P Q:Nat→Bool}(h1:∀i,i<8→P i=Q i)(h2:∀i,i<8→P i=true→w i=w' i):sumP w P=sumP w' Q:=sumTo_congr 8 h1 h2
theorem sumTo_union{w:Nat→Int}{P Q:Nat→Bool}:∀k,(∀i,i<k→¬(P i=true∧Q i=true))→sumTo w (fun i=>P i||Q i) k=sumTo w P k+sumTo w Q k:=by
 intro k;induction k with
 | zero=>intros;rfl
 | succ k ih =>
  intro h;simp only[sumTo];rw[ih (fun i hi=>h i (by omega))]
  have:=h k (by omega)
  by_cases hp:P k=true
  ·by_cases hq:Q k=true
   ·exact absurd ⟨hp,hq⟩ this
   ·rw[if_pos hp,if_neg hq,if_pos (by simp[hp])];omega
  ·by_cases hq:Q k=true
   ·rw[if_neg hp,if_pos hq,if_pos (by simp[hq])];omega
   ·rw[if_neg hp,if_neg hq,if_neg (by simp[hp,hq])];omega
theorem sumP_union{w:Nat→Int}{P Q:Nat→Bool}(h:∀i,i<8→¬(P i=true∧Q i=true)):sumP w (fun i=>P i||Q i)=sumP w P+sumP w Q:=sumTo_union 8 h
theorem sumTo_none{w:Nat→Int}{P:Nat→Bool}:∀k,(∀i,i<k→P i=false)→sumTo w P k=0:=by
 intro k;induction k with
 | zero=>intros;rfl
 | succ k ih =>
  intro h;simp only[sumTo];rw[ih (fun i hi=>h i (by omega)),h k (by omega)]
  simp
theorem sumTo_one{w:Nat→Int}{P:Nat→Bool}:∀k,j<k→(∀i,i<k→P i=decide (i=j))→sumTo w P k=w j:=by
 intro k;induction k with
 | zero=>intro h;omega
 | succ k ih =>
  intro hj h;simp only[sumTo];rw[h k (by omega)]
  by_cases hk:k=j
  ·subst hk;rw[sumTo_none k (fun i hi=>by rw[h i (by omega)];simp;omega)]
   simp
  ·rw[ih (by omega) (fun i hi=>h i (by omega))]
   simp[hk]
structure Good(S P:Nat→Bool)(F:(Nat→Int)→Prop)(m:Mass):Prop where
 up:∀w,F w→m.alo≤sumP w P∧sumP w P≤m.ahi∧sumP w (fun i=>P i&&S i)≤m.shi∧sumP w (fun i=>P i&&S i)≤m.slo+sumP w P-m.alo
 is:∀t,m.alo≤t→t≤m.ahi→∃w,F w∧sumP w P=t∧sumP w (fun i=>P i&&S i)=min m.shi (m.slo+t-m.alo)
 a:m.alo≤m.ahi
 s:m.slo≤m.shi
 d:m.shi-m.slo≤m.ahi-m.alo
 loc:∀w w',(∀i,i<8→P i=true→w i=w' i)→F w→F w'
theorem Good.congr{S P Q:Nat→Bool}{F G:(Nat→Int)→Prop}{m:Mass}(h:Good S P F m)(hP:∀i,i<8→P i=Q i)(hF:∀w,F w↔G w):Good S Q G m:=by
 have e1:∀w,sumP w Q=sumP w P:=fun w=>sumP_congr (fun i hi=>(hP i hi).symm) (fun _ _ _=>rfl)
 have e2:∀w,sumP w (fun i=>Q i&&S i)=sumP w (fun i=>P i&&S i):=fun w=>sumP_congr (fun i hi=>by rw[hP i hi]) (fun _ _ _=>rfl)
 refine⟨fun w hw=>?_,fun t h1 h2=>?_,h.a,h.s,h.d,fun w w' hww hw=>(hF w').1 (h.loc w w' (fun i hi hp=>hww i hi (by rw[←hP i hi];exact hp)) ((hF w).2 hw))⟩
 ·rw[e1,e2];exact h.up w ((hF w).2 hw)
 ·obtain⟨w,a,b,c⟩:=h.is t h1 h2;exact⟨w,(hF w).1 a,by rw[e1];exact b,by rw[e2];exact c⟩
theorem Good.none(S:Nat→Bool):Good S (fun _=>false) (fun _=>True) ⟨0,0,0,0⟩:=by
 have e:∀w:Nat→Int,sumP w (fun _=>false)=0:=fun w=>sumTo_none 8 fun _ _=>rfl
 refine⟨fun w _=>?_,fun t h1 h2=>⟨fun _=>0,trivial, ?_, ?_⟩,by simp,by simp,by simp,fun _ _ _ _=>trivial⟩
 ·simp only[Bool.false_and,e];omega
 ·rw[e];simp only at h1 h2;omega
 ·simp only[Bool.false_and,e];simp only at h1 h2;omega
theorem Good.part(S:Nat→Bool)(hj:j<8)(h:lo≤hi):Good S (fun i=>decide (i=j)) (fun w=>lo≤w j∧w j≤hi) (if S j then⟨lo,hi,lo,hi⟩else⟨lo,hi,0,0⟩):=by
 have e:∀w:Nat→Int,sumP w (fun i=>decide (i=j))=w j:=fun w=>sumTo_one 8 hj fun _ _=>rfl
 cases hs:S j with
 | true =>
  have e2:∀w:Nat→Int,sumP w (fun i=>decide (i=j)&&S i)=w j:=fun w=>sumTo_one 8 hj fun i _=>by
   by_cases hij:i=j
   ·subst hij;simp[hs]
   ·simp[hij]
  refine⟨fun w hw=>?_,fun t h1 h2=>⟨fun _=>t, ?_, ?_, ?_⟩, ?_, ?_, ?_,fun w w' hww hw=>by rw[←hww j hj (by simp)];exact hw⟩
  all_goals simp only[if_true,e,e2]at *
  all_goals omega
 | false =>
  have e2:∀w:Nat→Int,sumP w (fun i=>decide (i=j)&&S i)=0:=fun w=>sumTo_none 8 fun i _=>by
   by_cases hij:i=j
   ·subst hij;simp[hs]
   ·simp[hij]
  refine⟨fun w hw=>?_,fun t h1 h2=>⟨fun _=>t, ?_, ?_, ?_⟩, ?_, ?_, ?_,fun w w' hww hw=>by rw[←hww j hj (by simp)];exact hw⟩
  all_goals simp only[Bool.false_eq_true,if_false,e,e2]at *
  all_goals omega
theorem Good.add{S P Q:Nat→Bool}{F G:(Nat→Int)→Prop}{m y:Mass}(h:Good S P F m)(k:Good S Q G y)(hd:∀i,i<8→¬(P i=true∧Q i=true)):Good S (fun i=>P i||Q i) (fun w=>F w∧G w) (addM m y):=by
 have e1:∀w,sumP w (fun i=>P i||Q i)=sumP w P+sumP w Q:=fun w=>sumP_union hd
 have e2:∀w,sumP w (fun i=>(P i||Q i)&&S i)=sumP w (fun i=>P i&&S i)+sumP w (fun i=>Q i&&S i):=fun w=>by
  rw[←sumP_union (fun i hi h=>hd i hi (by simp only[Bool.and_eq_true]at h;exact⟨h.1.1,h.2.1⟩))]
  exact sumP_congr (fun i _=>by cases P i<;>cases Q i<;>cases S i<;>rfl) (fun _ _ _=>rfl)
 have ha:=h.a;have hs:=h.s;have hdd:=h.d;have ka:=k.a;have ks:=k.s;have kd:=k.d;refine⟨fun w hw=>?_,fun t h1 h2=>?_,by simp only[addM];omega,by simp only[addM];omega,by simp only[addM];omega,fun w w' hww hw=>⟨h.loc w w' (fun i hi hp=>hww i hi (by simp[hp])) hw.1,k.loc w w' (fun i hi hp=>hww i hi (by simp[hp])) hw.2⟩⟩
 ·have a1:=h.up w hw.1;have a2:=k.up w hw.2;rw[e1,e2];simp only[addM];omega
 ·simp only[addM]at h1 h2;obtain⟨t1,t2,q0,q1,q2,q3,q4,q5⟩:∃t1 t2:Int,t1+t2=t∧m.alo≤t1∧t1≤m.ahi∧y.alo≤t2∧t2≤y.ahi∧min m.shi (m.slo+t1-m.alo)+min y.shi (y.slo+t2-y.alo)=min (m.shi+y.shi) (m.slo+y.slo+t-(m.alo+y.alo)):=by
   by_cases hx:t-m.alo-y.alo≤(m.shi-m.slo)+(y.shi-y.slo)
   ·exact⟨m.alo+min (t-m.alo-y.alo) (m.shi-m.slo),t-(m.alo+min (t-m.alo-y.alo) (m.shi-m.slo)),by omega,by omega,by omega,by omega,by omega,by omega⟩
   ·exact⟨m.alo+((m.shi-m.slo)+min (t-m.alo-y.alo-(m.shi-m.slo)-(y.shi-y.slo)) ((m.ahi-m.alo)-(m.shi-m.slo))),t-(m.alo+((m.shi-m.slo)+min (t-m.alo-y.alo-(m.shi-m.slo)-(y.shi-y.slo)) ((m.ahi-m.alo)-(m.shi-m.slo)))),by omega,by omega,by omega,by omega,by omega,by omega⟩
  obtain⟨w1,a1,a2,a3⟩:=h.is t1 q1 q2;obtain⟨w2,b1,b2,b3⟩:=k.is t2 q3 q4;have f1:∀i,i<8→P i=true→w1 i=(if P i then w1 i else w2 i):=fun i _ hp=>by simp[hp]
  have f2:∀i,i<8→Q i=true→w2 i=(if P i then w1 i else w2 i):=fun i hi hq=>by
   have:=hd i hi;cases hp:P i with
   | true=>exact absurd ⟨hp,hq⟩ this
   | false=>simp
  refine⟨fun i=>if P i then w1 i else w2 i,⟨h.loc w1 _ f1 a1,k.loc w2 _ f2 b1⟩, ?_, ?_⟩
  ·rw[e1,←sumP_congr (w:=w1) (fun _ _=>rfl) f1,←sumP_congr (w:=w2) (fun _ _=>rfl) f2,a2,b2]
   exact q0
  ·rw[e2,←sumP_congr (w:=w1) (P:=fun i=>P i&&S i) (fun _ _=>rfl) (fun i hi hp=>f1 i hi (by simp only[Bool.and_eq_true]at hp;exact hp.1)),←sumP_congr (w:=w2) (P:=fun i=>Q i&&S i) (fun _ _=>rfl) (fun i hi hp=>f2 i hi (by simp only[Bool.and_eq_true]at hp;exact hp.1)),a3,b3]
   simp only[addM];exact q5
theorem Good.cap{S P:Nat→Bool}{F:(Nat→Int)→Prop}{m:Mass}(h:Good S P F m)(hc:max m.alo lo≤min m.ahi hi):Good S P (fun w=>F w∧lo≤sumP w P∧sumP w P≤hi) (capM lo hi m).1:=by
 have ha:=h.a;have hs:=h.s;have hdd:=h.d;refine⟨fun w hw=>?_,fun t h1 h2=>?_,by simp only[capM];omega,by simp only[capM];omega,by simp only[capM];omega,fun w w' hww hw=>⟨h.loc w w' hww hw.1,by rw[←sumP_congr (w:=w) (fun _ _=>rfl) hww];exact hw.2⟩⟩
 ·have:=h.up w hw.1;have h2:=hw.2;simp only[capM];omega
 ·simp only[capM]at h1 h2;obtain⟨w,a1,a2,a3⟩:=h.is t (by omega) (by omega)
  refine⟨w,⟨a1,by omega,by omega⟩,a2, ?_⟩
  rw[a3];simp only[capM];omega
def Good2(S P:Nat→Bool)(F:(Nat→Int)→Prop)(r:Mass×Bool):Prop:=(r.2=true→Good S P F r.1)∧(r.2=false→∀w,¬F w)
theorem Good2.congr{S P Q:Nat→Bool}{F G:(Nat→Int)→Prop}{r:Mass×Bool}(h:Good2 S P F r)(hP:∀i,i<8→P i=Q i)(hF:∀w,F w↔G w):Good2 S Q G r :=
 ⟨fun hr=>(h.1 hr).congr hP hF,fun hr w hw=>h.2 hr w ((hF w).2 hw)⟩
theorem Good2.add{S P Q:Nat→Bool}{F G:(Nat→Int)→Prop}{r s:Mass×Bool}(h:Good2 S P F r)(k:Good2 S Q G s)(hd:∀i,i<8→¬(P i=true∧Q i=true)):Good2 S (fun i=>P i||Q i) (fun w=>F w∧G w) (addM r.1 s.1,r.2&&s.2):=by
 refine⟨fun hr=>?_,fun hr w hw=>?_⟩
 ·simp only[Bool.and_eq_true]at hr;exact(h.1 hr.1).add (k.1 hr.2) hd
 ·simp only[Bool.and_eq_false_iff]at hr;rcases hr with hr | hr
  ·exact h.2 hr w hw.1
  ·exact k.2 hr w hw.2
theorem Good2.cap{S P:Nat→Bool}{F:(Nat→Int)→Prop}{r:Mass×Bool}(h:Good2 S P F r):Good2 S P (fun w=>F w∧lo≤sumP w P∧sumP w P≤hi) ((capM lo hi r.1).1,r.2&&(capM lo hi r.1).2):=by
 refine⟨fun hr=>?_,fun hr w hw=>?_⟩
 ·simp only[Bool.and_eq_true]at hr;exact(h.1 hr.1).cap (by simpa[capM]using hr.2)
 ·simp only[Bool.and_eq_false_iff]at hr;rcases hr with hr | hr
  ·exact h.2 hr w hw.1
  ·cases hr2:r.2 with
   | false=>exact h.2 hr2 w hw.1
   | true =>
    have:=(h.1 hr2).up w hw.1;have h3:=hw.2;simp only[capM,decide_eq_false_iff_not]at hr;omega
end
inductive Desc (N:List Nd):Nat→Nat→Prop
 | refl (i:Nat):Desc N i i
 | down {i k j:Nat} {nd:Nd}:N[i]?=some nd→k∈nd.kids→Desc N k j→Desc N i j
def OwnOk(ps:List Prt)(own:Nat)(w:Nat→Int)(k:Nat):Prop:=∀(i:Nat) (p:Prt),i<k→ps[i]?=some p→own.testBit i=true→p.lo≤w i∧w i≤p.hi
def NodeOk(ps:List Prt)(w:Nat→Int)(nd:Nd):Prop:=OwnOk ps nd.own w ps.length∧nd.lo≤sumS w nd.set∧sumS w nd.set≤nd.hi
def FeasT(N:List Nd)(ps:List Prt)(i:Nat)(w:Nat→Int):Prop:=∀(j:Nat) (nd:Nd),Desc N i j→N[j]?=some nd→NodeOk ps w nd
theorem feasT_iff{N:List Nd}{ps:List Prt}{i:Nat}{w:Nat→Int}{nd:Nd}(h:N[i]?=some nd):FeasT N ps i w↔(OwnOk ps nd.own w ps.length∧∀k∈nd.kids,FeasT N ps k w)∧nd.lo≤sumS w nd.set∧sumS w nd.set≤nd.hi:=by
 constructor
 ·intro hf;obtain⟨h1,h2⟩:=hf i nd (.refl i) h;exact⟨⟨h1,fun k hk j nd' hd hj=>hf j nd' (.down h hk hd) hj⟩,h2⟩
 ·rintro⟨⟨h1,h2⟩,h3⟩ j nd' hd hj;cases hd with
  | refl =>
   rw[h]at hj;injection hj with hj
   subst hj;exact⟨h1,h3⟩
  | down he hk hd =>
   rw[h]at he;injection he with he
   subst he;exact h2 _ hk j nd' hd hj
structure Lam(n:Nat)(N:List Nd):Prop where
 part:∀(i:Nat) (nd:Nd),N[i]?=some nd→∀p,p<8→(nd.set.testBit p=true↔(nd.own.testBit p=true∨∃k∈nd.kids,(setAt N k).testBit p=true))
 ownk:∀(i:Nat) (nd:Nd),N[i]?=some nd→∀p,p<8→nd.own.testBit p=true→∀k∈nd.kids,¬(setAt N k).testBit p=true
 kk:∀(i:Nat) (nd:Nd),N[i]?=some nd→nd.kids.Pairwise (fun k k'=>∀p,p<8→¬((setAt N k).testBit p=true∧(setAt N k').testBit p=true))
 kid:∀(i:Nat) (nd:Nd),N[i]?=some nd→∀k∈nd.kids,k<i
 own:∀(i:Nat) (nd:Nd),N[i]?=some nd→nd.own<2^n
theorem ownTo_good{ps:List Prt}(hp:PsOk ps)(h8:ps.length≤8)(own set:Nat):∀k,k≤ps.length→Good (fun i=>set.testBit i) (fun i=>own.testBit i&&decide (i<k)) (fun w=>OwnOk ps own w k) (ownTo ps own set k):=by
 intro k;induction k with
 | zero =>
  intro _;exact(Good.none _).congr (fun i _=>by simp) (fun w=>⟨fun _ i p hi=>by omega,fun _=>trivial⟩)
 | succ k ih =>
  intro hk;have hx:=gE (show k<ps.length by omega)
  obtain⟨p,hpk⟩:∃p,ps[k]?=some p:=⟨_,hx⟩;have hpo:=hp p (List.mem_of_getElem? hpk);have e:ownTo ps own set (k+1)=partM own set k p (ownTo ps own set k):=by rw[ownTo,hpk]
  rw[e];cases ho:own.testBit k with
  | true =>
   have e2:partM own set k p (ownTo ps own set k)=addM (ownTo ps own set k) (if set.testBit k then⟨p.lo,p.hi,p.lo,p.hi⟩else⟨p.lo,p.hi,0,0⟩):=by unfold partM hasPB addM;rw[ho];cases set.testBit k<;>simp
   rw[e2];refine((ih (by omega)).add (Good.part (fun i=>set.testBit i) (show k<8 by omega) hpo.2.1) (fun i _ hc=>by simp at hc;omega)).congr (fun i _=>?_) (fun w=>?_)
   ·by_cases hik:i=k
    ·subst hik;simp[ho]
    ·have:decide (i<k+1)=decide (i<k):=by simp;omega
     rw[this];simp[hik]
   ·constructor
    ·rintro⟨h1,h2⟩ i q hi hq hb;by_cases hik:i=k
     ·subst hik;rw[hpk]at hq;injection hq with hq
      subst hq;exact h2
     ·exact h1 i q (by omega) hq hb
    ·intro h;exact⟨fun i q hi hq hb=>h i q (by omega) hq hb,h k p (by omega) hpk ho⟩
  | false =>
   have e2:partM own set k p (ownTo ps own set k)=ownTo ps own set k:=by unfold partM hasPB;rw[ho];rfl
   rw[e2];refine(ih (by omega)).congr (fun i _=>?_) (fun w=>?_)
   ·by_cases hik:i=k
    ·subst hik;simp[ho]
    ·have:decide (i<k+1)=decide (i<k):=by simp;omega
     rw[this]
   ·constructor
    ·intro h1 i q hi hq hb;by_cases hik:i=k
     ·subst hik;rw[ho]at hb;cases hb
     ·exact h1 i q (by omega) hq hb
    ·intro h i q hi hq hb;exact h i q (by omega) hq hb
theorem upF_good{ps:List Prt}{N:List Nd}(hp:PsOk ps)(h8:ps.length≤8)(hL:Lam ps.length N)(set:Nat):∀(f i:Nat) (nd:Nd),i<f→N[i]?=some nd→Good2 (fun p=>set.testBit p) (fun p=>nd.set.testBit p) (FeasT N ps i) (upF N ps set f i):=by
 intro f;induction f with
 | zero=>intro i nd hi;omega
 | succ f ih =>
  intro i nd hi hn;have hown:=hL.own i nd hn;have h0:Good2 (fun p=>set.testBit p) (fun p=>nd.own.testBit p) (fun w=>OwnOk ps nd.own w ps.length) (ownTo ps nd.own set ps.length,true) :=
   ⟨fun _=>(ownTo_good hp h8 nd.own set ps.length (lr _)).congr (fun p _=>by
    by_cases hpl:p<ps.length
    ·simp[hpl]
    ·have:nd.own.testBit p=false:=Nat.testBit_lt_two_pow (lz hown (Nat.pow_le_pow_right (by decide) (by omega)))
     simp[this]) (fun _=>Iff.rfl),fun h=>by cases h⟩
  have hkids:∀k,k≤nd.kids.length→Good2 (fun p=>set.testBit p) (fun p=>nd.own.testBit p||(nd.kids.take k).any fun j=>(setAt N j).testBit p) (fun w=>OwnOk ps nd.own w ps.length∧∀j∈nd.kids.take k,FeasT N ps j w) (kidsTo N ps set f nd k):=by
   intro k;induction k with
   | zero =>
    intro _;rw[kidsTo_zero];exact h0.congr (fun p _=>by simp) (fun w=>⟨fun h=>⟨h,by simp⟩,fun h=>h.1⟩)
   | succ k ihk =>
    intro hk;have hj:nd.kids[k]?=some nd.kids[k]:=gE (by omega)
    obtain⟨j,hjd⟩:=ex (nd.kids[k]);rw[hjd]at hj;rw[kidsTo_succ hj];have hjm:=List.mem_of_getElem? hj;have hji:=hL.kid i nd hn j hjm;have hil:=(lG hn);have hjn:=gE (show j<N.length by omega)
    have hg:=ih j _ (by omega) hjn
    have hst:setAt N j=(N[j]'(by omega)).set:=setAt_some hjn
    have htk:nd.kids.take (k+1)=nd.kids.take k++[j]:=by rw[List.take_succ_eq_append_getElem (by omega),hjd]
    refine((ihk (by omega)).add hg (fun p hp8 hc=>?_)).congr (fun p _=>?_) (fun w=>?_)
    ·simp only[Bool.or_eq_true,List.any_eq_true]at hc;rcases hc with⟨hc | ⟨j',hj',hc⟩,hc2⟩
     ·exact hL.ownk i nd hn p hp8 hc j hjm (by rw[hst];exact hc2)
     ·have hpw:=hL.kk i nd hn;obtain⟨q,hq⟩:=List.getElem?_of_mem hj';have hql:q<k:=by
       have:=(lG hq);rw[List.length_take]at this;omega
      rw[List.getElem?_take_of_lt hql]at hq;obtain⟨hq1,hq2⟩:=List.getElem?_eq_some_iff.1 hq;have:=(List.pairwise_iff_getElem.1 hpw) q k hq1 (by omega) hql p hp8
      rw[hq2,hjd,hst]at this;exact this ⟨hc,hc2⟩
    ·rw[htk,List.any_append];simp[hst,Bool.or_assoc]
    ·rw[htk];constructor
     ·rintro⟨⟨h1,h2⟩,h3⟩;refine⟨h1,fun j' hj'=>?_⟩
      rcases List.mem_append.1 hj' with h | h
      ·exact h2 j' h
      ·rw[List.mem_singleton.1 h];exact h3
     ·rintro⟨h1,h2⟩;exact⟨⟨h1,fun j' hj'=>h2 j' (List.mem_append_left _ hj')⟩,h2 j (by simp)⟩
  rw[upF_at hn];refine((hkids nd.kids.length (lr _)).cap (lo:=nd.lo) (hi:=nd.hi)).congr (fun p hp8=>?_) (fun w=>?_)
  ·rw[List.take_length,Bool.eq_iff_iff];have:=hL.part i nd hn p hp8;rw[this];simp[List.any_eq_true]
  ·rw[feasT_iff hn,List.take_length];have e:sumP w (fun p=>nd.own.testBit p||nd.kids.any fun j=>(setAt N j).testBit p)=sumS w nd.set:=by
    refine sumP_congr (fun p hp8=>?_) (fun _ _ _=>rfl)
    rw[Bool.eq_iff_iff,hL.part i nd hn p hp8];simp[List.any_eq_true]
   rw[e]
section
variable{a b i p:Nat}
def subP(a b:Nat):Prop:=∀p,p<8→a.testBit p=true→b.testBit p=true
theorem testBit_not(ha:a<256)(hp:p<8):(255-a).testBit p=!a.testBit p:=by
 have:=Nat.testBit_two_pow_sub_succ (x:=a) (n:=8) (by omega) p
 rw[show 2^8-(a+1)=255-a from by omega]at this
 rw[this];simp[hp]
theorem bit_high(ha:a<256)(hp:8≤p):a.testBit p=false:=Nat.testBit_lt_two_pow (lz ha (Nat.pow_le_pow_right (n:=2) (by decide) hp))
theorem subN_iff(ha:a<256)(hb:b<256):subN a b=true↔subP a b:=by
 unfold subN;rw[beq_iff_eq];constructor
 ·intro h p hp h1;have:=congrArg (fun x=>x.testBit p) h
  simp only[Nat.testBit_and,Nat.zero_testBit,h1,Bool.true_and]at this;rw[testBit_not hb hp]at this
  simpa using this
 ·intro h;apply Nat.eq_of_testBit_eq;intro p;rw[Nat.testBit_and,Nat.zero_testBit];rcases Nat.lt_or_ge p 8 with hp | hp
  ·cases h1:a.testBit p with
   | false=>rfl
   | true=>rw[testBit_not hb hp,h p hp h1];rfl
  ·rw[bit_high ha hp];rfl
theorem ones_sub(h:subP a b):(List.range 8).filter (fun i=>a.testBit i)=((List.range 8).filter (fun i=>b.testBit i)).filter (fun i=>a.testBit i):=by
 rw[List.filter_filter];apply List.filter_congr;intro i hi;cases h1:a.testBit i with
 | false=>rfl
 | true=>rw[h i (by simpa using hi) h1];rfl
theorem ones_le(h:subP a b):onesN a≤onesN b:=by unfold onesN;rw[ones_sub h];exact List.length_filter_le _ _
theorem ones_eq(h:subP a b)(he:onesN b≤onesN a):subP b a:=by
 intro p hp hb;have h1:(((List.range 8).filter (fun i=>b.testBit i)).filter (fun i=>a.testBit i)).length=((List.range 8).filter (fun i=>b.testBit i)).length:=by have:=ones_le h;unfold onesN at this he;rw[ones_sub h]at this he;omega
 rw[List.length_filter_eq_length_iff]at h1;exact h1 p (List.mem_filter.2 ⟨by simpa using hp,hb⟩)
/-! What is first behind a node does not change while the tree is built. -/
theorem setAt_tree{N0:List Nd}(h0:∀nd∈N0,nd.kids=[])(k i:Nat):setAt (treeTo N0 k) i=setAt N0 i:=by
 have hs:=shaped_tree h0 k;cases h:(treeTo N0 k)[i]? with
 | none =>
  have:N0[i]?=none:=by rw[List.getElem?_eq_none_iff]at h ⊢;rw[hs.len]at h;exact h
  unfold setAt;rw[h,this]
 | some nd =>
  obtain⟨nd0,e1,_,_,e4,_⟩:=hs.same i nd h;rw[setAt_some h,setAt_some e1,e4]
theorem findUp_tree{N0:List Nd}(h0:∀nd∈N0,nd.kids=[])(k i:Nat):findUp (treeTo N0 k) i=findUp N0 i:=by
 unfold findUp;rw[treeTo_len]
 congr 1
 funext m
 rw[setAt_tree h0,setAt_tree h0]
theorem tree_nodes{N0:List Nd}(h0:∀nd∈N0,nd.kids=[]∧nd.own=nd.set∧nd.set<256):∀k,k≤N0.length→∀(j:Nat) (nd:Nd),(treeTo N0 k)[j]?=some nd →
  nd.kids=(List.range k).filter (fun i=>findUp N0 i==some j)∧nd.own<256∧∀p,p<8→(nd.own.testBit p=true↔nd.set.testBit p=true∧∀i∈nd.kids,¬(setAt N0 i).testBit p=true):=by
 have h0':∀nd∈N0,nd.kids=[]:=fun nd h=>(h0 nd h).1
 intro k;induction k with
 | zero =>
  intro _ j nd h;obtain⟨h1,h2,h3⟩:=h0 nd (List.mem_of_getElem? h);exact⟨by rw[h1];rfl,by omega,fun p _=>by rw[h1,h2];simp⟩
 | succ k ih =>
  intro hk j nd h;have hfl:(List.range (k+1)).filter (fun i=>findUp N0 i==some j)=(List.range k).filter (fun i=>findUp N0 i==some j)++(if findUp N0 k==some j then[k]else[]):=by
   rw[List.range_succ,List.filter_append]
   congr 1
   cases hb:(findUp N0 k==some j)<;>simp[hb]
  rw[hfl];cases hu:findUp (treeTo N0 k) k with
  | none =>
   rw[tree_no hu]at h;rw[findUp_tree h0']at hu;rw[hu];obtain⟨a1,a2,a3⟩:=ih (by omega) j nd h
   exact⟨by simpa using a1,a2,a3⟩
  | some m =>
   rw[tree_go hu]at h;rw[findUp_tree h0']at hu;rw[hu];obtain⟨nd0,e1,_,_,e4,e5⟩:=giveTo_get _ _ _ _ _ h;obtain⟨a1,a2,a3⟩:=ih (by omega) j nd0 e1
   rcases e5 with⟨hj,rfl⟩ | ⟨rfl,e6,e7⟩
   ·have hne:(some m==some j)=false:=by simpa using fun e=>hj e.symm
    rw[hne];exact⟨by simpa using a1,a2,a3⟩
   ·rw[setAt_tree h0']at e6;have hks:setAt N0 k<256:=by
     have hl:=gE (show k<N0.length by omega)
     rw[setAt_some hl];exact(h0 _ (List.mem_of_getElem? hl)).2.2
    refine⟨by rw[e7,a1];simp,by rw[e6];exact Nat.lt_of_le_of_lt Nat.and_le_left a2,fun p hp=>?_⟩
    rw[e6,Nat.testBit_and,testBit_not hks hp,e7,e4];have:=a3 p hp;constructor
    ·intro hb;rw[Bool.and_eq_true]at hb;obtain⟨c1,c2⟩:=this.1 hb.1;refine⟨c1,fun i hi=>?_⟩
     rcases List.mem_append.1 hi with hi | hi
     ·exact c2 i hi
     ·rw[List.mem_singleton.1 hi]
      simpa using hb.2
    ·rintro⟨c1,c2⟩;rw[Bool.and_eq_true];refine⟨this.2 ⟨c1,fun i hi=>c2 i (List.mem_append_left _ hi)⟩, ?_⟩
     simpa using c2 k (by simp)
structure Sets(n:Nat)(N0:List Nd):Prop where
 n8:n≤8
 m1:0<N0.length
 z:∀nd∈N0,nd.kids=[]∧nd.own=nd.set∧nd.set<2^n
 lam:∀i j,i<j→j<N0.length→(∀p,p<8→¬((setAt N0 i).testBit p=true∧(setAt N0 j).testBit p=true))∨subP (setAt N0 i) (setAt N0 j)∨subP (setAt N0 j) (setAt N0 i)
 ord:∀i j,i<j→j<N0.length→onesN (setAt N0 i)≤onesN (setAt N0 j)
 last:setAt N0 (N0.length-1)=2^n-1
section
variable {n:Nat} {N0:List Nd}
theorem Sets.p256(h:Sets n N0):2^n≤256:=by
 have:=Nat.pow_le_pow_right (show 0<2 by decide) h.n8
 omega
theorem Sets.lt(h:Sets n N0)(hi:i<N0.length):setAt N0 i<2^n:=by have hl:=gE hi;rw[setAt_some hl];exact(h.z _ (List.mem_of_getElem? hl)).2.2
theorem Sets.z'(h:Sets n N0):∀nd∈N0,nd.kids=[]∧nd.own=nd.set∧nd.set<256:=fun nd hnd=>by obtain⟨a,b,c⟩:=h.z nd hnd;have:=h.p256;exact⟨a,b,by omega⟩
theorem Sets.z0(h:Sets n N0):∀nd∈N0,nd.kids=[]:=fun nd hnd=>(h.z nd hnd).1
theorem Sets.sub_last(h:Sets n N0)(hi:i<N0.length):subP (setAt N0 i) (setAt N0 (N0.length-1)):=by
 intro p hp hb;rw[h.last,Nat.testBit_two_pow_sub_one];have:=h.lt hi;rcases Nat.lt_or_ge p n with h1 | h1
 ·simpa using h1
 ·rw[Nat.testBit_lt_two_pow (lz this (Nat.pow_le_pow_right (by decide) h1))]at hb
  cases hb
theorem Sets.up(h:Sets n N0)(hi:i<N0.length-1):∃q,findUp N0 i=some q:=by
 cases hu:findUp N0 i with
 | some q=>exact⟨q,rfl⟩
 | none =>
  unfold findUp at hu;rw[List.find?_range_eq_none]at hu;have:=hu (N0.length-1) (by omega)
  have h2:=(subN_iff (lz (h.lt (show i<N0.length by omega)) h.p256) (lz (h.lt (show N0.length-1<N0.length by omega)) h.p256)).2 (h.sub_last (show i<N0.length by omega))
  simp[h2]at this;omega
theorem findUp_first{N:List Nd}{m:Nat}(h:findUp N i=some m):∀k,i<k→k<m→subN (setAt N i) (setAt N k)=false:=by
 intro k h1 h2;unfold findUp at h;rw[List.find?_range_eq_some]at h;have:=h.2.2 k h2
 simpa[h1]using this
theorem Sets.lamTree(h:Sets n N0):Lam n (treeTo N0 N0.length):=by
 have hz:=h.z';have h0:=h.z0;have hs:=shaped_tree h0 N0.length;have hp:=h.p256;have hkm:∀(i:Nat) (nd:Nd),(treeTo N0 N0.length)[i]?=some nd→∀k∈nd.kids,k<N0.length∧findUp N0 k=some i:=fun i nd hi k hk=>by obtain⟨a1,_,_⟩:=tree_nodes hz N0.length (lr _) i nd hi;rw[a1,List.mem_filter]at hk;exact⟨by simpa using hk.1,by simpa using hk.2⟩
 have hset:∀(i:Nat) (nd:Nd),(treeTo N0 N0.length)[i]?=some nd→nd.set=setAt N0 i:=fun i nd hi=>by rw[←setAt_tree h0 N0.length i,setAt_some hi]
 refine⟨fun i nd hi p hp8=>?_,fun i nd hi p hp8 hb k hk=>?_,fun i nd hi=>?_,hs.kid,fun i nd hi=>?_⟩
 ·obtain⟨_,_,a3⟩:=tree_nodes hz N0.length (lr _) i nd hi;rw[a3 p hp8];constructor
  ·intro hb;by_cases hx:∃k∈nd.kids,(setAt N0 k).testBit p=true
   ·obtain⟨k,hk,hb2⟩:=hx;exact .inr ⟨k,hk,by rw[setAt_tree h0];exact hb2⟩
   ·exact .inl ⟨hb,fun k hk hb2=>hx ⟨k,hk,hb2⟩⟩
  ·rintro(⟨hb,_⟩ | ⟨k,hk,hb⟩)
   ·exact hb
   ·rw[setAt_tree h0]at hb;obtain⟨hkl,hku⟩:=hkm i nd hi k hk;obtain⟨_,hil,hsub⟩:=findUp_some hku;rw[hset i nd hi];exact(subN_iff (lz (h.lt hkl) hp) (lz (h.lt hil) hp)).1 hsub p hp8 hb
 ·obtain⟨_,_,a3⟩:=tree_nodes hz N0.length (lr _) i nd hi;rw[setAt_tree h0];exact((a3 p hp8).1 hb).2 k hk
 ·obtain⟨a1,_,_⟩:=tree_nodes hz N0.length (lr _) i nd hi;have hlt:nd.kids.Pairwise (· < ·):=by rw[a1];exact(List.pairwise_lt_range).filter _
  refine hlt.imp_of_mem fun{k k'} hk hk' hkk p hp8 hc=>?_
  obtain⟨hkl,hku⟩:=hkm i nd hi k hk;obtain⟨hkl',hku'⟩:=hkm i nd hi k' hk';rw[setAt_tree h0,setAt_tree h0]at hc;obtain⟨hki',_,_⟩:=findUp_some hku';have hno:=findUp_first hku k' hkk hki';have hsub:subP (setAt N0 k) (setAt N0 k'):=by
   rcases h.lam k k' hkk hkl' with hd | hd | hd
   ·exact absurd hc (hd p hp8)
   ·exact hd
   ·exact ones_eq hd (h.ord k k' hkk hkl')
  rw[(subN_iff (lz (h.lt hkl) hp) (lz (h.lt hkl') hp)).2 hsub]at hno;cases hno
 ·obtain⟨nd0,e1,_,_,_,e5⟩:=hs.same i nd hi;obtain⟨_,b,c⟩:=h.z nd0 (List.mem_of_getElem? e1);omega
theorem Desc.snoc{N:List Nd}{j k:Nat}{nd:Nd}(h:Desc N i j)(hn:N[j]?=some nd)(hk:k∈nd.kids):Desc N i k:=by
 induction h with
 | refl i=>exact .down hn hk (.refl k)
 | down h1 h2 _ ih=>exact .down h1 h2 (ih hn)
theorem Sets.desc(h:Sets n N0):∀d j,j+d=N0.length-1→Desc (treeTo N0 N0.length) (N0.length-1) j:=by
 intro d;induction d using Nat.strongRecOn with
 | _ d ih =>
  intro j hj;rcases Nat.eq_zero_or_pos d with rfl | hd
  ·obtain rfl:j=N0.length-1:=by omega
   exact .refl _
  ·obtain⟨q,hq⟩:=h.up (i:=j) (by omega)
   obtain⟨h1,h2,_⟩:=findUp_some hq;have hd2:=ih (N0.length-1-q) (by omega) q (by omega)
   have hn:=gE (show q<(treeTo N0 N0.length).length by rw[treeTo_len];exact h2)
   obtain⟨a1,_,_⟩:=tree_nodes h.z' N0.length (lr _) q _ hn;exact hd2.snoc hn (by rw[a1,List.mem_filter];exact⟨by simp;omega,by simp[hq]⟩)
theorem Lam.owner{N:List Nd}(hL:Lam n N)(hp:p<8):∀(i:Nat) (nd:Nd),N[i]?=some nd→nd.set.testBit p=true→∃(j:Nat) (nj:Nd),Desc N i j∧N[j]?=some nj∧nj.own.testBit p=true:=by
 intro i;induction i using Nat.strongRecOn with
 | _ i ih =>
  intro nd hn hb;rcases(hL.part i nd hn p hp).1 hb with h | ⟨k,hk,h⟩
  ·exact⟨i,nd,.refl i,hn,h⟩
  ·have hki:=hL.kid i nd hn k hk;have hil:=(lG hn);have hkn:=gE (show k<N.length by omega)
   rw[setAt_some hkn]at h;obtain⟨j,nj,a,b,c⟩:=ih k hki _ hkn h;exact⟨j,nj,.down hn hk a,b,c⟩
end
end
def TruthP(h:Hul)(l:List Wgh)(w:Nat→Int):Prop:=(∀(i:Nat) (p:Prt),h.ps[i]?=some p→p.lo≤w i∧w i≤p.hi)∧∀x∈l,x.lo≤sumS w x.set.toNat∧sumS w x.set.toNat≤x.hi
def LamW(x y:Wgh):Prop:=(∀p,p<8→¬(x.set.toNat.testBit p=true∧y.set.toNat.testBit p=true))∨subP x.set.toNat y.set.toNat∨subP y.set.toNat x.set.toNat
theorem LamW.symm{x y:Wgh}(h:LamW x y):LamW y x:=by
 rcases h with h | h | h
 ·exact .inl fun p hp hc=>h p hp ⟨hc.2,hc.1⟩
 ·exact .inr (.inr h)
 ·exact .inr (.inl h)
theorem crossN_no{a b:Nat}(h:crossN a b=false):(∀p,p<8→¬(a.testBit p=true∧b.testBit p=true))∨subP a b∨subP b a:=by
 unfold crossN at h;simp only[Bool.and_eq_false_iff,bne_eq_false_iff_eq]at h;rcases h with(h | h) | h
 ·refine .inl fun p _ hc=>?_
  have:=congrArg (fun x=>x.testBit p) h
  simp[hc.1,hc.2]at this
 ·refine .inr (.inl fun p _ hb=>?_)
  have:=congrArg (fun x=>x.testBit p) h
  simp only[Nat.testBit_and,hb,Bool.true_and]at this;exact this
 ·refine .inr (.inr fun p _ hb=>?_)
  have:=congrArg (fun x=>x.testBit p) h
  simp only[Nat.testBit_and,hb,Bool.and_true]at this;exact this
section
variable {h:Hul} {l:List Wgh}
theorem lam_list(hp:openPre h l=0):l.Pairwise LamW:=by
 obtain⟨_,_,h3⟩:=openPre_zero hp;rw[List.pairwise_iff_getElem];intro i j hi hj hij;have hz:=h3 j hj;unfold weighedE at hz;rw[gE hj]at hz;simp only at hz;split at hz
 ·split at hz
  ·omega
  ·rename_i hc;have hc:crossB (l.take j) l[j].set.toNat=false:=by simpa using hc
   unfold crossB at hc;rw[List.any_eq_false]at hc;have hm:l[i]∈l.take j:=by rw[List.mem_take_iff_getElem];exact⟨i,by omega,rfl⟩
   have:=hc _ hm;exact LamW.symm (crossN_no (by simpa using this))
 ·exact absurd hz (by assumption)
theorem all_set(n:Nat):((2^n-1:Nat):Int).toNat=2^n-1:=by omega
theorem sets_all(hp:openPre h l=0):∀x∈allWB l h.ps.length,x.set.toNat<2^h.ps.length∧(x.set.toNat:Int)=x.set:=by
 intro x hx;rcases List.mem_append.1 hx with hx | hx
 ·obtain⟨s,_,_,a3,a4,_⟩:=wghs_ok hp x hx;rw[a4];exact⟨by omega,by omega⟩
 ·rw[List.mem_singleton.1 hx];have:1≤2^h.ps.length:=Nat.one_le_two_pow;simp only;omega
theorem lam_all(hp:openPre h l=0):(allWB l h.ps.length).Pairwise LamW:=by
 unfold allWB;rw[List.pairwise_append];refine⟨lam_list hp,by simp,fun x hx y hy=>?_⟩
 rw[List.mem_singleton.1 hy];refine .inr (.inl fun p _ hb=>?_)
 simp only[all_set,Nat.testBit_two_pow_sub_one];have:=(sets_all hp x (List.mem_append_left _ hx)).1;rcases Nat.lt_or_ge p h.ps.length with h1 | h1
 ·simpa using h1
 ·rw[Nat.testBit_lt_two_pow (lz this (Nat.pow_le_pow_right (by decide) h1))]at hb
  cases hb
theorem sets_of(hp:openPre h l=0){X:List Wgh}(hX:(allWB l h.ps.length).Perm X)(hs:X.Pairwise (fun a b=>onesN a.set.toNat≤onesN b.set.toNat)):Sets h.ps.length (X.map ndOf):=by
 have hk:=hulOk (openPre_zero hp).1;have hl:(X.map ndOf).length=l.length+1:=by rw[List.length_map,←hX.length_eq,allW_len]
 have hXl:X.length=l.length+1:=by rw[←hX.length_eq,allW_len]
 have hat:∀i (hi:i<X.length),setAt (X.map ndOf) i=X[i].set.toNat:=fun i hi=>by
  have:(X.map ndOf)[i]?=some (ndOf X[i]):=by rw[List.getElem?_map,gE hi];rfl
  rw[setAt_some this];rfl
 have hlam:X.Pairwise LamW:=(hX.pairwise_iff (fun h=>LamW.symm h)).1 (lam_all hp)
 have hlt:∀x∈X,x.set.toNat<2^h.ps.length:=fun x hx=>(sets_all hp x (hX.mem_iff.2 hx)).1
 refine⟨hk.n8,by omega,fun nd hnd=>?_,fun i j hij hj=>?_,fun i j hij hj=>?_, ?_⟩
 ·obtain⟨x,hx,rfl⟩:=List.mem_map.1 hnd;exact⟨rfl,rfl,hlt x hx⟩
 ·rw[List.length_map]at hj;rw[hat i (by omega),hat j hj]
  exact List.pairwise_iff_getElem.1 hlam i j (by omega) hj hij
 ·rw[List.length_map]at hj;rw[hat i (by omega),hat j hj]
  exact List.pairwise_iff_getElem.1 hs i j (by omega) hj hij
 ·rw[List.length_map,hat _ (by omega)]
  have hm:(⟨((2^h.ps.length-1:Nat):Int),0,(h.ps.length:Int)*100000⟩:Wgh)∈X:=hX.mem_iff.1 (by simp[allWB])
  obtain⟨j,hj⟩:=List.getElem?_of_mem hm;obtain⟨hjl,hje⟩:=List.getElem?_eq_some_iff.1 hj;have hlast:=hlt _ (List.getElem_mem (show X.length-1<X.length by omega))
  have hsub:subP X[X.length-1].set.toNat (2^h.ps.length-1):=by
   intro p _ hb;rw[Nat.testBit_two_pow_sub_one];rcases Nat.lt_or_ge p h.ps.length with h1 | h1
   ·simpa using h1
   ·rw[Nat.testBit_lt_two_pow (lz hlast (Nat.pow_le_pow_right (by decide) h1))]at hb
    cases hb
  have hsub2:subP (2^h.ps.length-1) X[X.length-1].set.toNat:=by
   rcases Nat.lt_or_ge j (X.length-1)with hlt2 | hge
   ·have:=List.pairwise_iff_getElem.1 hs j (X.length-1) hjl (by omega) hlt2
    rw[hje]at this;simp only[all_set]at this;exact ones_eq hsub this
   ·obtain rfl:j=X.length-1:=by omega
    rw[hje];simp only[all_set];exact fun _ _ h=>h
  apply Nat.eq_of_testBit_eq;intro p;rcases Nat.lt_or_ge p 8 with hp8 | hp8
  ·rw[Bool.eq_iff_iff];exact⟨hsub p hp8,hsub2 p hp8⟩
  ·rw[Nat.testBit_two_pow_sub_one,Nat.testBit_lt_two_pow (lz hlast (Nat.pow_le_pow_right (by decide) (by have:=hk.n8;omega)))]
   simp;have:=hk.n8;omega
theorem sumTo_bd{w:Nat→Int}{P:Nat→Bool}{n:Nat}:∀k,(∀i,i<k→P i=true→i<n∧0≤w i∧w i≤100000)→0≤sumTo w P k∧sumTo w P k≤100000*(min k n:Nat):=by
 intro k;induction k with
 | zero=>intro _;simp[sumTo]
 | succ k ih =>
  intro hw;have:=ih (fun i hi=>hw i (by omega))
  have h2:=hw k (by omega)
  simp only[sumTo];cases hk:P k with
  | true =>
   have:=h2 hk;simp only[if_true];omega
  | false =>
   simp only[Bool.false_eq_true,if_false];omega
theorem truth_bd(hk:HulOk h){w:Nat→Int}(hw:TruthP h l w){s:Nat}(hs:s<2^h.ps.length):0≤sumS w s∧sumS w s≤100000*h.ps.length:=by
 have:=sumTo_bd (w:=w) (P:=fun i=>s.testBit i) (n:=h.ps.length) 8 (fun i _ hb=>by
  have hil:i<h.ps.length:=by
   rcases Nat.lt_or_ge i h.ps.length with h1 | h1
   ·exact h1
   ·rw[Nat.testBit_lt_two_pow (lz hs (Nat.pow_le_pow_right (by decide) h1))]at hb
    cases hb
  have hg:=gE hil;have a:=hw.1 i _ hg;have b:=hk.ps _ (List.mem_of_getElem? hg);omega)
 unfold sumS sumP;have:=hk.n8;omega
theorem wgh_truth(hp:openPre h l=0){N:List Nd}(hN:IsTree h l N)(set:Nat):Good2 (fun p=>set.testBit p) (fun p=>decide (p<h.ps.length)) (TruthP h l) (wgh h.ps N set):=by
 have hk:=hulOk (openPre_zero hp).1;obtain⟨X,hX,hs,rfl⟩:=hN;have hS:=sets_of hp hX hs;have hl:(X.map ndOf).length=l.length+1:=by rw[List.length_map,←hX.length_eq,allW_len]
 rw[←hl];have hL:=hS.lamTree;have hlen:(treeTo (X.map ndOf) (X.map ndOf).length).length=(X.map ndOf).length:=treeTo_len _ _;have hrt:=gE (show(X.map ndOf).length-1<(treeTo (X.map ndOf) (X.map ndOf).length).length by rw[hlen];omega)
 obtain⟨rt,hrtd⟩:∃rt,(treeTo (X.map ndOf) (X.map ndOf).length)[(X.map ndOf).length-1]?=some rt:=⟨_,hrt⟩;have hrs:rt.set=2^h.ps.length-1:=by rw[←setAt_some hrtd,setAt_tree hS.z0,hS.last]
 have hg:=upF_good hk.ps hk.n8 hL set (X.map ndOf).length ((X.map ndOf).length-1) rt (by omega) hrtd
 unfold wgh;rw[hlen];refine hg.congr (fun p _=>by rw[hrs,Nat.testBit_two_pow_sub_one]) (fun w=>?_)
 have hsame:=(shaped_tree hS.z0 (X.map ndOf).length).same;constructor
 ·intro hf;refine⟨fun i p hi=>?_,fun x hx=>?_⟩
  ·have hil:=(lG hi);have hn8:=hk.n8;obtain⟨j,nj,a,b,c⟩:=hL.owner (p:=i) (by omega) _ rt hrtd (by rw[hrs,Nat.testBit_two_pow_sub_one];simpa using hil)
   exact(hf j nj a b).1 i p hil hi c
  ·have hxX:x∈X:=hX.mem_iff.1 (List.mem_append_left _ hx);obtain⟨j,hj⟩:=List.getElem?_of_mem hxX;have hjl:=(lG hj);have hXl:X.length=(X.map ndOf).length:=by simp
   have hnj:=gE (show j<(treeTo (X.map ndOf) (X.map ndOf).length).length by rw[hlen];omega)
   obtain⟨nj,hnjd⟩:∃nj,(treeTo (X.map ndOf) (X.map ndOf).length)[j]?=some nj:=⟨_,hnj⟩;obtain⟨nd0,e1,e2,e3,e4,_⟩:=hsame j nj hnjd;rw[List.getElem?_map,hj]at e1;injection e1 with e1
   have hd:=hS.desc ((X.map ndOf).length-1-j) j (by omega)
   have:=(hf j nj hd hnjd).2;rw[e2,e3,e4,←e1]at this;exact this
 ·intro ht j nj _ hj;obtain⟨nd0,e1,e2,e3,e4,_⟩:=hsame j nj hj;refine⟨fun i p hi hip _=>ht.1 i p hip, ?_⟩
  rw[List.getElem?_map]at e1;cases hx:X[j]? with
  | none=>rw[hx]at e1;cases e1
  | some x =>
   rw[hx]at e1;injection e1 with e1
   have hxa:x∈allWB l h.ps.length:=hX.mem_iff.2 (List.mem_of_getElem? hx);rw[e2,e3,e4,←e1];rcases List.mem_append.1 hxa with hxl | hxl
   ·exact ht.2 x hxl
   ·rw[List.mem_singleton.1 hxl];have h1:1≤2^h.ps.length:=Nat.one_le_two_pow;have:=truth_bd hk ht (s:=2^h.ps.length-1) (by omega)
    simp only[ndOf,all_set];omega
end
end Go.Proofs.YtigcophcpboanaaGreatDoor
namespace Go.Proofs.YtigcophcpboanaaGreatDoor
open Go.RowKit Go.Maps
section
variable{i:Nat}
def OpenPostB(h:Hul)(A:Option Addr)(cap:Nat)(J:Option Addr)(capJ:Nat)(l:List Wgh)(w:World)(e:Ending)(w':World):Prop :=
 BW w w'∧((openPre h l≠0∧e=.returned (.tuple #[.pointer none,iv (openPre h l)]))∨(openPre h l=0∧∃N,IsTree h l N∧(((wgh h.ps N 0).2=false∧e=.returned (.tuple #[.pointer none,iv 9]))∨((wgh h.ps N 0).2=true∧∃g bs br km BD,e=.returned (.tuple #[ptr g,iv 0])∧w.heap.size≤g∧w.heap.size≤km∧DeckSt w' BD g h A cap J capJ N bs br km∧KnownAt w' km (mostV h N)∧∀o,w'.frozen? ⟨g,o,none⟩=false))))
theorem openPre_bad{h:Hul}{l:List Wgh}(hc:(checkE h).2.2≠0):openPre h l=(checkE h).2.2:=by unfold openPre;rw[if_neg hc]
theorem openPre_long{h:Hul}{l:List Wgh}(hc:(checkE h).2.2=0)(hl:¬l.length≤6):openPre h l=3:=by unfold openPre;rw[if_pos hc,if_neg hl]
theorem openPre_at{h:Hul}{l:List Wgh}(hc:(checkE h).2.2=0)(hl:l.length≤6)(hi:i<l.length)(hf:firstBad (weighedE h.ps.length h.js l) i=none)(hb:weighedE h.ps.length h.js l i≠0):openPre h l=weighedE h.ps.length h.js l i:=by unfold openPre weighedsE;rw[if_pos hc,if_pos hl,firstBad_at hf hb hi]
theorem openPre_ok{h:Hul}{l:List Wgh}(hc:(checkE h).2.2=0)(hl:l.length≤6)(hf:firstBad (weighedE h.ps.length h.js l) l.length=none):openPre h l=0:=by unfold openPre weighedsE;rw[if_pos hc,if_pos hl,hf]
theorem crossB_snoc(l:List Wgh)(s j:Nat)(y:Wgh)(hy:l[j]?=some y):crossB (l.take (j+1)) s=(crossB (l.take j) s||crossN s y.set.toNat):=by obtain⟨hk,rfl⟩:=List.getElem?_eq_some_iff.1 hy;unfold crossB;rw[List.take_succ_eq_append_getElem hk,List.any_append];simp
theorem crossB_mono{l:List Wgh}{s j:Nat}(h:crossB (l.take j) s=true)(hj:j≤i):crossB (l.take i) s=true:=by
 unfold crossB at *;rw[List.any_eq_true]at *;obtain⟨y,hy,hc⟩:=h;refine⟨y, ?_,hc⟩;have:(l.take i).take j=l.take j:=by rw[List.take_take,Nat.min_eq_left hj]
 rw[←this]at hy;exact List.mem_of_mem_take hy
theorem open_any(h:Hul)(A J:Option Addr)(B cap capJ:Nat)(AL:Option Addr)(l:List Wgh)(capL:Nat)(w:World)(hH:HulRd w B h A cap J capJ)(hL:RdN 3 encWgh w B AL l)(hlc:l.length≤capL)(hB:B≤w.heap.size) :
  Cs 86 #[hv h A cap J capJ,.slice AL l.length capL] w (OpenPostB h A cap J capJ l w):=by
 obtain⟨W1,hW1⟩:=ex (w.alloc (.cells #[.slice A h.ps.length cap,.slice J h.js.length capJ,iv h.slo,iv h.shi,iv h.winch] 40));have hb0:BW w W1:=by rw[←hW1];exact bA (bR _) _
 have hck:=check_any h A J B cap capJ W1 (hH.below hb0 hB) (lT hB hb0.size);have p0:W1.cell? ⟨w.heap.size,0,none⟩=some (.slice A h.ps.length cap):=by rw[←hW1];clear hW1;go_simp
 have p1:W1.cell? ⟨w.heap.size,1,none⟩=some (.slice J h.js.length capJ):=by rw[←hW1];clear hW1;go_simp
 have p2:W1.cell? ⟨w.heap.size,2,none⟩=some (iv h.slo):=by rw[←hW1];clear hW1;go_simp
 have p3:W1.cell? ⟨w.heap.size,3,none⟩=some (iv h.shi):=by rw[←hW1];clear hW1;go_simp
 have p4:W1.cell? ⟨w.heap.size,4,none⟩=some (iv h.winch):=by rw[←hW1];clear hW1;go_simp
 have HC:Hid (∀W,BW W1 W→W.cell? ⟨w.heap.size,0,none⟩=some (.slice A h.ps.length cap)∧W.cell? ⟨w.heap.size,1,none⟩=some (.slice J h.js.length capJ)∧W.cell? ⟨w.heap.size,2,none⟩=some (iv h.slo)∧W.cell? ⟨w.heap.size,3,none⟩=some (iv h.shi)∧W.cell? ⟨w.heap.size,4,none⟩=some (iv h.winch)):=Lq fun W hb=>⟨kC hb p0,kC hb p1,kC hb p2,kC hb p3,kC hb p4⟩
 have HB0:=Lq hb0;have HH0:=Lq hH;have HH:=Lq (hH.below hb0 hB);have HL:=Lq (hL.below hb0 hB);have HCK:=Lq hck;have hz1:=hb0.size;clear hb0 hH hL hck;obtain⟨ca,cb,ce,hce⟩:∃a b e,checkE h=(a,b,e):=⟨_,_,_,rfl⟩;by_cases hc0:ce=0
 case neg =>
  have hp:=openPre_bad (h:=h) (l:=l) (by rw[hce];exact hc0)
  have hne:openPre h l≠0:=by rw[hp,hce];exact hc0
  rw[hce]at hp;have HP:=Lq hp;have HNE:=Lq hne;have hcb:(ce==0)=false:=by simpa using hc0
  clear hp hne hc0;go_enter Tryz.func86,Tryz.ntmps86
  go_wp2_with fail;refine HCK.out.mono ?_;rintro e w1 ⟨rfl,hb⟩;rw[hce];simp only[ret3];have HB1:=Lq (bT HB0.out hb);clear hb hW1;go_wp2
  go_ret2
  exact⟨HB1.out,.inl ⟨HNE.out,by rw[HP.out];rfl⟩⟩
 case pos =>
 subst hc0;have hk:=hulOk (h:=h) (by rw[hce])
 by_cases hl6:l.length≤6
 case neg =>
  have hp:=openPre_long (h:=h) (l:=l) (by rw[hce]) hl6
  have HP:=Lq hp;clear hp hk;go_enter Tryz.func86,Tryz.ntmps86
  go_wp2_with fail;refine HCK.out.mono ?_;rintro e w1 ⟨rfl,hb⟩;rw[hce];simp only[ret3];have HB1:=Lq (bT HB0.out hb);clear hb hW1;go_wp2
  go_ret2
  exact⟨HB1.out,.inl ⟨by rw[HP.out];decide,by rw[HP.out];rfl⟩⟩
 case pos =>
 go_enter Tryz.func86,Tryz.ntmps86
 go_wp2_with fail;refine HCK.out.mono ?_;rintro e w1 ⟨rfl,hb⟩;rw[hce];simp only[ret3];obtain⟨p0,p1,p2,p3,p4⟩:=HC.out w1 hb;have hz2:=hb.size;have HB1:=Lq hb;clear hb HCK hW1;have hmm:=@run_makeMap Tryz.prog;go_wp2_with fail;obtain⟨w2,hw2⟩:=ex ((w1.alloc (.map #[] 0)).alloc (.cells #[.slice A h.ps.length cap,.slice J h.js.length capJ,iv h.slo,iv h.shi,iv h.winch,.pointer none,.map (some w1.heap.size)] 120));obtain⟨g,hgd⟩:=ex (w1.heap.size+1);obtain⟨km,hkmd⟩:=ex w1.heap.size;have hmap:w2.ownsMap Tryz.prog 3 (plainElem (H:=Unit) Tryz.prog 3) km 0 (.map []):=by rw[←hw2,←hkmd];exact(World.ownsMap_made (H:=Unit) w1 Tryz.prog 3 (plainElem Tryz.prog 3)).alloc _
 have c0:w2.cell? ⟨g,0,none⟩=some (.slice A h.ps.length cap):=by rw[←hw2,←hgd];clear hw2;go_simp
 have c1:w2.cell? ⟨g,1,none⟩=some (.slice J h.js.length capJ):=by rw[←hw2,←hgd];clear hw2;go_simp
 have c2:w2.cell? ⟨g,2,none⟩=some (iv h.slo):=by rw[←hw2,←hgd];clear hw2;go_simp
 have c3:w2.cell? ⟨g,3,none⟩=some (iv h.shi):=by rw[←hw2,←hgd];clear hw2;go_simp
 have c4:w2.cell? ⟨g,4,none⟩=some (iv h.winch):=by rw[←hw2,←hgd];clear hw2;go_simp
 have c5:w2.cell? ⟨g,5,none⟩=some (.pointer none):=by rw[←hw2,←hgd];clear hw2;go_simp
 have c6:w2.cell? ⟨g,6,none⟩=some (.map (some km)):=by rw[←hw2,←hgd];clear hw2;go_simp
 have cf:∀o,w2.frozen? ⟨g,o,none⟩=false:=by rw[←hw2,←hgd];clear hw2;intro o;go_simp
 have hb12:BW w1 w2:=by rw[←hw2];exact bA (bA (bR _) _) _
 have p0':w2.cell? ⟨w.heap.size,0,none⟩=some (.slice A h.ps.length cap):=kC hb12 p0;have hz3:w2.heap.size=w1.heap.size+2:=by rw[←hw2];simp
 have HB2:=Lq (bT (bT HB0.out HB1.out) hb12);have HH2:=Lq ((HH.out.below HB1.out (lT hB hz1)).below hb12 (by omega))
 have HL2:=Lq ((HL.out.below HB1.out (lT hB hz1)).below hb12 (by omega))
 have HMAP:=Lq hmap;have HD:Hid (∀W,BW w2 W→W.cell? ⟨g,0,none⟩=some (.slice A h.ps.length cap)∧W.cell? ⟨g,1,none⟩=some (.slice J h.js.length capJ)):=Lq fun W hb=>⟨kC hb c0,kC hb c1⟩
 have HD2:Hid (∀W,BW w2 W→W.cell? ⟨g,2,none⟩=some (iv h.slo)∧W.cell? ⟨g,3,none⟩=some (iv h.shi)∧W.cell? ⟨g,4,none⟩=some (iv h.winch)∧W.cell? ⟨g,5,none⟩=some (.pointer none)∧W.cell? ⟨g,6,none⟩=some (.map (some km))∧(∀o,W.frozen? ⟨g,o,none⟩=false)∧W.cell? ⟨w.heap.size,0,none⟩=some (.slice A h.ps.length cap)):=Lq fun W hb=>⟨kC hb c2,kC hb c3,kC hb c4,kC hb c5,kC hb c6,fun o=>(hb.frozen (p:=⟨g,o,none⟩) (lt_of_cell c0)).trans (cf o),kC hb p0'⟩
 rw[hw2] ;clear hmap c0 c1 c2 c3 c4 c5 c6 cf hb12 p0' HB1 HB0 HH HL HC p0 p1 p2 p3 p4 hw2;rw[hgd];rw[hkmd];have hgk1:km<g:=by omega
 have hgk2:g<w2.heap.size:=by omega
 have hgk3:w.heap.size≤km:=by omega
 clear hmm hz3 hkmd hgd;go_loopw [37] (fun vi wr=>∃i:Nat,i≤l.length∧vi=iv i∧Hid (BW w2 wr)∧Hid (firstBad (weighedE h.ps.length h.js l) i=none)) (fun vi _=>l.length-(intOf vi).toNat)
 case atStart=>exact⟨0,Nat.zero_le _,rfl,Lq (bR _),Lq rfl⟩
 case round =>
  obtain⟨i,hi,rfl,HW,HF⟩:=hrel;obtain⟨c0,c1⟩:=HD.out wr HW.out;have hzw:=HW.out.size;by_cases hlt:i<l.length
  ·obtain⟨x,hx⟩:=gX (l:=l) (i:=i) hlt;obtain⟨bb,off,rfl,hbB,e0,e1,e2⟩:=wghAt (HL2.out.below HW.out (by omega)) hx
   have hwE:weighedE h.ps.length h.js l i=if blockE h.ps.length h.js x.set=0 then(if crossB (l.take i) x.set.toNat then 6 else rangeE 0 1000000 x.lo x.hi)else blockE h.ps.length h.js x.set:=by unfold weighedE;rw[hx]
   obtain⟨w3,hw3⟩:=ex (wr.alloc (.cells #[iv x.set,iv x.lo,iv x.hi] 159));have hb3:BW wr w3:=by rw[←hw3];exact bA (bR _) _
   have f0:w3.cell? ⟨wr.heap.size,0,none⟩=some (iv x.set):=by rw[←hw3];clear hw3;go_simp
   have f1:w3.cell? ⟨wr.heap.size,1,none⟩=some (iv x.lo):=by rw[←hw3];clear hw3;go_simp
   have f2:w3.cell? ⟨wr.heap.size,2,none⟩=some (iv x.hi):=by rw[←hw3];clear hw3;go_simp
   have hz4:=hb3.size;have hblk:=block_any g h.ps.length x.set A J h.js cap capJ B w3 hk.n1 hk.n8 hk.js hk.j12 (kC hb3 c0) (kC hb3 c1) ((HH2.out.js.below HW.out (by omega)).below hb3 (by omega)) (by omega)
   have HBLK:=Lq hblk;have HW3:=Lq (bT HW.out hb3);have HX:=Lq hx;have HWE:=Lq hwE;clear hblk c0 c1 hx hwE hb3 HW;go_wp2_with fail;refine HBLK.out.mono ?_;rintro e w4 ⟨rfl,hb4⟩;have f0:=kC hb4 f0;have f1:=kC hb4 f1;have f2:=kC hb4 f2;have hz5:=hb4.size;have HW4:=Lq (bT HW3.out hb4);clear hb4 HW3 HBLK hw3;by_cases hb0:blockE h.ps.length h.js x.set=0
   case neg =>
    have hp:=openPre_at (h:=h) (l:=l) (by rw[hce]) hl6 hlt HF.out (by rw[HWE.out,if_neg hb0];exact hb0)
    rw[HWE.out,if_neg hb0]at hp;have HP:=Lq hp;obtain⟨eb,heb⟩:=ex (blockE h.ps.length h.js x.set);rw[heb]at HP hb0 ⊢;clear hp heb HWE e0 e1 e2;have hcb:(eb==0)=false:=by simpa using hb0
    go_wp2
    go_ret2
    exact⟨bT HB2.out (HW4.out),.inl ⟨by rw[HP.out];exact hb0,by rw[HP.out];rfl⟩⟩
   case pos =>
   obtain⟨s,hs,_,_,hxs,_⟩:=blockE_zero hk.n8 hb0;have hwe:=HWE.out;rw[if_pos hb0,hxs,Int.toNat_natCast]at hwe;rw[hb0];rw[hxs]at f0 ⊢;have HWE:=Lq hwe;clear hwe hb0 e0 e1 e2;go_wp2_with fail;go_loopw [53] (fun vj wr5=>∃j:Nat,j≤i∧vj=iv j∧Hid (BW w4 wr5)∧Hid (crossB (l.take j) s=false)) (fun vj _=>i-(intOf vj).toNat)
   case atStart=>exact⟨0,Nat.zero_le _,rfl,Lq (bR _),Lq rfl⟩
   case round =>
    obtain⟨j,hj,rfl,HW5,HCR⟩:=hrel;have f0:=kC HW5.out f0;have f1:=kC HW5.out f1;have f2:=kC HW5.out f2;have hz6:=HW5.out.size;have hbx:=lt_of_cell f0;by_cases hjl:j<i
    ·obtain⟨y,hy⟩:=gX (l:=l) (i:=j) (by omega)
     obtain⟨bb',off',he,hbB',e0,e1,e2⟩:=wghAt ((HL2.out.below HW4.out (by omega)).below HW5.out (by omega)) hy
     injection he with he
     injection he with he1 he2
     subst he1 he2;have hyz:=firstBad_none HF.out j hjl;unfold weighedE at hyz;rw[hy]at hyz;simp only at hyz;obtain⟨t,ht,hyt⟩:∃t:Nat,t<256∧y.set=(t:Int):=by
      split at hyz
      ·rename_i hyb;obtain⟨t,a,_,_,b,_⟩:=blockE_zero hk.n8 hyb;exact⟨t,a,b⟩
      ·exact absurd hyz (by assumption)
     have hsn:=crossB_snoc l s j y hy;rw[HCR.out,Bool.false_or,hyt,Int.toNat_natCast]at hsn;rw[hyt]at e0;clear hyz;have hand:=and64 (a:=s) (b:=t) (by omega) (by omega)
     have hal:(s&&&t)<256:=Nat.lt_of_le_of_lt Nat.and_le_left hs;have hcx:crossN s t=(!((((s&&&t:Nat):Int))==0)&&!((((s&&&t:Nat):Int))==(s:Int))&&!((((s&&&t:Nat):Int))==(t:Int))):=by unfold crossN;rw[Bool.eq_iff_iff];simp;omega
     obtain⟨C,hC⟩:=ex (s&&&t);rw[hC]at hand hal hcx;have HSN:=Lq hsn;have HCX:=Lq hcx;clear hC hsn hcx;go_wp2_with fail;all_goals first
      | exact⟨⟨j+1,by omega,by go_num,Lq (bA HW5.out _),Lq (by rw[HSN.out,HCX.out];simp;intros;omega)⟩,by simp[intOf];omega⟩
      | skip
     ·rename_i _ _ h7 _;have hcr:crossB (l.take (j+1)) s=true:=by
       rw[HSN.out,HCX.out];obtain⟨⟨a1,a2⟩,a3⟩:=h7;simp only[bne_iff_ne,ne_eq]at a1 a2 a3;simp;omega
      have hp:=openPre_at (h:=h) (l:=l) (by rw[hce]) hl6 hlt HF.out (by rw[HWE.out,if_pos (crossB_mono hcr (by omega))];decide)
      rw[HWE.out,if_pos (crossB_mono hcr (by omega))]at hp
      go_ret2
      exact⟨bT HB2.out (bA (bT HW4.out HW5.out) _),.inl ⟨by rw[hp];decide,by rw[hp];rfl⟩⟩
     ·rename_i _ _ h7;refine⟨⟨j+1,by omega,by go_num,Lq (bA HW5.out _),Lq ?_⟩,by simp[intOf];omega⟩
      rw[HSN.out,HCX.out];have h8:(C:Int)=t:=by rcases h7 with(h7 | h7) | h7<;>simp only[bne_eq_false_iff_eq]at h7<;>omega
      simp[h8]
    ·obtain rfl:j=i:=by omega
     have hwe:=HWE.out;rw[HCR.out]at hwe;simp only[Bool.false_eq_true,if_false]at hwe;have HWE:=Lq hwe;clear hwe HCR;go_wp2_with fail;refine(spanned_any _ _ _ _ _).mono ?_;rintro e w6 ⟨rfl,hb6⟩;have HW6:=Lq (bT (bT HW4.out HW5.out) hb6);clear hb6 HW4 HW5;by_cases hr0:rangeE 0 1000000 x.lo x.hi=0
     ·have HFN:=Lq (firstBad_succ HF.out (by rw[HWE.out];exact hr0))
      rw[hr0];go_wp2_with fail;go_roundw
      case rel=>exact⟨j+1,by omega,by go_num,HW6,HFN⟩
      case measure=>simp[intOf];omega
     ·have hp:=openPre_at (h:=h) (l:=l) (by rw[hce]) hl6 hlt HF.out (by rw[HWE.out];exact hr0)
      rw[HWE.out]at hp;have HP:=Lq hp;obtain⟨eb,heb⟩:=ex (rangeE 0 1000000 x.lo x.hi);rw[heb]at HP hr0 ⊢;have hcb:(eb==0)=false:=by simpa using hr0
      clear hp heb HWE;go_wp2_with fail
      go_ret2
      exact⟨bT HB2.out HW6.out,.inl ⟨by rw[HP.out];exact hr0,by rw[HP.out];rfl⟩⟩
  ·obtain rfl:i=l.length:=by omega
   have hpre:=openPre_ok (h:=h) (by rw[hce]) hl6 HF.out
   have HPRE:=Lq hpre;have htr:=tree_any AL l h.ps.length B capL wr hk.n1 hk.n8 hl6 (HL2.out.below HW.out (by omega)) (by omega) (fun x hx=>by obtain⟨s,a1,_,_,a4,_⟩:=wghs_ok hpre x hx;exact⟨s,a1,a4⟩)
   have HTR:=Lq htr;obtain⟨d2,d3,d4,d5,d6,df,dp⟩:=HD2.out wr HW.out;clear htr hpre HF c0 c1 d2 d3 d4 d6;go_wp2_with fail;refine HTR.out.mono ?_;rintro e w6 ⟨br,N,bs,X,rfl,hb6,hX1,hX2,hN,htab,hbr,hoff⟩;have hW6:=bT HW.out hb6;have HNT:Hid (IsTree h l N):=Lq ⟨X,hX1,hX2,hN⟩;obtain⟨d0,d1⟩:=HD.out w6 hW6;obtain⟨d2,d3,d4,d5',d6,df',_⟩:=HD2.out w6 hW6;have hgS:=lt_of_cell d5;have hgS6:=lt_of_cell d5';obtain⟨w7,hw7⟩:=ex (w6.setCell ⟨g,5,none⟩ (ptr br));have hz7:w7.heap.size=w6.heap.size:=by rw[←hw7];simp
   have hz6:=hb6.size;have hkS:km<wr.heap.size:=by omega
   have hof:∀{o:Nat} {u:Value},o≠5→w6.cell? ⟨g,o,none⟩=some u→w7.cell? ⟨g,o,none⟩=some u:=fun{o u} hne hc=>by rw[←hw7,World.cell?_setCell_other _ _ _ _ (fun e=>by injection e with _ e;exact hne e.symm)];exact hc
   have ho7:OnlyAt w6 w7 g:=by rw[←hw7];exact(OnlyAt.refl w6 g).set _ _
   have hB7:BW w w7:=by rw[←hw7];exact belowS (bT HB2.out hW6) (by simp only;omega) _
   have hds:DeckSt w7 w6.heap.size g h A cap J capJ N bs br km :=
    ⟨hof (by decide) d0,hof (by decide) d1,hof (by decide) d2,hof (by decide) d3,hof (by decide) d4,by rw[←hw7];exact World.cell?_setCell_same _ _ _ d5',hof (by decide) d6,htab.only2 (hoff g hgS) ho7,TabOff.keep htab (hoff km hkS) (fun b _ v hv _=>by rw[←hw7,World.cell?_setCell_other _ _ _ _ (fun e=>by injection e with _ e;exact absurd e (by decide))];exact hv),hbr,⟨B,by omega,by omega,HH0.out.ps.below hB7 hB,HH0.out.js.below hB7 hB⟩,by omega,by omega,by omega⟩
   have hkn:KnownAt w7 km (mostV h N):=by
    have hk2:KnownAt w2 km (mostV h N):=⟨.map [],0,HMAP.out,fun kl hkl=>by simp[has]at hkl⟩
    have hk6:=hk2.below hW6;obtain⟨D,n,hm,hd⟩:=hk6;exact⟨D,n,by rw[←hw7];exact hm.setCell (by simp only;omega) _,hd⟩
   have hT:=treeOk_isTree HPRE.out HNT.out;have hwg:=hds.weigh hT (set:=0) (by decide)
   obtain⟨M,hM⟩:=ex ((wgh h.ps N 0).1);obtain⟨V,hV⟩:=ex ((wgh h.ps N 0).2);rw[hM,hV]at hwg;have hf7:∀o,w7.frozen? ⟨g,o,none⟩=false:=fun o=>by rw[←hw7,World.frozen?_setCell];exact df' o
   have f5:=df' 5;have HDS:=Lq hds;have HKN:=Lq hkn;have HWG:=Lq hwg;have HF7:=Lq hf7;have HB7:=Lq hB7;have HV:=Lq hV;clear hds hkn hwg hf7 hB7 hT hof ho7 hM hV hX1 hX2 hN htab hbr hoff hb6 hW6 d0 d1 d2 d3 d4 d5 d6 df' df HTR HMAP HD HD2 HW;go_wp2_with fail;refine HWG.out.mono ?_;rintro e w8 ⟨rfl,hb8⟩;obtain⟨ma,mb,mc,md⟩:=M;have HB8:=Lq (bT HB7.out hb8);have hds8:=HDS.out.below (Below.mono hb8 (lr _));have hkn8:=HKN.out.below hb8;have hf8:∀o,w8.frozen? ⟨g,o,none⟩=false:=fun o=>(hb8.frozen (p:=⟨g,o,none⟩) (by simp only;omega)).trans (HF7.out o)
   have HDS8:=Lq hds8;have HKN8:=Lq hkn8;have HF8:=Lq hf8;have hg8:g<w8.heap.size:=lz (by omega) hb8.size
   clear hds8 hkn8 hf8 hb8 HDS HKN HF7 HB7 HWG hw7 d5' f5 dp;cases V
   ·go_wp2_with fail
    go_ret2
    exact⟨bA HB8.out _,.inr ⟨HPRE.out,N,HNT.out,.inl ⟨HV.out,rfl⟩⟩⟩
   ·go_wp2_with fail
    go_ret2
    exact⟨bA HB8.out _,.inr ⟨HPRE.out,N,HNT.out,.inr ⟨HV.out,g,bs,br,km,w6.heap.size,rfl,by omega,by omega,HDS8.out.below (bA (bR _) _),HKN8.out.below (bA (bR _) _),fun o=>(keepAF hg8 o _).trans (HF8.out o)⟩⟩⟩
end
end Go.Proofs.YtigcophcpboanaaGreatDoor
