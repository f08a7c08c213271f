/- The reference of layer 1: a list with another part in the place of one (printed by .. -/
import Derived.OrdersIn
import Derived.Shelf.Strings.Builder1
import Derived.Shelf.Strings.Builder2
import Derived.Shelf.Strings.OnBuilder
import Derived.Shelf.Small.Bits
import Derived.Shelf.Strings.BuilderF
import Derived.Shelf.Strings.BuilderK
import Derived.Shelf.Utf8.RuneCount
import Derived.Shelf.Strings.Builder2Cap
import Derived.Shelf.Strconv.Atoi
import Derived.Shelf.Strconv.Itoa0
import Derived.Shelf.Strconv.Itoa1
import Derived.Shelf.LaysM
import Derived.Shelf.Strconv.Itoa2
import Derived.Shelf.Strconv.Itoa3
import Derived.Shelf.Strconv.AtoiErrFast
import Derived.Shelf.Strconv.ParseIntEmpty
import Derived.Shelf.Strconv.AtoiFail
import Derived.Shelf.Strconv.Clone
import Derived.Shelf.Strconv.SyntaxError
import Derived.Shelf.LaysC
import Derived.Shelf.Strconv.ToError
import Derived.Shelf.Strconv.AtoiErr
import Derived.Shelf.Strconv.Lower
import Derived.Shelf.Strconv.ParseUint10
import Derived.Shelf.Strconv.ParseUint10Empty
import Derived.Shelf.Strconv.ParseUint10Any
import Derived.Shelf.Strconv.ParseInt10
import Derived.Shelf.Strconv.RangeError
import Derived.Shelf.Strconv.ToErrorRange
import Derived.Shelf.Strconv.ParseUintEmpty
import Derived.Shelf.Strconv.ParseUint10b64
import Derived.Shelf.Strconv.ParseUint10b32
import Derived.Shelf.Strconv.ParseUint10b16
import Derived.Shelf.Strconv.ParseUint10b8
import Derived.Shelf.Strconv.ParseUint10At
import Derived.Shelf.Strconv.ParseInt10At64
import Derived.Shelf.Strconv.ParseInt10At32
import Derived.Shelf.Strconv.ParseInt10At16
import Derived.Shelf.Strconv.ParseInt10At8
import Derived.Shelf.Strings.Search1
import Derived.Shelf.Strings.Search2
import Derived.Shelf.Strings.Search3
import Derived.Shelf.Strings.Cut
import Derived.Shelf.Strings.Count
import Derived.Shelf.Strings.Shaped
import Derived.Shelf.Sort.Plain
import Derived.Shelf.Strings.Split
import Derived.Shelf.Strings.SplitShaped
import Derived.Shelf.Unicode.Decode
import Derived.Shelf.Strings.RuneCount
import Derived.Shelf.Strings.Explode
import Derived.Shelf.Unicode.DecodeSlow
import Derived.Shelf.Unicode.DecodeAny
import Derived.Shelf.Strings.BuilderCap
import Derived.Shelf.Slices.Turned
import Derived.Shelf.Slices.Equal
import Derived.Ground.Names2Prog
import Derived.Shelf.Slices.Clone
import Derived.Shelf.Slices.CompactS
import Derived.Shelf.Slices.Cells
import Derived.Shelf.Slices.In.SortNone
import Derived.Shelf.Slices.Empties2
import Derived.Ground.SlgnProg
import Derived.Shelf.SlicesE.Clone
import Derived.Test.YtigcophcpboanaaGreatDoorM1
set_option maxRecDepth 1000000
set_option maxHeartbeats 0
namespace Go.Proofs.YtigcophcpboanaaGreatDoor
open Go.RowKit
section
variable{s:ByteArray}{base g i k:Nat}{v:Value}{w w':World}
theorem Tryz.info9:(Tryz.prog.info? 9).map (fun i=>(i.zero,i.size,i.bytes))=some (some (.string ⟨#[]⟩),1,16):=by kernel_rfl
theorem swapP_len{l:List HuP}{x:HuP}(hk:k<l.length):(swapP l k s x).length=l.length:=by unfold swapP;simp;omega
theorem swapP_lt{l:List HuP}{x y:HuP}(hk:k<l.length)(hi:l[i]?=some y)(h:i<k):(swapP l k s x)[i]?=some y:=by unfold swapP;rw[List.getElem?_append_left (by simp;omega),List.getElem?_take_of_lt h];exact hi
theorem swapP_eq{l:List HuP}{x:HuP}(hk:k<l.length):(swapP l k s x)[k]?=some x:=by
 unfold swapP;have h1:(l.take k).length=k:=by simp;omega
 rw[List.getElem?_append_right (by omega),h1,Nat.sub_self];rfl
theorem swapP_gt{l:List HuP}{x y:HuP}(hk:k<l.length)(hi:l[i]?=some y)(h:k<i):(swapP l k s x)[i]?=some (swapO s x.name y):=by
 unfold swapP;have h1:(l.take k).length=k:=by simp;omega
 rw[List.getElem?_append_right (by omega),h1,show i-k=(i-k-1)+1 by omega,List.getElem?_cons_succ,List.getElem?_map,List.getElem?_drop,show k+1+(i-k-1)=i by omega,hi];rfl
structure OwnOn(w:World)(m:HuM):Prop where
 ow:w.ownsRow 0 9 1 (.slice m.A m.p.on.length m.cap) m.p.on.length (m.p.on.map .string)
 nm:m.p.name.size≤maxLen
 ons:∀o∈m.p.on,o.size≤maxLen
 sz:m.p.on.length*16≤140737488351232
theorem OwnOn.below{m:HuM}(h:OwnOn w m)(hb:BW w w'):OwnOn w' m:=⟨own_below h.ow hb,h.nm,h.ons,h.sz⟩
theorem OwnOn.grown{m:HuM}(h:OwnOn w m){e size n:Nat}{xs:List Value}(ho:w.ownsRow base e size v n xs)(he:9≠e)(hg:w.grownBy w' v.ownBlock):OwnOn w' m:=⟨own_grown h.ow ho he hg,h.nm,h.ons,h.sz⟩
theorem own_str{xs:List ByteArray}(h:w.ownsRow base 9 1 v xs.length (xs.map .string)):∃A cap,v=.slice A xs.length cap∧Rd1 .string w w.heap.size A xs∧xs.length≤cap∧cap≤maxLen:=by
 obtain⟨A,cap,h1,h2,_⟩:=own_rd1 h;refine⟨A,cap,h1,h2, ?_⟩;rcases h.2 with⟨hv,hn⟩ | ⟨g,c,cur,hv,_,_,hc,hm,_⟩
 ·rw[h1]at hv;injection hv with _ h3 h4
  subst h4;exact⟨by omega,Nat.zero_le _⟩
 ·rw[h1]at hv;injection hv with _ _ h4
  subst h4;exact⟨hc,hm⟩
theorem OwnOn.ok{m:HuM}(h:OwnOn w m):MOk w w.heap.size m:=by
 obtain⟨A,cap,h1,h2,h3,h4⟩:=own_str h.ow;injection h1 with e1 _ e3
 subst e1 e3;exact⟨h2,h3,h4,h.nm,h.ons,h.sz⟩
def strs(l:List ByteArray)(F:ByteArray→ByteArray)(j:Nat):List Value:=((l.map F).take j).map Value.string
theorem map_take_snoc{l:List ByteArray}(F:ByteArray→ByteArray){j:Nat}{o:ByteArray}(h:l[j]?=some o):strs l F (j+1)=strs l F j++[Value.string (F o)]:=by unfold strs;rw[List.take_add_one,List.getElem?_map,h];simp
theorem strs_all(l:List ByteArray)(F:ByteArray→ByteArray):strs l F l.length=(l.map F).map Value.string:=by unfold strs;rw[List.take_of_length_le (by simp)]
theorem psOf_snoc(a:List HuM)(x:HuM):psOf (a++[x])=psOf a++[x.p]:=by simp
theorem seven{c0 c1 c2 c3 c4 c5 c6:Value}(v0 v1 v2 v3 v4 v5 v6:Value)(h:Blk w g 43 #[c0,c1,c2,c3,c4,c5,c6]) :
  Blk (((((((w.setCell ⟨g,0,none⟩ v0).setCell ⟨g,1,none⟩ v1).setCell ⟨g,2,none⟩ v2).setCell ⟨g,3,none⟩ v3).setCell ⟨g,4,none⟩ v4).setCell ⟨g,5,none⟩ v5).setCell ⟨g,6,none⟩ v6) g 43 #[v0,v1,v2,v3,v4,v5,v6]:=by
 have h7:=((((((h.set_ 0 v0).set_ 1 v1).set_ 2 v2).set_ 3 v3).set_ 4 v4).set_ 5 v5).set_ 6 v6;simp only[List.setIfInBounds_toArray,List.set_cons_zero,List.set_cons_succ]at h7;exact h7
theorem swapped66_any(A:Option Addr)(ms:List HuM)(m:HuM)(B cap i0:Nat)(old:HuM)(w:World)(hB:B≤w.heap.size)(H:SlM w B A cap ms)(hM:MOk w B m)(hn:ms.length≤12)(hi:ms[i0]?=some old) :
  Cs 65 #[.slice A ms.length cap,iv i0,mV m] w fun e w'=>∃out:List HuM,psOf out=swapP (psOf ms) i0 old.p.name m.p∧(∀q∈out,OwnOn w' q)∧OwnMs out w e w':=by
 have hil:i0<ms.length:=(lG hi);obtain⟨W1,hW1,hb1,hz1,hq⟩:=mBox w m;have HH:=Lq (H.below hb1 hB);have HM:=Lq (hM.below hb1 hB);have HB1:=Lq hb1;have HIO:=Lq hi;have hmax:=H.max;have hle:=H.le;have hil2:i0<(psOf ms).length:=by simpa using hil
 clear H hM hb1 hi;obtain⟨⟨name,kind,first,last,on,wlo,whi⟩,Ao,ca⟩:=m;have HX:Hid (∀W,BW W1 W→Blk W w.heap.size 43 #[.string name,iv kind,iv first,iv last,.slice Ao on.length ca,iv wlo,iv whi]):=Lq fun W hb=>hq.keep hb
 obtain⟨X,hX⟩:=ex (HuP.mk name kind first last on wlo whi);obtain⟨g5,hg5⟩:=ex w.heap.size;obtain⟨i47,hi47,hz470,hz471,hz472⟩:=info_parts Tryz.info43;obtain⟨i9,hi9,hz90,hz91,hz92⟩:=info_parts Tryz.info9;obtain⟨q0,q1,q2,q3,q4,q5,q6⟩:=hq.c7;have hBW1:B≤W1.heap.size:=by omega
 have hgW1:g5<W1.heap.size:=by omega
 clear hq;rw[hg5]at HX hz1 q0 q1 q2 q3 q4 q5 q6;have HZ1:=Lq hz1;clear hz1;have HXE:=Lq hX;have HXN:Hid (X.name=name∧X.name.size≤maxLen):=Lq (by rw[←hX];exact⟨rfl,HM.out.nm⟩)
 clear hX;go_enter Tryz.func65,Tryz.ntmps65
 go_wp2_with fail;clear hW1;go_loopw [7,8] (fun v i wr=>∃(k:Nat) (out:List HuM),k≤ms.length∧i=iv k∧out.length=k∧Hid (psOf out=(swapP (psOf ms) i0 old.p.name X).take k)∧Hid (wr.ownsRow W1.heap.size 43 7 v k (out.flatMap encM))∧Hid (∀q∈out,OwnOn wr q)∧Hid (BW W1 wr)) (fun _ i _=>ms.length-(intOf i).toNat)
 case atStart=>exact⟨0,[],by omega,rfl,rfl,Lq rfl,Lq ⟨by simp,.inl ⟨rfl,rfl⟩⟩,Lq (fun q h=>by cases h),Lq (bR _)⟩
 case round =>
  clear q0 q1 q2 q3 q4 q5 q6;obtain⟨k,out,hk,rfl,hol,HP,HO,HQ,HBR⟩:=hrel
  rename World=>W0
  have hk0:(0:Int)≤(k:Int):=by omega
  by_cases hlt:k<ms.length
  ·obtain⟨y,hy⟩:=gX (l:=ms) (i:=k) hlt;obtain⟨b,off,hA,hbB,hMy,c0,c1,c2,c3,c4,c5,c6⟩:=(HH.out.rd.below HBR.out hBW1).at hy;have hbw:b<W0.heap.size:=lt_of_cell c0;have hbx:=HX.out _ HBR.out;obtain⟨q0,q1,q2,q3,q4,q5,q6⟩:=hbx.c7;have hgw:=hbx.lt;have HOL:=Lq hol;have HYI:=Lq hy;have HMY:=Lq hMy;clear hy hMy hbx hol;obtain⟨⟨yn,yk,yf,yl,yon,yw,yz⟩,yA,yc⟩:=y;subst hA;obtain⟨g,hg⟩:=ex W0.heap.size;have HG:=Lq hg;clear hg;by_cases hia:k=i0
   ·have hia2:(k==i0)=true:=by simpa using hia
    have hia1:((k:Int)==(i0:Int))=true:=by simp;omega
    have HIA:=Lq hia;clear hia;go_wp2_with fail;rw[HG.out];have HBA:=bA (bR W0) (.cells #[.string name,iv kind,iv first,iv last,.slice Ao on.length ca,iv wlo,iv whi] 43);have KA:Blk (W0.alloc (.cells #[.string name,iv kind,iv first,iv last,.slice Ao on.length ca,iv wlo,iv whi] 43)) g 43 #[.string name,iv kind,iv first,iv last,.slice Ao on.length ca,iv wlo,iv whi]:=HG.out▸Blk.new W0 43 _;obtain⟨Wa,hWa⟩:=ex (W0.alloc (.cells #[.string name,iv kind,iv first,iv last,.slice Ao on.length ca,iv wlo,iv whi] 43));rw[hWa];rw[hWa]at HBA KA;have hgt1:¬(k:Int)>(i0:Int):=by have:=HIA.out;omega
    have hba:BW W0 Wa:=HBA;have HKA:Hid (Blk Wa g 43 #[.string name,iv kind,iv first,iv last,.slice Ao on.length ca,iv wlo,iv whi]):=Lq KA;have HBA2:=Lq hba;clear hWa hba HBA KA;have honl:on.length≤9223372036854775807:=by have:=HM.out.le;have:=HM.out.cm;simp only[maxLen]at *;omega
    go_loopw [10,11] (fun v i W=>∃j:Nat,j≤on.length∧i=iv j∧Hid (W.ownsRow W0.heap.size 9 1 v j (strs on (fun o=>o) j))∧Hid (Blk W g 43 #[.string name,iv kind,iv first,iv last,.slice Ao on.length ca,iv wlo,iv whi])∧Hid (BW W0 W)) (fun _ i _=>on.length-(intOf i).toNat)
    case atStart=>exact⟨0,by omega,rfl,Lq ⟨by simp[strs],.inl ⟨rfl,rfl⟩⟩,HKA,HBA2⟩
    case round =>
     clear q0 q1 q2 q3 q4 q5 q6 c0 c1 c2 c3 c4 c5 c6;obtain⟨j,hj,rfl,HR,HK,HBW⟩:=hrel;have hj0:(0:Int)≤(j:Int):=by omega
     have bk:=HK.out;have k4:wr.cell? ⟨g,4,none⟩=some (.slice Ao on.length ca):=bk.cell 4;clear bk;by_cases hjl:j<on.length
     ·obtain⟨o,ho⟩:=gX (l:=on) (i:=j) hjl;obtain⟨ob,oo,hoa,_,ck⟩:=(HM.out.on.below (bT HBR.out HBW.out) (by omega)) j o ho
      have HOI:=Lq ho;simp only at hoa;rw[hoa]at k4;have HSN:=Lq (map_take_snoc (fun o=>o) ho)
      clear ho hoa;go_wp2_with (at_builtin;refine wpList_append_own _ rfl _ _ 41 rfl W0.heap.size 9 i9 (.string ⟨#[]⟩) 1 16 Tryz.underlying41 hi9 hz90 hz91 hz92 rfl (by decide) _ _ _ rfl (HR.out.alloc _) ⟨wr.heap.size,0,none⟩ 1 1 [.string o] rfl rfl (one_new _ _ _) (by simp[Value.oneCell']) (by unfold maxLen;omega) (by have:=HM.out.sz;simp only at this;omega) (by have:=HBW.out.size;simp only[World.size_alloc];omega) ?_)
      intro v6 w6 hown6 hg6 _;have HR6:Hid (w6.ownsRow W0.heap.size 9 1 v6 (j+1) (strs on (fun o=>o) (j+1))):=Lq (by rw[HSN.out];exact hown6)
      have HK6:Hid (Blk w6 g 43 #[.string name,iv kind,iv first,iv last,.slice Ao on.length ca,iv wlo,iv whi]):=Lq ((HK.out.alloc _).grown hg6 (own_ne HR.out HK.out (by decide)))
      have HB6:Hid (BW W0 w6):=Lq (grownB (HR.out.alloc _) hg6 (lr _) (bA HBW.out _));clear hown6 hg6;go_wp2_with fail;go_roundw
      case rel=>exact⟨j+1,by omega,by go_num,HR6,HK6,HB6⟩
      case measure=>simp[intOf];omega
     ·obtain rfl:j=on.length:=by omega
      have hr:=HR.out;rw[strs_all]at hr;obtain⟨A8,c8,rfl⟩:=own_slice hr;have HR8:=Lq hr;clear hr HR k4;have bk:=HK.out;have k4:=bk.c 4;have f4:=bk.frozen 4;have hgw:=bk.lt;have B5:=bk.set_ 4 (.slice A8 on.length c8);simp only[List.setIfInBounds_toArray,List.set_cons_zero,List.set_cons_succ]at B5;have O5:BW W0 (wr.setCell ⟨g,4,none⟩ (.slice A8 on.length c8)):=belowS HBW.out (by have:=HG.out;simp only;omega) _
      have Q5:OwnOn (wr.setCell ⟨g,4,none⟩ (.slice A8 on.length c8)) (HuM.mk (HuP.mk name kind first last (on.map (fun o=>o)) wlo whi) A8 c8):=⟨by have:=own_zero ((OnlyAt.of_set (bR wr) g 4 (.slice A8 on.length c8)).own HR8.out (own_ne HR8.out bk (by decide)).symm);simpa using this,HM.out.nm,by simpa using HM.out.ons,by have:=HM.out.sz;simp only[List.length_map]at this ⊢;omega⟩
      obtain⟨W5,hW5⟩:=ex (wr.setCell ⟨g,4,none⟩ (.slice A8 on.length c8));rw[hW5]at B5 O5 Q5;have hz5:=B5.lt;have HB5:=Lq B5;have HO5:=Lq O5;have HQ5:=Lq Q5;obtain⟨p0,p1,p2,p3,p4,p5,p6⟩:=B5.c7;have HAL:Hid ((W5.alloc (.cells #[.string name,iv kind,iv first,iv last,.slice A8 on.length c8,iv wlo,iv whi] 43)).ownsRow W1.heap.size 43 7 u7 k (out.flatMap encM)):=Lq (own_below HO.out (bA O5 _));clear bk B5 O5 Q5 HR8 HK;go_wp2_with (at_builtin;refine wpList_append_own _ rfl _ _ 22 rfl W1.heap.size 43 i47 (.agg #[.string ⟨#[]⟩,iv 0,iv 0,iv 0,.slice none 0 0,iv 0,iv 0]) 7 80 Tryz.underlying22 hi47 hz470 hz471 hz472 rfl (by decide) _ _ _ rfl HAL.out ⟨W5.heap.size,0,none⟩ 1 1 [.string name,iv kind,iv first,iv last,.slice A8 on.length c8,iv wlo,iv whi] rfl rfl (cells_new _ _ _) (by simp[Value.oneCell']) (by unfold maxLen;omega) (by omega) (by have:=HBR.out.size;have:=HO5.out.size;simp only[World.size_alloc];omega) ?_)
      intro v7 w7 hown7 hg7 _;have HO7:Hid (w7.ownsRow W1.heap.size 43 7 v7 (k+1) ((out++[(HuM.mk (HuP.mk name kind first last (on.map (fun o=>o)) wlo whi) A8 c8)]).flatMap encM)):=Lq (by simpa[encM]using hown7)
      have HQ7:Hid (∀q∈out++[(HuM.mk (HuP.mk name kind first last (on.map (fun o=>o)) wlo whi) A8 c8)],OwnOn w7 q):=Lq (fun q hq=>by
       rcases List.mem_append.1 hq with hq | hq
       ·exact((HQ.out q hq).below (bA HO5.out _)).grown HAL.out (by decide) hg7
       ·obtain rfl:=List.mem_singleton.1 hq;exact(HQ5.out.below (bA (bR _) _)).grown HAL.out (by decide) hg7)
      have HB7:Hid (BW W1 w7):=Lq (grownB HAL.out hg7 (lr _) (bA (bT HBR.out HO5.out) _));have HP7:Hid (psOf (out++[(HuM.mk (HuP.mk name kind first last (on.map (fun o=>o)) wlo whi) A8 c8)])=(swapP (psOf ms) i0 old.p.name X).take (k+1)):=Lq (by rw[List.take_add_one,(by rw[HIA.out,swapP_eq hil2,←HXE.out];simp:(swapP (psOf ms) i0 old.p.name X)[k]?=some (HuP.mk name kind first last (on.map (fun o=>o)) wlo whi)),psOf_snoc,HP.out];rfl)
      clear hown7 hg7 hW5;go_wp2_with fail;go_roundw
      case rel=>exact⟨k+1,out++[(HuM.mk (HuP.mk name kind first last (on.map (fun o=>o)) wlo whi) A8 c8)],by omega,by go_num,by rw[List.length_append,HOL.out];rfl,HP7,HO7,HQ7,HB7⟩
      case measure=>simp[intOf];omega
   ·have hia1:((k:Int)==(i0:Int))=false:=by simp;omega
    have hia2:(k==i0)=false:=by simpa using hia
    go_wp2_with fail;rw[HG.out];have HBA:=bA (bR W0) (.cells #[.string yn,iv yk,iv yf,iv yl,.slice yA yon.length yc,iv yw,iv yz] 43);have KA:Blk (W0.alloc (.cells #[.string yn,iv yk,iv yf,iv yl,.slice yA yon.length yc,iv yw,iv yz] 43)) g 43 #[.string yn,iv yk,iv yf,iv yl,.slice yA yon.length yc,iv yw,iv yz]:=HG.out▸Blk.new W0 43 _;obtain⟨Wa,hWa⟩:=ex (W0.alloc (.cells #[.string yn,iv yk,iv yf,iv yl,.slice yA yon.length yc,iv yw,iv yz] 43));rw[hWa];rw[hWa]at HBA KA;by_cases hgt:i0<k
    ·have hgt1:(k:Int)>(i0:Int):=by omega
     have hba:BW W0 Wa:=HBA;have HKA:Hid (Blk Wa g 43 #[.string yn,iv yk,iv yf,iv yl,.slice yA yon.length yc,iv yw,iv yz]):=Lq KA;have HBA2:=Lq hba;clear hWa hba HBA KA;have honl:yon.length≤9223372036854775807:=by have:=HMY.out.le;have:=HMY.out.cm;simp only[maxLen]at *;omega
     go_loopw [10,11] (fun v i W=>∃j:Nat,j≤yon.length∧i=iv j∧Hid (W.ownsRow W0.heap.size 9 1 v j (strs yon (swapS old.p.name X.name) j))∧Hid (Blk W g 43 #[.string yn,iv yk,iv yf,iv yl,.slice yA yon.length yc,iv yw,iv yz])∧Hid (BW W0 W)) (fun _ i _=>yon.length-(intOf i).toNat)
     case atStart=>exact⟨0,by omega,rfl,Lq ⟨by simp[strs],.inl ⟨rfl,rfl⟩⟩,HKA,HBA2⟩
     case round =>
      clear q0 q1 q2 q3 q4 q5 q6 c0 c1 c2 c3 c4 c5 c6;obtain⟨j,hj,rfl,HR,HK,HBW⟩:=hrel;have hj0:(0:Int)≤(j:Int):=by omega
      have bk:=HK.out;have k4:wr.cell? ⟨g,4,none⟩=some (.slice yA yon.length yc):=bk.cell 4;clear bk;by_cases hjl:j<yon.length
      ·obtain⟨o,ho⟩:=gX (l:=yon) (i:=j) hjl;obtain⟨ob,oo,hoa,_,ck⟩:=(HMY.out.on.below HBW.out (by omega)) j o ho
       have HOI:=Lq ho;simp only at hoa;rw[hoa]at k4;obtain⟨b9,off9,ha9,_,_,d0,_⟩:=(HH.out.rd.below (bT HBR.out HBW.out) hBW1).at HIO.out;injection ha9 with ha9
       injection ha9 with e1 e2
       subst e1 e2;have hbx:=HX.out _ (bT HBR.out HBW.out);have q0:=hbx.c 0;clear hbx;have HSN:=Lq (map_take_snoc (swapS old.p.name X.name) ho);clear ho hoa;cases hp:(o.toList==old.p.name.toList)
       ·have HSW:Hid (swapS old.p.name X.name o=o):=Lq (by unfold swapS eqS;rw[hp];rfl)
        go_wp2_with (at_builtin;refine wpList_append_own _ rfl _ _ 41 rfl W0.heap.size 9 i9 (.string ⟨#[]⟩) 1 16 Tryz.underlying41 hi9 hz90 hz91 hz92 rfl (by decide) _ _ _ rfl (HR.out.alloc _) ⟨wr.heap.size,0,none⟩ 1 1 [.string o] rfl rfl (one_new _ _ _) (by simp[Value.oneCell']) (by unfold maxLen;omega) (by have:=HMY.out.sz;simp only at this;omega) (by have:=HBW.out.size;simp only[World.size_alloc];omega) ?_)
        intro v6 w6 hown6 hg6 _;have HR6:Hid (w6.ownsRow W0.heap.size 9 1 v6 (j+1) (strs yon (swapS old.p.name X.name) (j+1))):=Lq (by rw[HSN.out,HSW.out];exact hown6)
        have HK6:Hid (Blk w6 g 43 #[.string yn,iv yk,iv yf,iv yl,.slice yA yon.length yc,iv yw,iv yz]):=Lq ((HK.out.alloc _).grown hg6 (own_ne HR.out HK.out (by decide)))
        have HB6:Hid (BW W0 w6):=Lq (grownB (HR.out.alloc _) hg6 (lr _) (bA HBW.out _));clear hown6 hg6;go_wp2_with fail;go_roundw
        case rel=>exact⟨j+1,by omega,by go_num,HR6,HK6,HB6⟩
        case measure=>simp[intOf];omega
       ·have HSW:Hid (swapS old.p.name X.name o=name):=Lq (by unfold swapS eqS;rw[hp];exact HXN.out.1)
        go_wp2_with (at_builtin;refine wpList_append_own _ rfl _ _ 41 rfl W0.heap.size 9 i9 (.string ⟨#[]⟩) 1 16 Tryz.underlying41 hi9 hz90 hz91 hz92 rfl (by decide) _ _ _ rfl (HR.out.alloc _) ⟨wr.heap.size,0,none⟩ 1 1 [.string name] rfl rfl (one_new _ _ _) (by simp[Value.oneCell']) (by unfold maxLen;omega) (by have:=HMY.out.sz;simp only at this;omega) (by have:=HBW.out.size;simp only[World.size_alloc];omega) ?_)
        intro v6 w6 hown6 hg6 _;have HR6:Hid (w6.ownsRow W0.heap.size 9 1 v6 (j+1) (strs yon (swapS old.p.name X.name) (j+1))):=Lq (by rw[HSN.out,HSW.out];exact hown6)
        have HK6:Hid (Blk w6 g 43 #[.string yn,iv yk,iv yf,iv yl,.slice yA yon.length yc,iv yw,iv yz]):=Lq ((HK.out.alloc _).grown hg6 (own_ne HR.out HK.out (by decide)))
        have HB6:Hid (BW W0 w6):=Lq (grownB (HR.out.alloc _) hg6 (lr _) (bA HBW.out _));clear hown6 hg6;go_wp2_with fail;go_roundw
        case rel=>exact⟨j+1,by omega,by go_num,HR6,HK6,HB6⟩
        case measure=>simp[intOf];omega
      ·obtain rfl:j=yon.length:=by omega
       have hr:=HR.out;rw[strs_all]at hr;obtain⟨A8,c8,rfl⟩:=own_slice hr;have HR8:=Lq hr;clear hr HR k4;have bk:=HK.out;have k4:=bk.c 4;have f4:=bk.frozen 4;have hgw:=bk.lt;have B5:=bk.set_ 4 (.slice A8 yon.length c8);simp only[List.setIfInBounds_toArray,List.set_cons_zero,List.set_cons_succ]at B5;have O5:BW W0 (wr.setCell ⟨g,4,none⟩ (.slice A8 yon.length c8)):=belowS HBW.out (by have:=HG.out;simp only;omega) _
       have Q5:OwnOn (wr.setCell ⟨g,4,none⟩ (.slice A8 yon.length c8)) (HuM.mk (HuP.mk yn yk yf yl (yon.map (swapS old.p.name X.name)) yw yz) A8 c8):=⟨by have:=own_zero ((OnlyAt.of_set (bR wr) g 4 (.slice A8 yon.length c8)).own HR8.out (own_ne HR8.out bk (by decide)).symm);simpa using this,HMY.out.nm,by intro o ho;obtain⟨o2,ho2,rfl⟩:=List.mem_map.1 ho;unfold swapS;split;exact HXN.out.2;exact HMY.out.ons o2 ho2,by have:=HMY.out.sz;simp only[List.length_map]at this ⊢;omega⟩
       obtain⟨W5,hW5⟩:=ex (wr.setCell ⟨g,4,none⟩ (.slice A8 yon.length c8));rw[hW5]at B5 O5 Q5;have hz5:=B5.lt;have HB5:=Lq B5;have HO5:=Lq O5;have HQ5:=Lq Q5;obtain⟨p0,p1,p2,p3,p4,p5,p6⟩:=B5.c7;have HAL:Hid ((W5.alloc (.cells #[.string yn,iv yk,iv yf,iv yl,.slice A8 yon.length c8,iv yw,iv yz] 43)).ownsRow W1.heap.size 43 7 u7 k (out.flatMap encM)):=Lq (own_below HO.out (bA O5 _));clear bk B5 O5 Q5 HR8 HK;go_wp2_with (at_builtin;refine wpList_append_own _ rfl _ _ 22 rfl W1.heap.size 43 i47 (.agg #[.string ⟨#[]⟩,iv 0,iv 0,iv 0,.slice none 0 0,iv 0,iv 0]) 7 80 Tryz.underlying22 hi47 hz470 hz471 hz472 rfl (by decide) _ _ _ rfl HAL.out ⟨W5.heap.size,0,none⟩ 1 1 [.string yn,iv yk,iv yf,iv yl,.slice A8 yon.length c8,iv yw,iv yz] rfl rfl (cells_new _ _ _) (by simp[Value.oneCell']) (by unfold maxLen;omega) (by omega) (by have:=HBR.out.size;have:=HO5.out.size;simp only[World.size_alloc];omega) ?_)
       intro v7 w7 hown7 hg7 _;have HO7:Hid (w7.ownsRow W1.heap.size 43 7 v7 (k+1) ((out++[(HuM.mk (HuP.mk yn yk yf yl (yon.map (swapS old.p.name X.name)) yw yz) A8 c8)]).flatMap encM)):=Lq (by simpa[encM]using hown7)
       have HQ7:Hid (∀q∈out++[(HuM.mk (HuP.mk yn yk yf yl (yon.map (swapS old.p.name X.name)) yw yz) A8 c8)],OwnOn w7 q):=Lq (fun q hq=>by
        rcases List.mem_append.1 hq with hq | hq
        ·exact((HQ.out q hq).below (bA HO5.out _)).grown HAL.out (by decide) hg7
        ·obtain rfl:=List.mem_singleton.1 hq;exact(HQ5.out.below (bA (bR _) _)).grown HAL.out (by decide) hg7)
       have HB7:Hid (BW W1 w7):=Lq (grownB HAL.out hg7 (lr _) (bA (bT HBR.out HO5.out) _));have HP7:Hid (psOf (out++[(HuM.mk (HuP.mk yn yk yf yl (yon.map (swapS old.p.name X.name)) yw yz) A8 c8)])=(swapP (psOf ms) i0 old.p.name X).take (k+1)):=Lq (by rw[List.take_add_one,(swapP_gt hil2 (ps_at HYI.out) hgt:(swapP (psOf ms) i0 old.p.name X)[k]?=some (HuP.mk yn yk yf yl (yon.map (swapS old.p.name X.name)) yw yz)),psOf_snoc,HP.out];rfl)
       clear hown7 hg7 hW5;go_wp2_with fail;go_roundw
       case rel=>exact⟨k+1,out++[(HuM.mk (HuP.mk yn yk yf yl (yon.map (swapS old.p.name X.name)) yw yz) A8 c8)],by omega,by go_num,by rw[List.length_append,HOL.out];rfl,HP7,HO7,HQ7,HB7⟩
       case measure=>simp[intOf];omega
    ·have hgt1:¬(k:Int)>(i0:Int):=by omega
     have hba:BW W0 Wa:=HBA;have HKA:Hid (Blk Wa g 43 #[.string yn,iv yk,iv yf,iv yl,.slice yA yon.length yc,iv yw,iv yz]):=Lq KA;have HBA2:=Lq hba;clear hWa hba HBA KA;have honl:yon.length≤9223372036854775807:=by have:=HMY.out.le;have:=HMY.out.cm;simp only[maxLen]at *;omega
     go_loopw [10,11] (fun v i W=>∃j:Nat,j≤yon.length∧i=iv j∧Hid (W.ownsRow W0.heap.size 9 1 v j (strs yon (fun o=>o) j))∧Hid (Blk W g 43 #[.string yn,iv yk,iv yf,iv yl,.slice yA yon.length yc,iv yw,iv yz])∧Hid (BW W0 W)) (fun _ i _=>yon.length-(intOf i).toNat)
     case atStart=>exact⟨0,by omega,rfl,Lq ⟨by simp[strs],.inl ⟨rfl,rfl⟩⟩,HKA,HBA2⟩
     case round =>
      clear q0 q1 q2 q3 q4 q5 q6 c0 c1 c2 c3 c4 c5 c6;obtain⟨j,hj,rfl,HR,HK,HBW⟩:=hrel;have hj0:(0:Int)≤(j:Int):=by omega
      have bk:=HK.out;have k4:wr.cell? ⟨g,4,none⟩=some (.slice yA yon.length yc):=bk.cell 4;clear bk;by_cases hjl:j<yon.length
      ·obtain⟨o,ho⟩:=gX (l:=yon) (i:=j) hjl;obtain⟨ob,oo,hoa,_,ck⟩:=(HMY.out.on.below HBW.out (by omega)) j o ho
       have HOI:=Lq ho;simp only at hoa;rw[hoa]at k4;have HSN:=Lq (map_take_snoc (fun o=>o) ho)
       clear ho hoa;go_wp2_with (at_builtin;refine wpList_append_own _ rfl _ _ 41 rfl W0.heap.size 9 i9 (.string ⟨#[]⟩) 1 16 Tryz.underlying41 hi9 hz90 hz91 hz92 rfl (by decide) _ _ _ rfl (HR.out.alloc _) ⟨wr.heap.size,0,none⟩ 1 1 [.string o] rfl rfl (one_new _ _ _) (by simp[Value.oneCell']) (by unfold maxLen;omega) (by have:=HMY.out.sz;simp only at this;omega) (by have:=HBW.out.size;simp only[World.size_alloc];omega) ?_)
       intro v6 w6 hown6 hg6 _;have HR6:Hid (w6.ownsRow W0.heap.size 9 1 v6 (j+1) (strs yon (fun o=>o) (j+1))):=Lq (by rw[HSN.out];exact hown6)
       have HK6:Hid (Blk w6 g 43 #[.string yn,iv yk,iv yf,iv yl,.slice yA yon.length yc,iv yw,iv yz]):=Lq ((HK.out.alloc _).grown hg6 (own_ne HR.out HK.out (by decide)))
       have HB6:Hid (BW W0 w6):=Lq (grownB (HR.out.alloc _) hg6 (lr _) (bA HBW.out _));clear hown6 hg6;go_wp2_with fail;go_roundw
       case rel=>exact⟨j+1,by omega,by go_num,HR6,HK6,HB6⟩
       case measure=>simp[intOf];omega
      ·obtain rfl:j=yon.length:=by omega
       have hr:=HR.out;rw[strs_all]at hr;obtain⟨A8,c8,rfl⟩:=own_slice hr;have HR8:=Lq hr;clear hr HR k4;have bk:=HK.out;have k4:=bk.c 4;have f4:=bk.frozen 4;have hgw:=bk.lt;have B5:=bk.set_ 4 (.slice A8 yon.length c8);simp only[List.setIfInBounds_toArray,List.set_cons_zero,List.set_cons_succ]at B5;have O5:BW W0 (wr.setCell ⟨g,4,none⟩ (.slice A8 yon.length c8)):=belowS HBW.out (by have:=HG.out;simp only;omega) _
       have Q5:OwnOn (wr.setCell ⟨g,4,none⟩ (.slice A8 yon.length c8)) (HuM.mk (HuP.mk yn yk yf yl (yon.map (fun o=>o)) yw yz) A8 c8):=⟨by have:=own_zero ((OnlyAt.of_set (bR wr) g 4 (.slice A8 yon.length c8)).own HR8.out (own_ne HR8.out bk (by decide)).symm);simpa using this,HMY.out.nm,by simpa using HMY.out.ons,by have:=HMY.out.sz;simp only[List.length_map]at this ⊢;omega⟩
       obtain⟨W5,hW5⟩:=ex (wr.setCell ⟨g,4,none⟩ (.slice A8 yon.length c8));rw[hW5]at B5 O5 Q5;have hz5:=B5.lt;have HB5:=Lq B5;have HO5:=Lq O5;have HQ5:=Lq Q5;obtain⟨p0,p1,p2,p3,p4,p5,p6⟩:=B5.c7;have HAL:Hid ((W5.alloc (.cells #[.string yn,iv yk,iv yf,iv yl,.slice A8 yon.length c8,iv yw,iv yz] 43)).ownsRow W1.heap.size 43 7 u7 k (out.flatMap encM)):=Lq (own_below HO.out (bA O5 _));clear bk B5 O5 Q5 HR8 HK;go_wp2_with (at_builtin;refine wpList_append_own _ rfl _ _ 22 rfl W1.heap.size 43 i47 (.agg #[.string ⟨#[]⟩,iv 0,iv 0,iv 0,.slice none 0 0,iv 0,iv 0]) 7 80 Tryz.underlying22 hi47 hz470 hz471 hz472 rfl (by decide) _ _ _ rfl HAL.out ⟨W5.heap.size,0,none⟩ 1 1 [.string yn,iv yk,iv yf,iv yl,.slice A8 yon.length c8,iv yw,iv yz] rfl rfl (cells_new _ _ _) (by simp[Value.oneCell']) (by unfold maxLen;omega) (by omega) (by have:=HBR.out.size;have:=HO5.out.size;simp only[World.size_alloc];omega) ?_)
       intro v7 w7 hown7 hg7 _;have HO7:Hid (w7.ownsRow W1.heap.size 43 7 v7 (k+1) ((out++[(HuM.mk (HuP.mk yn yk yf yl (yon.map (fun o=>o)) yw yz) A8 c8)]).flatMap encM)):=Lq (by simpa[encM]using hown7)
       have HQ7:Hid (∀q∈out++[(HuM.mk (HuP.mk yn yk yf yl (yon.map (fun o=>o)) yw yz) A8 c8)],OwnOn w7 q):=Lq (fun q hq=>by
        rcases List.mem_append.1 hq with hq | hq
        ·exact((HQ.out q hq).below (bA HO5.out _)).grown HAL.out (by decide) hg7
        ·obtain rfl:=List.mem_singleton.1 hq;exact(HQ5.out.below (bA (bR _) _)).grown HAL.out (by decide) hg7)
       have HB7:Hid (BW W1 w7):=Lq (grownB HAL.out hg7 (lr _) (bA (bT HBR.out HO5.out) _));have HP7:Hid (psOf (out++[(HuM.mk (HuP.mk yn yk yf yl (yon.map (fun o=>o)) yw yz) A8 c8)])=(swapP (psOf ms) i0 old.p.name X).take (k+1)):=Lq (by rw[List.take_add_one,(by rw[swapP_lt hil2 (ps_at HYI.out) (by omega)];simp:(swapP (psOf ms) i0 old.p.name X)[k]?=some (HuP.mk yn yk yf yl (yon.map (fun o=>o)) yw yz)),psOf_snoc,HP.out];rfl)
       clear hown7 hg7 hW5;go_wp2_with fail;go_roundw
       case rel=>exact⟨k+1,out++[(HuM.mk (HuP.mk yn yk yf yl (yon.map (fun o=>o)) yw yz) A8 c8)],by omega,by go_num,by rw[List.length_append,HOL.out];rfl,HP7,HO7,HQ7,HB7⟩
       case measure=>simp[intOf];omega
  ·obtain rfl:k=ms.length:=by omega
   go_wp2_with fail;go_ret
   have hp:=HP.out;rw[List.take_of_length_le (by rw[swapP_len hil2];simp)]at hp
   exact⟨out,by rw[hp,←HXE.out],HQ.out,u7,rfl,own_base (by rw[hol];exact HO.out) (by omega),bT HB1.out HBR.out⟩
end
section
variable{Q:Exit→Act→World→Prop}{w:World}
def OnlyN(Q:Exit→Act→World→Prop):Exit→Act→World→Prop
 | .normal,a,w=>Q .normal a w
 | _,_,_=>False
theorem OnlyN.imp:∀(e:Exit) (a:Act) (w:World),OnlyN Q e a w→Q e a w:=fun e a w h=>by cases e<;>first | exact h | exact(h:False).elim
theorem OnlyN.shut:¬LetsOut (OnlyN Q):=fun⟨_,_,h⟩=>h
section
variable {P:Program} {md:Region.Mode} {ops:Array Oper} {Q:Exit→Act→World→Prop} {l n:Nat}
theorem wpOp_lift(hd:∀(i:Nat) (o:Oper) c,ops[i]?=some o→o.op≠.defer c)(hl:¬LetsOut Q){i:Nat}{K K':Act→World→Prop}(hK:∀a w,K a w→K' a w){a:Act}(h:wpOp P ops Q i K a w):wpOpIn (Fence.wide.inRound l) n P ops Q i K' a w:=by
 unfold wpOp at h;unfold wpOpIn;cases ho:ops[i]? with
 | none=>rw[ho]at h;exact hK _ _ h
 | some o =>
  rw[ho]at h;simp only at h ⊢;split
  ·rename_i hw;rw[if_pos hw]at h;rcases h with h | ⟨_,h⟩
   ·refine⟨fun _ _=>trivial, ?_⟩
    rw[Oper.semAt_eq _ _ _ (fun c=>hd i o c ho)]
    unfold Oper.wp at h;generalize(execOp a.eval o).run P w=r at h;cases r with
    | ok x w' =>
     cases x with
     | value v=>exact hK _ _ h
     | skip=>exact hK _ _ h
     | defer d=>exact hK _ _ h
     | enter f args =>
      refine⟨(fun h=>by cases h),CallsIn.inRound l (callsIn_wide.2 (Calls.mono h fun e w'' he=>?_))⟩
      cases e with
      | returned v=>exact hK _ _ he
      | panicked c=>exact he
      | outgrown=>exact absurd he hl
     | row r args =>
      refine⟨(fun h=>by cases h),fun c cs _=>?_⟩
      obtain⟨v,w'',hr,hs⟩:=h c cs;exact⟨v,w'',hK _ _ hr,stepsIn_wide.2 hs⟩
     | _=>exact h.elim
    | halt x w'=>cases x<;>first | exact h | exact h.elim
   ·exact absurd h hl
  ·rename_i hw;rw[if_neg hw]at h;exact⟨fun _ _=>trivial,hK _ _ h⟩
theorem wpAny_lift(hd:∀(i:Nat) (o:Oper) c,ops[i]?=some o→o.op≠.defer c)(hl:¬LetsOut Q):∀(fuel:Nat) (L:Array Bool) (a:Act) (w:World),wpAny P md ops Q fuel L a w→wpAnyIn (Fence.wide.inRound l) n P md ops Q fuel L a w
 | 0,_,_,_,h=>h
 | fuel+1,_,_,_,h=>⟨h.1,fun i hi=>wpOp_lift hd hl (fun a w hw=>wpAny_lift hd hl fuel _ a w hw) (h.2 i hi)⟩
def noDefer(ops:Array Oper):Bool:=ops.toList.all fun o=>match o.op with
 | .defer _=>false
 | _=>true
theorem noDefer_spec(h:noDefer ops=true):∀(i:Nat) (o:Oper) c,ops[i]?=some o→o.op≠.defer c:=fun i o c hi e=>by
 unfold noDefer at h;rw[List.all_eq_true]at h;have:=h o (by rw[Array.getElem?_eq_some_iff]at hi;obtain⟨h1,rfl⟩:=hi;simp)
 rw[e]at this;cases this
theorem wpIn_region_lift{S:World→Prop}{id:Nat}{a:Act}(hm:P.follows .mixedOrders=true)(hd:noDefer ops=true)(h:wpAnyH P .any ops (OnlyN Q) S ops.size (Array.replicate ops.size false) a w.drew):(Code.region id ops true).wpIn (Fence.wide.inRound l) n P Q a w :=
 wpIn_mono (wpIn_region_any hm (wpAny_lift (noDefer_spec hd) OnlyN.shut _ _ _ _ (wpAny_of_held _ _ _ _ h))) OnlyN.imp
end
end

end Go.Proofs.YtigcophcpboanaaGreatDoor
namespace Go.Proofs
open Go.Shelf
def Tryz.lays169_ren:Go.Shelf.Ren:=⟨fun | 169=>120 | n=>n,fun | 70=>194 | 9=>9 | 0=>0 | 72=>197 | 37=>195 | 127=>234 | 3=>3 | 5=>5 | n=>n,fun | n=>n⟩
theorem Tryz.lays169:Go.Proofs.Lays.n169 Tryz.prog Tryz.lays169_ren:={
 mixed:=by kernel_rfl
 f169:=Tryz.func120.trans (congrArg some (by kernel_rfl))
 t0:=Tryz.underlying0
 a0:=Tryz.isAgg0
 z0:=Tryz.sizeOf0
 v0:=Tryz.zeroValue0
 t3:=Tryz.underlying3
 a3:=Tryz.isAgg3
 z3:=Tryz.sizeOf3
 v3:=Tryz.zeroValue3
 t9:=Tryz.underlying9
 a9:=Tryz.isAgg9
 z9:=Tryz.sizeOf9
 v9:=Tryz.zeroValue9
 t37:=Tryz.underlying195
 a37:=Tryz.isAgg195
 z37:=Tryz.sizeOf195
 v37:=Tryz.zeroValue195
 t70:=Tryz.underlying194
 a70:=Tryz.isAgg194
 z70:=Tryz.sizeOf194
 v70:=Tryz.zeroValue194
 t72:=Tryz.underlying197
 a72:=Tryz.isAgg197
 z72:=Tryz.sizeOf197
 v72:=Tryz.zeroValue197
 t127:=Tryz.underlying234
 a127:=Tryz.isAgg234
 z127:=Tryz.sizeOf234
 v127:=Tryz.zeroValue234 }
theorem Tryz.Builder_Extra_169:Builder.Extra Tryz.prog Tryz.lays169_ren:={
 sizeBuilder:=by kernel_rfl
 liesBuilder:=by kernel_rfl
 t5:=Tryz.underlying5
 a5:=Tryz.isAgg5
 z5:=Tryz.sizeOf5
 v5:=Tryz.zeroValue5
 infoByte:=by kernel_rfl
 cellsByte:=by kernel_rfl
 sizeByte:=by kernel_rfl
 neB5:=by decide }
open Go.RowKit in
theorem Tryz.Builder_String_any(B b:Nat)(l:List UInt8)(w:World)(h:Lib.IsBuilder 197 5 B b (Lib.byteCells l) w)(hBw:B≤w.heap.size) :
  Calls Tryz.prog 120 #[.pointer (some ⟨b,0,none⟩)] w fun e w'=>e=.returned (.string ⟨l.toArray⟩)∧Below B w w':=Any.Builder_String_any Tryz.lays169 Tryz.Builder_Extra_169 B b l w h hBw
def Tryz.lays156_ren:Go.Shelf.Ren:=⟨fun | 156=>117 | 165=>143 | 166=>116 | 169=>120 | 240=>142 | 241=>183 | 276=>182 | 277=>209 | n=>n,fun | 31=>41 | 9=>9 | 3=>3 | 4=>4 | 0=>0 | 20=>20 | 72=>197 | 76=>200 | 70=>194 | 37=>195 | 75=>199 | 127=>234 | 164=>258 | 5=>5 | 80=>81 | n=>n,fun | n=>n⟩
theorem Tryz.lays156:Go.Proofs.Lays.n156 Tryz.prog Tryz.lays156_ren:={
 mixed:=by kernel_rfl
 f156:=Tryz.func117.trans (congrArg some (by kernel_rfl))
 f165:=Tryz.func143.trans (congrArg some (by kernel_rfl))
 f166:=Tryz.func116.trans (congrArg some (by kernel_rfl))
 f169:=Tryz.func120.trans (congrArg some (by kernel_rfl))
 f240:=Tryz.func142.trans (congrArg some (by kernel_rfl))
 f241:=Tryz.func183.trans (congrArg some (by kernel_rfl))
 f276:=Tryz.func182.trans (congrArg some (by kernel_rfl))
 f277:=Tryz.func209.trans (congrArg some (by kernel_rfl))
 t0:=Tryz.underlying0
 a0:=Tryz.isAgg0
 z0:=Tryz.sizeOf0
 v0:=Tryz.zeroValue0
 t3:=Tryz.underlying3
 a3:=Tryz.isAgg3
 z3:=Tryz.sizeOf3
 v3:=Tryz.zeroValue3
 t4:=Tryz.underlying4
 a4:=Tryz.isAgg4
 z4:=Tryz.sizeOf4
 v4:=Tryz.zeroValue4
 t9:=Tryz.underlying9
 a9:=Tryz.isAgg9
 z9:=Tryz.sizeOf9
 v9:=Tryz.zeroValue9
 t20:=Tryz.underlying20
 a20:=Tryz.isAgg20
 z20:=Tryz.sizeOf20
 v20:=Tryz.zeroValue20
 t31:=Tryz.underlying41
 a31:=Tryz.isAgg41
 z31:=Tryz.sizeOf41
 v31:=Tryz.zeroValue41
 t37:=Tryz.underlying195
 a37:=Tryz.isAgg195
 z37:=Tryz.sizeOf195
 v37:=Tryz.zeroValue195
 t70:=Tryz.underlying194
 a70:=Tryz.isAgg194
 z70:=Tryz.sizeOf194
 v70:=Tryz.zeroValue194
 t72:=Tryz.underlying197
 a72:=Tryz.isAgg197
 z72:=Tryz.sizeOf197
 v72:=Tryz.zeroValue197
 t75:=Tryz.underlying199
 a75:=Tryz.isAgg199
 z75:=Tryz.sizeOf199
 v75:=Tryz.zeroValue199
 t76:=Tryz.underlying200
 a76:=Tryz.isAgg200
 z76:=Tryz.sizeOf200
 v76:=Tryz.zeroValue200
 t127:=Tryz.underlying234
 a127:=Tryz.isAgg234
 z127:=Tryz.sizeOf234
 v127:=Tryz.zeroValue234
 t164:=Tryz.underlying258
 a164:=Tryz.isAgg258
 z164:=Tryz.sizeOf258
 v164:=Tryz.zeroValue258 }
theorem Tryz.Builder_Extra_156:Builder.Extra Tryz.prog Tryz.lays156_ren:={
 sizeBuilder:=by kernel_rfl
 liesBuilder:=by kernel_rfl
 t5:=Tryz.underlying5
 a5:=Tryz.isAgg5
 z5:=Tryz.sizeOf5
 v5:=Tryz.zeroValue5
 infoByte:=by kernel_rfl
 cellsByte:=by kernel_rfl
 sizeByte:=by kernel_rfl
 neB5:=by decide }
open Go.RowKit in
theorem Tryz.strings_Join(bk o c:Nat)(xs:List ByteArray)(sep:ByteArray)(w:World)(hcells:∀(j:Nat) x,xs[j]?=some x→w.cell? ⟨bk,o+j,none⟩=some (.string x))(hbk:bk<w.heap.size)(hN:xs.length≤140737488355328)(hcap:xs.length≤c)(hlen:(Lib.join (xs.map (·.data.toList)) sep.data.toList).length≤140737488355328) :
  Calls Tryz.prog 117 #[.slice (some ⟨bk,o,none⟩) xs.length c,.string sep] w fun e w'=>e=.returned (.string ⟨(Lib.join (xs.map (·.data.toList)) sep.data.toList).toArray⟩)∧Below w.heap.size w w':=Any.strings_Join Tryz.lays156 Tryz.Builder_Extra_156 bk o c xs sep w hcells hbk hN hcap hlen
def Tryz.lays172_ren:Go.Shelf.Ren:=⟨fun | 172=>149 | 244=>192 | 245=>193 | 247=>217 | 279=>218 | 280=>219 | 281=>220 | 282=>221 | 287=>230 | 316=>231 | 171=>119 | 205=>232 | 321=>236 | 322=>237 | 243=>144 | 246=>184 | 283=>210 | 284=>211 | 285=>212 | 286=>213 | 129=>181 | 317=>226 | 318=>227 | 319=>228 | 320=>229 | 337=>234 | 338=>235 | n=>n,fun | 9=>9 | 3=>3 | 75=>199 | 76=>200 | 4=>4 | 5=>5 | 167=>285 | 37=>195 | 0=>0 | 85=>286 | 2=>2 | 168=>288 | 53=>257 | 175=>304 | 46=>211 | 210=>308 | 127=>234 | 145=>313 | 143=>311 | 21=>21 | 171=>279 | 173=>281 | 212=>298 | 51=>255 | 20=>20 | 213=>299 | 232=>314 | 233=>315 | 80=>81 | n=>n,fun | 15=>4 | 16=>5 | 17=>1 | 18=>6 | 19=>7 | n=>n⟩
theorem Tryz.lays172:Go.Proofs.Lays.n172 Tryz.prog Tryz.lays172_ren:={
 mixed:=by kernel_rfl
 f129:=Tryz.func181.trans (congrArg some (by kernel_rfl))
 f171:=Tryz.func119.trans (congrArg some (by kernel_rfl))
 f172:=Tryz.func149.trans (congrArg some (by kernel_rfl))
 f205:=Tryz.func232.trans (congrArg some (by kernel_rfl))
 f243:=Tryz.func144.trans (congrArg some (by kernel_rfl))
 f244:=Tryz.func192.trans (congrArg some (by kernel_rfl))
 f245:=Tryz.func193.trans (congrArg some (by kernel_rfl))
 f246:=Tryz.func184.trans (congrArg some (by kernel_rfl))
 f247:=Tryz.func217.trans (congrArg some (by kernel_rfl))
 f279:=Tryz.func218.trans (congrArg some (by kernel_rfl))
 f280:=Tryz.func219.trans (congrArg some (by kernel_rfl))
 f281:=Tryz.func220.trans (congrArg some (by kernel_rfl))
 f282:=Tryz.func221.trans (congrArg some (by kernel_rfl))
 f283:=Tryz.func210.trans (congrArg some (by kernel_rfl))
 f284:=Tryz.func211.trans (congrArg some (by kernel_rfl))
 f285:=Tryz.func212.trans (congrArg some (by kernel_rfl))
 f286:=Tryz.func213.trans (congrArg some (by kernel_rfl))
 f287:=Tryz.func230.trans (congrArg some (by kernel_rfl))
 f316:=Tryz.func231.trans (congrArg some (by kernel_rfl))
 f317:=Tryz.func226.trans (congrArg some (by kernel_rfl))
 f318:=Tryz.func227.trans (congrArg some (by kernel_rfl))
 f319:=Tryz.func228.trans (congrArg some (by kernel_rfl))
 f320:=Tryz.func229.trans (congrArg some (by kernel_rfl))
 f321:=Tryz.func236.trans (congrArg some (by kernel_rfl))
 f322:=Tryz.func237.trans (congrArg some (by kernel_rfl))
 f337:=Tryz.func234.trans (congrArg some (by kernel_rfl))
 f338:=Tryz.func235.trans (congrArg some (by kernel_rfl))
 t0:=Tryz.underlying0
 a0:=Tryz.isAgg0
 z0:=Tryz.sizeOf0
 v0:=Tryz.zeroValue0
 t2:=Tryz.underlying2
 a2:=Tryz.isAgg2
 z2:=Tryz.sizeOf2
 v2:=Tryz.zeroValue2
 t3:=Tryz.underlying3
 a3:=Tryz.isAgg3
 z3:=Tryz.sizeOf3
 v3:=Tryz.zeroValue3
 t4:=Tryz.underlying4
 a4:=Tryz.isAgg4
 z4:=Tryz.sizeOf4
 v4:=Tryz.zeroValue4
 t5:=Tryz.underlying5
 a5:=Tryz.isAgg5
 z5:=Tryz.sizeOf5
 v5:=Tryz.zeroValue5
 t9:=Tryz.underlying9
 a9:=Tryz.isAgg9
 z9:=Tryz.sizeOf9
 v9:=Tryz.zeroValue9
 t20:=Tryz.underlying20
 a20:=Tryz.isAgg20
 z20:=Tryz.sizeOf20
 v20:=Tryz.zeroValue20
 t21:=Tryz.underlying21
 a21:=Tryz.isAgg21
 z21:=Tryz.sizeOf21
 v21:=Tryz.zeroValue21
 t37:=Tryz.underlying195
 a37:=Tryz.isAgg195
 z37:=Tryz.sizeOf195
 v37:=Tryz.zeroValue195
 t46:=Tryz.underlying211
 a46:=Tryz.isAgg211
 z46:=Tryz.sizeOf211
 v46:=Tryz.zeroValue211
 t51:=Tryz.underlying255
 a51:=Tryz.isAgg255
 z51:=Tryz.sizeOf255
 v51:=Tryz.zeroValue255
 t53:=Tryz.underlying257
 a53:=Tryz.isAgg257
 z53:=Tryz.sizeOf257
 v53:=Tryz.zeroValue257
 t75:=Tryz.underlying199
 a75:=Tryz.isAgg199
 z75:=Tryz.sizeOf199
 v75:=Tryz.zeroValue199
 t76:=Tryz.underlying200
 a76:=Tryz.isAgg200
 z76:=Tryz.sizeOf200
 v76:=Tryz.zeroValue200
 t85:=Tryz.underlying286
 a85:=Tryz.isAgg286
 z85:=Tryz.sizeOf286
 v85:=Tryz.zeroValue286
 t127:=Tryz.underlying234
 a127:=Tryz.isAgg234
 z127:=Tryz.sizeOf234
 v127:=Tryz.zeroValue234
 t143:=Tryz.underlying311
 a143:=Tryz.isAgg311
 z143:=Tryz.sizeOf311
 v143:=Tryz.zeroValue311
 t145:=Tryz.underlying313
 a145:=Tryz.isAgg313
 z145:=Tryz.sizeOf313
 v145:=Tryz.zeroValue313
 t167:=Tryz.underlying285
 a167:=Tryz.isAgg285
 z167:=Tryz.sizeOf285
 v167:=Tryz.zeroValue285
 t168:=Tryz.underlying288
 a168:=Tryz.isAgg288
 z168:=Tryz.sizeOf288
 v168:=Tryz.zeroValue288
 t171:=Tryz.underlying279
 a171:=Tryz.isAgg279
 z171:=Tryz.sizeOf279
 v171:=Tryz.zeroValue279
 t173:=Tryz.underlying281
 a173:=Tryz.isAgg281
 z173:=Tryz.sizeOf281
 v173:=Tryz.zeroValue281
 t175:=Tryz.underlying304
 a175:=Tryz.isAgg304
 z175:=Tryz.sizeOf304
 v175:=Tryz.zeroValue304
 t210:=Tryz.underlying308
 a210:=Tryz.isAgg308
 z210:=Tryz.sizeOf308
 v210:=Tryz.zeroValue308
 t212:=Tryz.underlying298
 a212:=Tryz.isAgg298
 z212:=Tryz.sizeOf298
 v212:=Tryz.zeroValue298
 t213:=Tryz.underlying299
 a213:=Tryz.isAgg299
 z213:=Tryz.sizeOf299
 t232:=Tryz.underlying314
 a232:=Tryz.isAgg314
 z232:=Tryz.sizeOf314
 v232:=Tryz.zeroValue314
 t233:=Tryz.underlying315
 a233:=Tryz.isAgg315
 z233:=Tryz.sizeOf315
 v233:=Tryz.zeroValue315
 g15:=by kernel_rfl
 g16:=by kernel_rfl
 g17:=by kernel_rfl
 g18:=by kernel_rfl
 g19:=by kernel_rfl }
open Go.RowKit in
theorem Tryz.strconv_Atoi(s:ByteArray)(n:Int)(hl:s.size≤18)(h:Lib.atoi s.data.toList=some n)(w:World) :
  Calls Tryz.prog 149 #[.string s] w fun e w'=>e=.returned (.tuple #[.int .i64 n,.nilIface])∧∃t,w'=Lib.bytesWorld w 5 t:=Any.strconv_Atoi Tryz.lays172 s n hl h w
def Tryz.laysM171_ren:Go.Shelf.Ren:=⟨fun | 171=>119 | 243=>144 | 246=>184 | 283=>210 | 284=>211 | 285=>212 | 286=>213 | 129=>181 | 317=>226 | 318=>227 | 319=>228 | 320=>229 | 337=>234 | 338=>235 | n=>n,fun | 3=>3 | 9=>9 | 2=>2 | 4=>4 | 171=>279 | 0=>0 | 53=>257 | 37=>195 | 5=>5 | 173=>281 | 212=>298 | 51=>255 | 20=>20 | 213=>299 | 46=>211 | 232=>314 | 233=>315 | n=>n,fun | 17=>1 | 18=>6 | 19=>7 | n=>n⟩
theorem Tryz.laysM171:Go.Proofs.LaysM.n171 Tryz.prog Tryz.laysM171_ren:={
 mixed:=by kernel_rfl
 f129:=Tryz.func181.trans (congrArg some (by kernel_rfl))
 f171:=Tryz.func119.trans (congrArg some (by kernel_rfl))
 f243:=Tryz.func144.trans (congrArg some (by kernel_rfl))
 f246:=Tryz.func184.trans (congrArg some (by kernel_rfl))
 f283:=Tryz.func210.trans (congrArg some (by kernel_rfl))
 f284:=Tryz.func211.trans (congrArg some (by kernel_rfl))
 f285:=Tryz.func212.trans (congrArg some (by kernel_rfl))
 f286:=Tryz.func213.trans (congrArg some (by kernel_rfl))
 f317:=Tryz.func226.trans (congrArg some (by kernel_rfl))
 f318:=Tryz.func227.trans (congrArg some (by kernel_rfl))
 f319:=Tryz.func228.trans (congrArg some (by kernel_rfl))
 f320:=Tryz.func229.trans (congrArg some (by kernel_rfl))
 f337:=Tryz.func234.trans (congrArg some (by kernel_rfl))
 f338:=Tryz.func235.trans (congrArg some (by kernel_rfl))
 t0:=Tryz.underlying0
 a0:=Tryz.isAgg0
 z0:=Tryz.sizeOf0
 v0:=Tryz.zeroValue0
 t2:=Tryz.underlying2
 a2:=Tryz.isAgg2
 z2:=Tryz.sizeOf2
 v2:=Tryz.zeroValue2
 t3:=Tryz.underlying3
 a3:=Tryz.isAgg3
 z3:=Tryz.sizeOf3
 v3:=Tryz.zeroValue3
 t4:=Tryz.underlying4
 a4:=Tryz.isAgg4
 z4:=Tryz.sizeOf4
 v4:=Tryz.zeroValue4
 t5:=Tryz.underlying5
 a5:=Tryz.isAgg5
 z5:=Tryz.sizeOf5
 v5:=Tryz.zeroValue5
 t9:=Tryz.underlying9
 a9:=Tryz.isAgg9
 z9:=Tryz.sizeOf9
 v9:=Tryz.zeroValue9
 t20:=Tryz.underlying20
 a20:=Tryz.isAgg20
 z20:=Tryz.sizeOf20
 v20:=Tryz.zeroValue20
 t37:=Tryz.underlying195
 a37:=Tryz.isAgg195
 z37:=Tryz.sizeOf195
 v37:=Tryz.zeroValue195
 t46:=Tryz.underlying211
 a46:=Tryz.isAgg211
 z46:=Tryz.sizeOf211
 v46:=Tryz.zeroValue211
 t51:=Tryz.underlying255
 a51:=Tryz.isAgg255
 z51:=Tryz.sizeOf255
 v51:=Tryz.zeroValue255
 t53:=Tryz.underlying257
 a53:=Tryz.isAgg257
 z53:=Tryz.sizeOf257
 v53:=Tryz.zeroValue257
 t171:=Tryz.underlying279
 a171:=Tryz.isAgg279
 z171:=Tryz.sizeOf279
 v171:=Tryz.zeroValue279
 t173:=Tryz.underlying281
 a173:=Tryz.isAgg281
 z173:=Tryz.sizeOf281
 v173:=Tryz.zeroValue281
 t212:=Tryz.underlying298
 a212:=Tryz.isAgg298
 z212:=Tryz.sizeOf298
 v212:=Tryz.zeroValue298
 t213:=Tryz.underlying299
 a213:=Tryz.isAgg299
 z213:=Tryz.sizeOf299
 t232:=Tryz.underlying314
 a232:=Tryz.isAgg314
 z232:=Tryz.sizeOf314
 v232:=Tryz.zeroValue314
 t233:=Tryz.underlying315
 a233:=Tryz.isAgg315
 z233:=Tryz.sizeOf315
 v233:=Tryz.zeroValue315
 g17:=by kernel_rfl
 g18:=by kernel_rfl
 g19:=by kernel_rfl
 i0:=by kernel_rfl
 i2:=by kernel_rfl
 i3:=by kernel_rfl
 i4:=by kernel_rfl
 i5:=by kernel_rfl
 i9:=by kernel_rfl
 i20:=by kernel_rfl
 i37:=by kernel_rfl
 i46:=by kernel_rfl
 i51:=by kernel_rfl
 i53:=by kernel_rfl
 i171:=by kernel_rfl
 i173:=by kernel_rfl
 i212:=by kernel_rfl
 i232:=by kernel_rfl
 i233:=by kernel_rfl
 m17:=by kernel_rfl
 m18:=by kernel_rfl
 m19:=by kernel_rfl }
open Go.RowKit Go.Sort Go.Lib in
theorem Tryz.strconv_Itoa(n:Int)(h0:-9223372036854775808≤n)(h1:n≤9223372036854775807)(w:World)(htab:Lib.TabIs Tryz.prog w "internal/strconv.uint64pow10" .u64 Lib.pow10Tab) :
  Calls Tryz.prog 119 #[.int .i64 n] w fun e w'=>e=.returned (.string ⟨(Lib.itoa n).toArray⟩)∧∃k os,w'=grow (w.drewN k) os:=Any.strconv_Itoa Tryz.laysM171 n h0 h1 w htab
def Tryz.lays145_ren:Go.Shelf.Ren:=⟨fun | 145=>79 | 220=>121 | 219=>145 | 217=>185 | 225=>186 | 224=>187 | 267=>188 | 266=>214 | 314=>215 | n=>n,fun | 9=>9 | 4=>4 | 59=>149 | 3=>3 | 5=>5 | 46=>211 | 146=>283 | 51=>255 | n=>n,fun | 1=>0 | n=>n⟩
theorem Tryz.lays145:Go.Proofs.Lays.n145 Tryz.prog Tryz.lays145_ren:={
 mixed:=by kernel_rfl
 f145:=Tryz.func79.trans (congrArg some (by kernel_rfl))
 f217:=Tryz.func185.trans (congrArg some (by kernel_rfl))
 f219:=Tryz.func145.trans (congrArg some (by kernel_rfl))
 f220:=Tryz.func121.trans (congrArg some (by kernel_rfl))
 f224:=Tryz.func187.trans (congrArg some (by kernel_rfl))
 f225:=Tryz.func186.trans (congrArg some (by kernel_rfl))
 f266:=Tryz.func214.trans (congrArg some (by kernel_rfl))
 f267:=Tryz.func188.trans (congrArg some (by kernel_rfl))
 f314:=Tryz.func215.trans (congrArg some (by kernel_rfl))
 t3:=Tryz.underlying3
 a3:=Tryz.isAgg3
 z3:=Tryz.sizeOf3
 v3:=Tryz.zeroValue3
 t4:=Tryz.underlying4
 a4:=Tryz.isAgg4
 z4:=Tryz.sizeOf4
 v4:=Tryz.zeroValue4
 t5:=Tryz.underlying5
 a5:=Tryz.isAgg5
 z5:=Tryz.sizeOf5
 v5:=Tryz.zeroValue5
 t9:=Tryz.underlying9
 a9:=Tryz.isAgg9
 z9:=Tryz.sizeOf9
 v9:=Tryz.zeroValue9
 t46:=Tryz.underlying211
 a46:=Tryz.isAgg211
 z46:=Tryz.sizeOf211
 v46:=Tryz.zeroValue211
 t51:=Tryz.underlying255
 a51:=Tryz.isAgg255
 z51:=Tryz.sizeOf255
 v51:=Tryz.zeroValue255
 t59:=Tryz.underlying149
 a59:=Tryz.isAgg149
 z59:=Tryz.sizeOf149
 v59:=Tryz.zeroValue149
 t146:=Tryz.underlying283
 a146:=Tryz.isAgg283
 z146:=Tryz.sizeOf283
 v146:=Tryz.zeroValue283
 g1:=by kernel_rfl }
open Go.RowKit Go.Lib in
theorem Tryz.strings_Cut(s sep:ByteArray)(m:Int)(w:World)(hs:s.size<4294967281)(hm:w.cell? ⟨0,0,none⟩=some (.int .i64 m)) :
  Calls Tryz.prog 79 #[.string s,.string sep] w fun e w'=>e=.returned (.tuple #[.string ⟨(Lib.cut s.data.toList sep.data.toList).1.toArray⟩,.string ⟨(Lib.cut s.data.toList sep.data.toList).2.1.toArray⟩,.bool (Lib.cut s.data.toList sep.data.toList).2.2])∧∃n,w'=w.drewN n:=Any.strings_Cut Tryz.lays145 s sep m w hs hm
def Tryz.lays190_ren:Go.Shelf.Ren:=⟨fun | 190=>109 | 125=>140 | 258=>139 | 128=>180 | 129=>181 | 302=>171 | 303=>172 | 304=>173 | 305=>174 | 306=>175 | 307=>176 | 308=>177 | 309=>178 | 310=>179 | 333=>203 | 329=>204 | 330=>205 | 334=>206 | 335=>207 | 336=>208 | 344=>225 | n=>n,fun | 31=>41 | 9=>9 | 3=>3 | 46=>211 | 0=>0 | 51=>255 | 53=>257 | 4=>4 | 183=>248 | 182=>247 | 131=>218 | 5=>5 | 218=>272 | 222=>276 | 228=>294 | 229=>295 | n=>n,fun | n=>n⟩
theorem Tryz.lays190:Go.Proofs.Lays.n190 Tryz.prog Tryz.lays190_ren:={
 mixed:=by kernel_rfl
 f125:=Tryz.func140.trans (congrArg some (by kernel_rfl))
 f128:=Tryz.func180.trans (congrArg some (by kernel_rfl))
 f129:=Tryz.func181.trans (congrArg some (by kernel_rfl))
 f190:=Tryz.func109.trans (congrArg some (by kernel_rfl))
 f258:=Tryz.func139.trans (congrArg some (by kernel_rfl))
 f302:=Tryz.func171.trans (congrArg some (by kernel_rfl))
 f303:=Tryz.func172.trans (congrArg some (by kernel_rfl))
 f304:=Tryz.func173.trans (congrArg some (by kernel_rfl))
 f305:=Tryz.func174.trans (congrArg some (by kernel_rfl))
 f306:=Tryz.func175.trans (congrArg some (by kernel_rfl))
 f307:=Tryz.func176.trans (congrArg some (by kernel_rfl))
 f308:=Tryz.func177.trans (congrArg some (by kernel_rfl))
 f309:=Tryz.func178.trans (congrArg some (by kernel_rfl))
 f310:=Tryz.func179.trans (congrArg some (by kernel_rfl))
 f329:=Tryz.func204.trans (congrArg some (by kernel_rfl))
 f330:=Tryz.func205.trans (congrArg some (by kernel_rfl))
 f333:=Tryz.func203.trans (congrArg some (by kernel_rfl))
 f334:=Tryz.func206.trans (congrArg some (by kernel_rfl))
 f335:=Tryz.func207.trans (congrArg some (by kernel_rfl))
 f336:=Tryz.func208.trans (congrArg some (by kernel_rfl))
 f344:=Tryz.func225.trans (congrArg some (by kernel_rfl))
 t0:=Tryz.underlying0
 a0:=Tryz.isAgg0
 z0:=Tryz.sizeOf0
 v0:=Tryz.zeroValue0
 t3:=Tryz.underlying3
 a3:=Tryz.isAgg3
 z3:=Tryz.sizeOf3
 v3:=Tryz.zeroValue3
 t4:=Tryz.underlying4
 a4:=Tryz.isAgg4
 z4:=Tryz.sizeOf4
 v4:=Tryz.zeroValue4
 t5:=Tryz.underlying5
 a5:=Tryz.isAgg5
 z5:=Tryz.sizeOf5
 v5:=Tryz.zeroValue5
 t9:=Tryz.underlying9
 a9:=Tryz.isAgg9
 z9:=Tryz.sizeOf9
 v9:=Tryz.zeroValue9
 t31:=Tryz.underlying41
 a31:=Tryz.isAgg41
 z31:=Tryz.sizeOf41
 v31:=Tryz.zeroValue41
 t46:=Tryz.underlying211
 a46:=Tryz.isAgg211
 z46:=Tryz.sizeOf211
 v46:=Tryz.zeroValue211
 t51:=Tryz.underlying255
 a51:=Tryz.isAgg255
 z51:=Tryz.sizeOf255
 v51:=Tryz.zeroValue255
 t53:=Tryz.underlying257
 a53:=Tryz.isAgg257
 z53:=Tryz.sizeOf257
 v53:=Tryz.zeroValue257
 t131:=Tryz.underlying218
 a131:=Tryz.isAgg218
 z131:=Tryz.sizeOf218
 v131:=Tryz.zeroValue218
 t182:=Tryz.underlying247
 a182:=Tryz.isAgg247
 z182:=Tryz.sizeOf247
 v182:=Tryz.zeroValue247
 t183:=Tryz.underlying248
 a183:=Tryz.isAgg248
 z183:=Tryz.sizeOf248
 v183:=Tryz.zeroValue248
 t218:=Tryz.underlying272
 a218:=Tryz.isAgg272
 z218:=Tryz.sizeOf272
 v218:=Tryz.zeroValue272
 t222:=Tryz.underlying276
 a222:=Tryz.isAgg276
 z222:=Tryz.sizeOf276
 v222:=Tryz.zeroValue276
 t228:=Tryz.underlying294
 a228:=Tryz.isAgg294
 z228:=Tryz.sizeOf294
 v228:=Tryz.zeroValue294
 t229:=Tryz.underlying295
 a229:=Tryz.isAgg295
 z229:=Tryz.sizeOf295
 v229:=Tryz.zeroValue295 }
open Go.Sort Go.RowKit in
theorem Tryz.slices_Sort_string(blk off cap:Nat)(ss:List (List UInt8))(w:World)(hH:Holds encStr w blk off ss.toArray)(hblk:blk<w.heap.size)(hsz:ss.length<4611686018427387904) :
  Calls Tryz.prog 109 #[.slice (some ⟨blk,off,none⟩) ss.length cap] w fun e w' =>
   e=.returned (.tuple #[])∧∃n os,w'=grow (putRow encStr (Sort.ahead w n) blk off (ss.mergeSort fun x y=>decide (x≤y)).toArray) os:=Any.slices_Sort_string Tryz.lays190 blk off cap ss w hH hblk hsz
def Tryz.lays146_ren:Go.Shelf.Ren:=⟨fun | 146=>81 | 221=>122 | 268=>146 | 138=>147 | 143=>148 | 195=>189 | 197=>190 | 218=>191 | 219=>145 | 260=>216 | 217=>185 | 225=>186 | 224=>187 | 267=>188 | 266=>214 | 314=>215 | n=>n,fun | 9=>9 | 31=>41 | 3=>3 | 4=>4 | 0=>0 | 105=>262 | 21=>21 | 5=>5 | 46=>211 | 119=>300 | 139=>303 | 138=>302 | 146=>283 | 51=>255 | n=>n,fun | 1=>0 | 3=>2 | 4=>3 | n=>n⟩
theorem Tryz.lays146:Go.Proofs.Lays.n146 Tryz.prog Tryz.lays146_ren:={
 mixed:=by kernel_rfl
 f138:=Tryz.func147.trans (congrArg some (by kernel_rfl))
 f143:=Tryz.func148.trans (congrArg some (by kernel_rfl))
 f146:=Tryz.func81.trans (congrArg some (by kernel_rfl))
 f195:=Tryz.func189.trans (congrArg some (by kernel_rfl))
 f197:=Tryz.func190.trans (congrArg some (by kernel_rfl))
 f217:=Tryz.func185.trans (congrArg some (by kernel_rfl))
 f218:=Tryz.func191.trans (congrArg some (by kernel_rfl))
 f219:=Tryz.func145.trans (congrArg some (by kernel_rfl))
 f221:=Tryz.func122.trans (congrArg some (by kernel_rfl))
 f224:=Tryz.func187.trans (congrArg some (by kernel_rfl))
 f225:=Tryz.func186.trans (congrArg some (by kernel_rfl))
 f260:=Tryz.func216.trans (congrArg some (by kernel_rfl))
 f266:=Tryz.func214.trans (congrArg some (by kernel_rfl))
 f267:=Tryz.func188.trans (congrArg some (by kernel_rfl))
 f268:=Tryz.func146.trans (congrArg some (by kernel_rfl))
 f314:=Tryz.func215.trans (congrArg some (by kernel_rfl))
 t0:=Tryz.underlying0
 a0:=Tryz.isAgg0
 z0:=Tryz.sizeOf0
 v0:=Tryz.zeroValue0
 t3:=Tryz.underlying3
 a3:=Tryz.isAgg3
 z3:=Tryz.sizeOf3
 v3:=Tryz.zeroValue3
 t4:=Tryz.underlying4
 a4:=Tryz.isAgg4
 z4:=Tryz.sizeOf4
 v4:=Tryz.zeroValue4
 t5:=Tryz.underlying5
 a5:=Tryz.isAgg5
 z5:=Tryz.sizeOf5
 v5:=Tryz.zeroValue5
 t9:=Tryz.underlying9
 a9:=Tryz.isAgg9
 z9:=Tryz.sizeOf9
 v9:=Tryz.zeroValue9
 t21:=Tryz.underlying21
 a21:=Tryz.isAgg21
 z21:=Tryz.sizeOf21
 v21:=Tryz.zeroValue21
 t31:=Tryz.underlying41
 a31:=Tryz.isAgg41
 z31:=Tryz.sizeOf41
 v31:=Tryz.zeroValue41
 t46:=Tryz.underlying211
 a46:=Tryz.isAgg211
 z46:=Tryz.sizeOf211
 v46:=Tryz.zeroValue211
 t51:=Tryz.underlying255
 a51:=Tryz.isAgg255
 z51:=Tryz.sizeOf255
 v51:=Tryz.zeroValue255
 t105:=Tryz.underlying262
 a105:=Tryz.isAgg262
 z105:=Tryz.sizeOf262
 v105:=Tryz.zeroValue262
 t119:=Tryz.underlying300
 a119:=Tryz.isAgg300
 z119:=Tryz.sizeOf300
 t138:=Tryz.underlying302
 a138:=Tryz.isAgg302
 z138:=Tryz.sizeOf302
 v138:=Tryz.zeroValue302
 t139:=Tryz.underlying303
 a139:=Tryz.isAgg303
 z139:=Tryz.sizeOf303
 v139:=Tryz.zeroValue303
 t146:=Tryz.underlying283
 a146:=Tryz.isAgg283
 z146:=Tryz.sizeOf283
 v146:=Tryz.zeroValue283
 g1:=by kernel_rfl
 g3:=by kernel_rfl
 g4:=by kernel_rfl }
open Go.RowKit Go.Lib in
theorem Tryz.strings_Split(s sep:ByteArray)(m:Int)(w:World)(hs:s.size<4294967281)(hm:w.cell? ⟨0,0,none⟩=some (.int .i64 m))(h1:1≤sep.size) :
  Calls Tryz.prog 81 #[.string s,.string sep] w fun e w' =>
   e=.returned (.slice (some ⟨w.heap.size,0,none⟩) (Lib.countB s sep+1) (Lib.countB s sep+1))∧w'=w.alloc (.cells ((Lib.splitB sep 0 (Lib.countB s sep) s).map Value.string).toArray 9):=Any.strings_Split Tryz.lays146 (by kernel_rfl) s sep m w hs hm h1
def Tryz.lays109_ren:Go.Shelf.Ren:=⟨fun | 109=>123 | n=>n,fun | 31=>41 | 9=>9 | 3=>3 | 0=>0 | 4=>4 | n=>n,fun | n=>n⟩
theorem Tryz.lays109:Go.Proofs.Lays.n109 Tryz.prog Tryz.lays109_ren:={
 mixed:=by kernel_rfl
 f109:=Tryz.func123.trans (congrArg some (by kernel_rfl))
 t0:=Tryz.underlying0
 a0:=Tryz.isAgg0
 z0:=Tryz.sizeOf0
 v0:=Tryz.zeroValue0
 t3:=Tryz.underlying3
 a3:=Tryz.isAgg3
 z3:=Tryz.sizeOf3
 v3:=Tryz.zeroValue3
 t4:=Tryz.underlying4
 a4:=Tryz.isAgg4
 z4:=Tryz.sizeOf4
 v4:=Tryz.zeroValue4
 t9:=Tryz.underlying9
 a9:=Tryz.isAgg9
 z9:=Tryz.sizeOf9
 v9:=Tryz.zeroValue9
 t31:=Tryz.underlying41
 a31:=Tryz.isAgg41
 z31:=Tryz.sizeOf41
 v31:=Tryz.zeroValue41 }
open Go.Lib in
theorem Tryz.slices_Index_string(b off n c:Nat)(zs:List ByteArray)(x:ByteArray)(w:World)(hz:n≤zs.length)(hbig:n≤9223372036854775807)(hc:∀j,j<zs.length→w.cell? ⟨b,off+j,none⟩=some (.string (zs.getD j ByteArray.empty))) :
  Calls Tryz.prog 123 #[.slice (some ⟨b,off,none⟩) n c,.string x] w fun e w'=>e=.returned (.int .i64 (Lib.idxOfS (zs.take n) x))∧w'=w:=Any.slices_Index_string Tryz.lays109 b off n c zs x w hz hbig hc
def Tryz.lays113_ren:Go.Shelf.Ren:=⟨fun | 113=>76 | n=>n,fun | 28=>65 | 3=>3 | 4=>4 | 9=>9 | 20=>20 | 0=>0 | n=>n,fun | n=>n⟩
theorem Tryz.lays113:Go.Proofs.Lays.n113 Tryz.prog Tryz.lays113_ren:={
 mixed:=by kernel_rfl
 f113:=Tryz.func76.trans (congrArg some (by kernel_rfl))
 t0:=Tryz.underlying0
 a0:=Tryz.isAgg0
 z0:=Tryz.sizeOf0
 v0:=Tryz.zeroValue0
 t3:=Tryz.underlying3
 a3:=Tryz.isAgg3
 z3:=Tryz.sizeOf3
 v3:=Tryz.zeroValue3
 t4:=Tryz.underlying4
 a4:=Tryz.isAgg4
 z4:=Tryz.sizeOf4
 v4:=Tryz.zeroValue4
 t9:=Tryz.underlying9
 a9:=Tryz.isAgg9
 z9:=Tryz.sizeOf9
 v9:=Tryz.zeroValue9
 t20:=Tryz.underlying20
 a20:=Tryz.isAgg20
 z20:=Tryz.sizeOf20
 v20:=Tryz.zeroValue20
 t28:=Tryz.underlying65
 a28:=Tryz.isAgg65
 z28:=Tryz.sizeOf65
 v28:=Tryz.zeroValue65 }
open Go.Lib in
theorem Tryz.slices_Max_int(b off n c:Nat)(zs:List Int)(w:World)(hn:0<n)(hz:n≤zs.length)(hbig:n≤9223372036854775807)(hc:∀j,j<zs.length→w.cell? ⟨b,off+j,none⟩=some (.int .i64 (zs.getD j 0))) :
  Calls Tryz.prog 76 #[.slice (some ⟨b,off,none⟩) n c] w fun e w'=>e=.returned (.int .i64 (Lib.maxOf (zs.take n)))∧w'=w:=Any.slices_Max_int Tryz.lays113 b off n c zs w hn hz hbig hc
def Tryz.lays193_ren:Go.Shelf.Ren:=⟨fun | 193=>69 | n=>n,fun | 31=>41 | 9=>9 | 4=>4 | 3=>3 | 0=>0 | n=>n,fun | n=>n⟩
theorem Tryz.lays193:Go.Proofs.Lays.n193 Tryz.prog Tryz.lays193_ren:={
 mixed:=by kernel_rfl
 f193:=Tryz.func69.trans (congrArg some (by kernel_rfl))
 t0:=Tryz.underlying0
 a0:=Tryz.isAgg0
 z0:=Tryz.sizeOf0
 v0:=Tryz.zeroValue0
 t3:=Tryz.underlying3
 a3:=Tryz.isAgg3
 z3:=Tryz.sizeOf3
 v3:=Tryz.zeroValue3
 t4:=Tryz.underlying4
 a4:=Tryz.isAgg4
 z4:=Tryz.sizeOf4
 v4:=Tryz.zeroValue4
 t9:=Tryz.underlying9
 a9:=Tryz.isAgg9
 z9:=Tryz.sizeOf9
 v9:=Tryz.zeroValue9
 t31:=Tryz.underlying41
 a31:=Tryz.isAgg41
 z31:=Tryz.sizeOf41
 v31:=Tryz.zeroValue41 }
open Go.RowKit Go.Lib in
theorem Tryz.slices_Equal_string(b1 o1 n c b2 o2 m d:Nat)(xs ys:List ByteArray)(w:World)(hx:n≤xs.length)(hy:m≤ys.length)(hbig:n≤9223372036854775807)(hbig2:m≤9223372036854775807)(hc1:∀j,j<xs.length→w.cell? ⟨b1,o1+j,none⟩=some (.string (xs.getD j ByteArray.empty)))(hc2:∀j,j<ys.length→w.cell? ⟨b2,o2+j,none⟩=some (.string (ys.getD j ByteArray.empty))) :
  Calls Tryz.prog 69 #[.slice (some ⟨b1,o1,none⟩) n c,.slice (some ⟨b2,o2,none⟩) m d] w fun e w'=>e=.returned (.bool (decide (xs.take n=ys.take m)))∧∃q,w'=w.drewN q:=Any.slices_Equal_string Tryz.lays193 b1 o1 n c b2 o2 m d xs ys w hx hy hbig hbig2 hc1 hc2
open Go.RowKit Go.Lib in
theorem Tryz.slices_Equal_string_empty(a1 a2:Option Addr)(c m d:Nat)(w:World)(hbig2:m≤9223372036854775807) :
  Calls Tryz.prog 69 #[.slice a1 0 c,.slice a2 m d] w fun e w'=>e=.returned (.bool (decide (m=0)))∧w'=w:=Any.slices_Equal_string_empty Tryz.lays193 a1 a2 c m d w hbig2
def Tryz.lays194_ren:Go.Shelf.Ren:=⟨fun | 194=>110 | n=>n,fun | 31=>41 | 9=>9 | 3=>3 | 4=>4 | 0=>0 | n=>n,fun | n=>n⟩
theorem Tryz.lays194:Go.Proofs.Lays.n194 Tryz.prog Tryz.lays194_ren:={
 mixed:=by kernel_rfl
 f194:=Tryz.func110.trans (congrArg some (by kernel_rfl))
 t0:=Tryz.underlying0
 a0:=Tryz.isAgg0
 z0:=Tryz.sizeOf0
 v0:=Tryz.zeroValue0
 t3:=Tryz.underlying3
 a3:=Tryz.isAgg3
 z3:=Tryz.sizeOf3
 v3:=Tryz.zeroValue3
 t4:=Tryz.underlying4
 a4:=Tryz.isAgg4
 z4:=Tryz.sizeOf4
 v4:=Tryz.zeroValue4
 t9:=Tryz.underlying9
 a9:=Tryz.isAgg9
 z9:=Tryz.sizeOf9
 v9:=Tryz.zeroValue9
 t31:=Tryz.underlying41
 a31:=Tryz.isAgg41
 z31:=Tryz.sizeOf41
 v31:=Tryz.zeroValue41 }
open Go.RowKit Go.Lib Go.Sort in
theorem Tryz.slices_Compact_string(blk off cap:Nat)(zs:List (List UInt8))(w:World)(hH:Holds encStr w blk off zs.toArray)(hsz:zs.length≤9223372036854775807)(hcap:zs.length≤cap) :
  Calls Tryz.prog 110 #[.slice (some ⟨blk,off,none⟩) zs.length cap] w fun e w'=>e=.returned (.slice (some ⟨blk,off,none⟩) (Lib.compact zs).length cap)∧∃q,w'=putRow encStr (Sort.ahead w q) blk off (Lib.compact zs++List.replicate (zs.length-(Lib.compact zs).length) []).toArray:=Any.slices_Compact_string Tryz.lays194 blk off cap zs w hH hsz hcap
open Go.RowKit Go.Lib in
theorem Tryz.slices_Equal_string_lens(a1 a2:Option Addr)(n c m d:Nat)(w:World)(hnm:n≠m) :
  Calls Tryz.prog 69 #[.slice a1 n c,.slice a2 m d] w fun e w'=>e=.returned (.bool false)∧w'=w:=Any.slices_Equal_string_lens Tryz.lays193 a1 a2 n c m d w hnm
end Go.Proofs
namespace Go.Proofs.YtigcophcpboanaaGreatDoor
open Go.RowKit Go.Shelf
section
variable{W X w:World}
attribute [local go_sem] Oper.semAt_some
structure KeepM(M:Nat→Prop)(w w':World):Prop where
 size:w.heap.size≤w'.heap.size
 same:∀k,¬M k→k<w.heap.size→w'.heap[k]?=w.heap[k]?
theorem KeepM.refl(M:Nat→Prop)(w:World):KeepM M w w:=⟨lr _,fun _ _ _=>rfl⟩
theorem KeepM.trans{M:Nat→Prop}{Y Z:World}(h:KeepM M X Y)(k:KeepM M Y Z):KeepM M X Z :=
 ⟨lT h.size k.size,fun i hm hi=>(k.same i hm (lz hi h.size)).trans (h.same i hm hi)⟩
theorem KeepM.of_below{M:Nat→Prop}(h:BW W X):KeepM M W X:=⟨h.size,fun k _ hk=>h.block k hk⟩
theorem KeepM.of_only{M:Nat→Prop}{km:Nat}(h:OnlyAt W X km)(hk:M km):KeepM M W X:=⟨h.size,fun k hm hlt=>h.block k hlt (fun e=>hm (e▸hk))⟩
theorem KeepM.cell{M:Nat→Prop}{w':World}(h:KeepM M w w'){b o:Nat}{v:Value}(hc:w.cell? ⟨b,o,none⟩=some v)(hm:¬M b):w'.cell? ⟨b,o,none⟩=some v :=
 (World.cell?_of_block (w:=w) (a:=⟨b,o,none⟩) (h.same b hm (lt_of_cell hc))).trans hc
theorem grownPut(W:World)(k:Nat)(o:Obj):W.grownBy (W.putObj k o) (some k):=⟨rfl,rfl,rfl,by simp[World.putObj],fun i _ hne=>World.putObj_heap_other (fun e=>hne (by rw[e]))⟩
def RoundsG{α:Type}(m bw l:Nat)(enc:α→Value)(M:Nat→Prop)(all:List α)(J:List α→World→Prop):Prop :=
 ∀(pre:List α) (s:α) (W:World),J pre W→pre++[s] <+: all→bw<W.heap.size→YieldAt Fence.wide m Tryz.prog l #[enc s] W fun e W' =>
  KeepM M W W'∧e=.returned (.bool true)∧J (pre++[s]) W'
def IterAt{α:Type}(f:FuncId)(caps:Array Value)(enc:α→Value)(all:List α)(C:Nat→Prop)(w:World):Prop :=
 ∀(M:Nat→Prop) (l m:Nat) (J:List α→World→Prop) (W:World),BW w W→(∀k,M k→C k∧k<W.heap.size)→(∀s W1 W2,J s W1→Below W.heap.size W1 W2→J s W2) →
  (∀m,RoundsG m W.heap.size l enc M all J)→J [] W→CallsIn Fence.wide m Tryz.prog f (#[.func (.yield l) #[] #[]]++caps) W fun e W'=>(∃v,e=.returned v)∧J all W'
def roundOutG{α:Type}(M:Nat→Prop)(I:List α→World→Prop)(xs:List α)(W:World):Exit→Act→World→Prop
 | .normal,_,W'=>KeepM M W W'∧I xs W'
 | _,_,_=>False
theorem rangeFunc_gen{α:Type}{p:Tmp}{gf:Operand}{assign body:Code}{Q:Exit→Act→World→Prop}{a:Act}(nn:Nat)(f:FuncId)(caps:Array Value)(enc:α→Value)(all:List α)(M C:Nat→Prop)(hg:a.eval gf=.func (.func f) #[] caps)(hiter:IterAt f caps enc all C w)(hMC:∀k,M k→C k∧k<w.heap.size)(hC:C (w.heap.size+1))(hen:∀args w,(callFunc f args).run Tryz.prog w=.ok (.enter f args) w)(I:List α→World→Prop)(hI:∀s W1 W2,I s W1→Below w.heap.size W1 W2→I s W2)(h0:I [] w)(hbody:∀(m l:Nat) (pre:List α) (s:α) (W:World),I pre W→pre++[s] <+: all→w.heap.size+2<W.heap.size →
   assign.wpIn (Fence.wide.inRound l) m Tryz.prog (Exit.then (fun a1 W1=>BW W W1∧∀W2,I pre W2→W1.grownBy W2 (some (w.heap.size+1))→W2.heap.size=W1.heap.size→body.wpIn (Fence.wide.inRound l) m Tryz.prog (roundOutG M I (pre++[s]) W2) a1 W2) (fun _ _ _=>False)) { tmps:=a.tmps.setIfInBounds p (enc s),defers:=[] } W)(hdone:∀(W:World),I all W→w.heap.size+2≤W.heap.size→W.heap[w.heap.size]?=some (.deferred (some []))→Q .normal { a with defers:={ target:=.collected w.heap.size,args:=#[] }::a.defers } W) :
  (Code.rangeFunc gf #[p] assign body).wpIn Fence.wide nn Tryz.prog Q a w:=by
 refine wpIn_rangeFunc ?_;intro fn hfn;obtain⟨rec,hrec⟩:∃rec:LoopState→Option Code→Loop,rec=fun st pe=>{ state:=st,pending:=pe,fn,tmps:=a.tmps,params:=#[p],assign,body,defers:=w.heap.size }:=⟨_,rfl⟩
 obtain⟨W1,hW1⟩:=ex ((w.alloc (.deferred (some []))).alloc (.loop (rec .ready none)));have hL1:W1.heap[w.heap.size+1]?=some (.loop (rec .ready none)):=by rw[←hW1];have:=World.alloc_heap_new (w.alloc (.deferred (some []))) (.loop (rec .ready none));rwa [World.size_alloc]at this
 have hK1:W1.heap[w.heap.size]?=some (.deferred (some [])):=by rw[←hW1];exact(Below.heap_alloc _ _ _ (by simp)).trans (World.alloc_heap_new w _)
 have hb1:BW w W1:=by rw[←hW1];exact((Below.refl _ w).alloc (lr _) _).alloc (by simp) _
 have hs1:W1.heap.size=w.heap.size+2:=by rw[←hW1];simp
 have hI1:I [] W1:=hI _ _ _ h0 hb1;refine⟨w.heap.size+1,[{ target:=.collected w.heap.size,args:=#[] }],W1,{ target:=.fn (.func f) caps,args:=#[.func (.yield (w.heap.size+1)) #[] #[]] },W1,f,
  #[.func (.yield (w.heap.size+1)) #[] #[]]++caps,W1, ?_, ?_, ?_, ?_,hdd _, ?_⟩
 ·rw[←hW1,hrec];exact run_enterLoop_outer _ _ _ _ _
 ·simp only[resolve,hg];simp[go_sem]
 ·intro f' hf';trivial
 ·simp[invoke,go_sem,hen]
 ·have ready:∀{B:Nat} {X Y:World} {k:Nat} {o:Obj},Below B X Y→k<B→X.heap[k]?=some o→Y.heap[k]?=some o:=fun hb hk ho=>(hb.block _ hk).trans ho
  refine(hiter (fun k=>M k∨k=w.heap.size+1) (w.heap.size+1) (nn-1)
   (fun pre W=>I pre W∧W.heap[w.heap.size+1]?=some (.loop (rec .ready none))∧W.heap[w.heap.size]?=some (.deferred (some [])))
   W1 hb1 (fun k hk=>by
    rcases hk with hk | hk
    ·have:=hMC k hk;exact⟨this.1,by omega⟩
    ·subst hk;exact⟨hC,by omega⟩)
   (fun s A B h hb=>⟨hI s A B h.1 (hb.mono (by omega)),ready hb (by omega) h.2.1,ready hb (by omega) h.2.2⟩) ?_ ⟨hI1,hL1,hK1⟩).mono ?_
  ·rintro m pre x W ⟨hi,hl,hk⟩ hpre hbw;have hlt:w.heap.size+1<W.heap.size:=(Array.getElem?_eq_some_iff.1 hl).1;have hy:(Instr.yield (w.heap.size+1) #[enc x]).run Tryz.prog W=.ok (.round (w.heap.size+1) fn (a.tmps.setIfInBounds p (enc x)) assign body) W:=by
    have:=run_yield (P:=Tryz.prog) (args:=#[enc x]) hl (by rw[hrec];rfl)
    rw[hrec]at this
    simpa using this
   refine⟨fn,_,assign,body,hy,roundIn_of_wpIn hfn ?_⟩;refine wpIn_mono (hbody m (w.heap.size+1) pre x W hi hpre (by omega)) ?_
   rintro e a1 W1' hp;cases e with
   | normal =>
    obtain⟨hbW,hp⟩:=hp;have hl':W1'.heap[w.heap.size+1]?=some (.loop (rec .ready none)):=ready hbW hlt hl;have hk':W1'.heap[w.heap.size]?=some (.deferred (some [])):=ready hbW (by omega) hk
    have hlt':w.heap.size+1<W1'.heap.size:=(Array.getElem?_eq_some_iff.1 hl').1;have hi':I pre W1':=hI _ _ _ hi (hbW.mono (by omega))
    refine⟨_,run_beginRound hl' (by rw[hrec]), ?_⟩
    have hl2:(W1'.putObj (w.heap.size+1) (.loop { rec .ready none with state:=.busy })).heap[w.heap.size+1]?=some (.loop { rec .ready none with state:=.busy }):=World.putObj_heap_same hlt'
    have hk2:(W1'.putObj (w.heap.size+1) (.loop { rec .ready none with state:=.busy })).heap[w.heap.size]?=some (.deferred (some [])):=(World.putObj_heap_other (by omega)).trans hk'
    refine wpIn_mono (hp _ (hI _ _ _ hi' (below_putObj _ (by omega) _)) (grownPut _ _ _) (by simp[World.putObj])) ?_
    have fin:∀(jump:Option Code) (W3:World),KeepM M (W1'.putObj (w.heap.size+1) (.loop { rec .ready none with state:=.busy })) W3 →
      (Instr.endRound (w.heap.size+1) jump).run Tryz.prog W3=.ok (.bool jump.isNone) (W3.putObj (w.heap.size+1) (.loop (rec (if jump.isNone then .ready else .done) jump))) ∧
      (W3.putObj (w.heap.size+1) (.loop (rec (if jump.isNone then .ready else .done) jump))).heap[w.heap.size+1]?=some (.loop (rec (if jump.isNone then .ready else .done) jump)) ∧
      (W3.putObj (w.heap.size+1) (.loop (rec (if jump.isNone then .ready else .done) jump))).heap[w.heap.size]?=some (.deferred (some [])) ∧
      KeepM (fun k=>M k∨k=w.heap.size+1) W (W3.putObj (w.heap.size+1) (.loop (rec (if jump.isNone then .ready else .done) jump))):=fun jump W3 hk3=>by
     have nM:∀k,w.heap.size≤k→¬M k:=fun k hk hm=>by have:=(hMC k hm).2;omega
     have hl3:W3.heap[w.heap.size+1]?=some (.loop { rec .ready none with state:=.busy }):=(hk3.same _ (nM _ (by omega)) (by simp[World.putObj];omega)).trans hl2
     have hd3:W3.heap[w.heap.size]?=some (.deferred (some [])):=(hk3.same _ (nM _ (by omega)) (by simp[World.putObj];omega)).trans hk2
     have:=run_endRound (P:=Tryz.prog) jump hl3;rw[hrec]at this ⊢;have put:∀(X:World) (o:Obj),KeepM (fun k=>M k∨k=w.heap.size+1) X (X.putObj (w.heap.size+1) o):=fun X o =>
      ⟨by simp[World.putObj],fun k hk _=>World.putObj_heap_other (fun e=>hk (.inr e))⟩
     refine⟨this,World.putObj_heap_same (Array.getElem?_eq_some_iff.1 hl3).1,(World.putObj_heap_other (by omega)).trans hd3, ?_⟩
     exact(((KeepM.of_below hbW).trans (put _ _)).trans ⟨hk3.size,fun k hk=>hk3.same k (fun hm=>hk (.inl hm))⟩).trans (put _ _)
    rintro e a3 W3 hp3;cases e with
    | normal =>
     obtain⟨hk3,hi3⟩:=hp3;obtain⟨hr,hl4,hk4,hkb⟩:=fin none W3 hk3;exact⟨_,_,hr,hkb,rfl,hI _ _ _ hi3 (below_putObj _ (by omega) _),hl4,hk4⟩
    | ret=>exact hp3.elim
    | exit id=>exact hp3.elim
    | goto t=>exact hp3.elim
    | panic ch=>exact hp3.elim
    | outgrown=>exact hp3.elim
   | ret=>exact hp.elim
   | exit id=>exact hp.elim
   | goto t=>exact hp.elim
   | panic ch=>exact hp.elim
   | outgrown=>exact hp.elim
  ·rintro e W2 ⟨⟨v,rfl⟩,hi,hl,hk⟩;have hlt2:=(Array.getElem?_eq_some_iff.1 hl).1;exact⟨none,_,by have:=run_endLoop (P:=Tryz.prog) hl (by rw[hrec];simp);rw[hrec]at this;exact this,
    hdone _ (hI _ _ _ hi (below_putObj _ (by omega) _)) (by simp[World.putObj];omega) ((World.putObj_heap_other (by omega)).trans hk)⟩
end
end Go.Proofs.YtigcophcpboanaaGreatDoor
namespace Go.Proofs.YtigcophcpboanaaGreatDoor
def isReg(n:Nat):Code→Bool
 | .region id _ _=>id==n
 | _=>false
def afterNo(n:Nat):Code→Option Code
 | .seq a b=>if isReg n a then some b else match afterNo n a with
  | some c=>some c
  | none=>afterNo n b
 | .cond _ a b=>match afterNo n a with
  | some c=>some c
  | none=>afterNo n b
 | .block _ c=>afterNo n c
 | .loop c=>afterNo n c
 | .scope c=>afterNo n c
 | _=>none
noncomputable def restOf(f:Func)(n:Nat):Code:=(f.body.bind (afterNo n)).getD .skip
end Go.Proofs.YtigcophcpboanaaGreatDoor
namespace Go.Proofs.YtigcophcpboanaaGreatDoor
open Go Go.RowKit
section
variable{T args:Array Value}{d f i n:Nat}{v:Value}{U V:World}
def Has(n:Nat)(T:Array Value)(l:List (Nat×Value)):Prop:=T.size=n∧∀p∈l,T[p.1]?=some p.2
theorem Has.nil(h:T.size=n):Has n T []:=⟨h,fun _ h=>by cases h⟩
theorem Has.cons{l:List (Nat×Value)}(h:T[i]?=some v)(k:Has n T l):Has n T ((i,v)::l):=⟨k.1,fun p hp=>by
 rcases List.mem_cons.1 hp with rfl | hp
 ·exact h
 ·exact k.2 p hp⟩
theorem lookup_mem:∀{l:List (Nat×Value)},l.lookup i=some v→(i,v)∈l
 | (j,u)::l,h=>by
  unfold List.lookup at h;split at h
  ·rename_i hb;injection h with h
   subst h;rw[beq_iff_eq.1 hb];exact List.mem_cons_self
  ·exact List.mem_cons_of_mem _ (lookup_mem h)
theorem Has.get{l:List (Nat×Value)}(h:Has n T l)(i:Nat)(v:Value)(hm:l.lookup i=some v:=by rfl):T[i]?=some v:=h.2 _ (lookup_mem hm)
theorem Has.put{l:List (Nat×Value)}(h:Has n T l)(hd:d<n)(hn:(l.all fun p=>p.1 != d)=true):Has n (T.setIfInBounds d v) ((d,v)::l):=by
 refine Has.cons ?_ ⟨by rw[Array.size_setIfInBounds];exact h.1,fun p hp=>?_⟩
 ·rw[Array.getElem?_setIfInBounds_self_of_lt (by rw[h.1];exact hd)]
 ·have:=List.all_eq_true.1 hn p hp;rw[Array.getElem?_setIfInBounds_ne (fun e=>by rw[e]at this;simp at this)]
  exact h.2 p hp
theorem Has.g{l:List (Nat×Value)}(h:Has n T l)(i:Nat)(hm:l.lookup i=some v:=by rfl):T[i]?=some v:=h.get i v hm
def bm(n m:Nat):Array Bool:=((List.range n).map fun i=>m.testBit i).toArray
def upTo(m k:Nat):Array Bool:=(List.replicate k true++List.replicate (m-k) false).toArray
section
variable {P:Program} {ops:Array Oper} {Q:Exit→Act→World→Prop} {md:Region.Mode} {S:World→Prop} {fuel m n:Nat} {w:World} {T:Array Value} {l:List (Nat×Value)}
def Runs(ops:Array Oper)(T:Array Value)(o:Oper):Prop:=Region.wanted o (yielded ops T)=true
theorem runs_free{o:Oper}(h:o.guard=none):Runs ops T o:=by unfold Runs Region.wanted;rw[h]
theorem runs_if{o:Oper}{g:Nat}{b:Bool}(h:o.guard=some (g,b))(hd:((ops[g]?).bind fun o=>o.dst)=some d)(hT:T[d]?=some (.bool b)):Runs ops T o:=by unfold Runs Region.wanted yielded;rw[h];simp[hd,hT]
theorem rI(g d:Nat){o:Oper}(H:Has n T l)(h:o.guard=some (g,true):=by kernel_rfl)(hd:((ops[g]?).bind fun o=>o.dst)=some d:=by kernel_rfl)(hl:l.lookup d=some (.bool true):=by rfl):Runs ops T o:=runs_if h hd (H.get d _ hl)
theorem rI'(g d:Nat){o:Oper}(H:Has n T l)(h:o.guard=some (g,false):=by kernel_rfl)(hd:((ops[g]?).bind fun o=>o.dst)=some d:=by kernel_rfl)(hl:l.lookup d=some (.bool false):=by rfl):Runs ops T o:=runs_if h hd (H.get d _ hl)
theorem gdTake(k d:Nat)(v:Value)(H:Has n T l)(h:∀T',Has n T' ((d,v)::l)→wpAnyH P md ops Q S fuel (upTo m (k+1)) ⟨T',[]⟩ w)(hr:Runs ops T (opN ops k):=by exact runs_free (by kernel_rfl))(hv:∀w,S w→(execOp (Act.eval ⟨T,[]⟩) (opN ops k)).run P w=.ok (.value v) w:=by
   generalize e:opN _ _=o;conv at e=>lhs;whnf
   subst e;intro w hSw
   (repeat(have hx:=hSw.1;replace hSw:=hSw.2))
   go_simp)(hi:ops[k]?=some (opN ops k):=by kernel_rfl)(hb:takeB md ops (upTo m k) k=true:=by kernel_rfl)(hd:(opN ops k).dst=some d:=by kernel_rfl)(hnew:(l.all fun p=>p.1 != d)=true:=by rfl)(hdn:d<n:=by decide)(hu:(upTo m k).setIfInBounds k true=upTo m (k+1):=by kernel_rfl)(hS:S w:=by assumption)(hQ:∀c a w,Q (.panic c) (a.put (opN ops k).dst v) w→Q (.panic c) a w:=by exact fun _ _ _ h=>h):wpAnyH P md ops Q S (fuel+1) (upTo m k) ⟨T,[]⟩ w:=by
 simp only[takeB,Bool.and_eq_true]at hb;refine wpAnyH_take hi hb.1.1 hb.1.2 hb.2 hQ (Or.inl ⟨hr,hv⟩) hS ?_;rw[hu,show(Act.put ⟨T,[]⟩ (opN ops k).dst v)=⟨T.setIfInBounds d v,[]⟩by rw[hd];rfl]
 exact h _ (H.put hdn hnew)
theorem gdMake(k d:Nat)(v:Value)(w':World)(H:Has n T l)(h:∀T',Has n T' ((d,v)::l)→wpAnyH P md ops Q S fuel (upTo m (k+1)) ⟨T',[]⟩ w')(hS:S w')(hr:Runs ops T (opN ops k):=by exact runs_free (by kernel_rfl))(hv:(execOp (Act.eval ⟨T,[]⟩) (opN ops k)).run P w=.ok (.value v) w':=by
   generalize e:opN _ _=o;conv at e=>lhs;whnf
   subst e;go_simp)(hi:ops[k]?=some (opN ops k):=by kernel_rfl)(hb:Region.ready md ops (upTo m k)=[k]:=by kernel_rfl)(hd:(opN ops k).dst=some d:=by kernel_rfl)(hnew:(l.all fun p=>p.1 != d)=true:=by rfl)(hdn:d<n:=by decide)(hu:(upTo m k).setIfInBounds k true=upTo m (k+1):=by kernel_rfl):wpAnyH P md ops Q S (fuel+1) (upTo m k) ⟨T,[]⟩ w:=by
 refine wpAnyH_ready hb (by simp) (AllReadyH.cons hi (fun K' hK=>?_) AllReadyH.nil)
 rw[if_pos (show Region.wanted (opN ops k) (yielded ops T)=true from hr)]
 unfold Oper.wp;rw[hv,Oper.upon_value,show(Act.put ⟨T,[]⟩ (opN ops k).dst v)=⟨T.setIfInBounds d v,[]⟩by rw[hd];rfl]
 refine hK.out _ _ hS fun _=>?_
 rw[hu];exact h _ (H.put hdn hnew)
theorem gdCall(k d f:Nat)(args:Array Value){R:Value→World→Prop}(H:Has n T l)(hc:Calls P f args w fun e w'=>∃v,e=.returned v∧S w'∧R v w')(h:∀v w' T',S w'→R v w'→Has n T' ((d,v)::l)→wpAnyH P md ops Q S fuel (upTo m (k+1)) ⟨T',[]⟩ w')(hr:Runs ops T (opN ops k):=by exact runs_free (by kernel_rfl))(hv:(execOp (Act.eval ⟨T,[]⟩) (opN ops k)).run P w=.ok (.enter f args) w:=by
   generalize e:opN _ _=o;conv at e=>lhs;whnf
   subst e;go_simp)(hi:ops[k]?=some (opN ops k):=by kernel_rfl)(hb:Region.ready md ops (upTo m k)=[k]:=by kernel_rfl)(hd:(opN ops k).dst=some d:=by kernel_rfl)(hnew:(l.all fun p=>p.1 != d)=true:=by rfl)(hdn:d<n:=by decide)(hu:(upTo m k).setIfInBounds k true=upTo m (k+1):=by kernel_rfl):wpAnyH P md ops Q S (fuel+1) (upTo m k) ⟨T,[]⟩ w:=by
 refine wpAnyH_ready hb (by simp) (AllReadyH.cons hi (fun K' hK=>?_) AllReadyH.nil)
 rw[if_pos (show Region.wanted (opN ops k) (yielded ops T)=true from hr)]
 unfold Oper.wp;rw[hv,Oper.upon_enter];refine hc.mono ?_;rintro e w' ⟨v,rfl,hS,hR⟩;show K' (Act.put ⟨T,[]⟩ (opN ops k).dst v) w'
 rw[show(Act.put ⟨T,[]⟩ (opN ops k).dst v)=⟨T.setIfInBounds d v,[]⟩by rw[hd];rfl]
 refine hK.out _ _ hS fun _=>?_
 rw[hu];exact h _ _ _ hS hR (H.put hdn hnew)
theorem gdC{v0:Value}(hS:∀W,BW V W→S W)(h:Calls P f args U fun e w'=>e=.returned v0∧BW V w'):Calls P f args U fun e w'=>∃v,e=.returned v∧S w'∧(v=v0∧BW V w') :=
 h.mono fun _ _ h=>⟨v0,h.1,hS _ h.2,rfl,h.2⟩
theorem gdC2{R:Value→World→Prop}(hS:∀W,BW V W→S W)(h:Calls P f args U fun e w'=>∃v,e=.returned v∧R v w'∧BW V w'):Calls P f args U fun e w'=>∃v,e=.returned v∧S w'∧(R v w'∧BW V w') :=
 h.mono fun _ _ ⟨v,h1,h2,h3⟩=>⟨v,h1,hS _ h3,h2,h3⟩
theorem gd0{c:Code}{r:Nat}{a:Act}(hS:∀W,BW V W→S W)(h:∀V0,BW V V0→S V0→wpAnyH P .any ops (NoPanic Q) S m (upTo m 0) a V0)(hm:P.follows .mixedOrders=true:=by kernel_rfl)(hc:c=Code.region r ops true:=by kernel_rfl)(hn:ops.size=m:=by kernel_rfl)(hl:Array.replicate m false=upTo m 0:=by kernel_rfl):c.wp P Q a V:=by subst hc hn;rw[←hl]at h;have hb:=belowDq (bR V);exact wp_region_noPanic (wp_region_held_drew hm (hS _ hb) fun hh=>h _ hb hh)
end
end
end Go.Proofs.YtigcophcpboanaaGreatDoor
