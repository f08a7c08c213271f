/- The reference of layer 1: a list with another part in the place of one (printed by mkHR4.py). The reference of layer 1: bare. The reference of layer 1: the region of changed that adds a part (printed by mkHR6.py). The reference of layer 1: a change that adds or takes (printed by mkHR7.py). -/
import Derived.BigGuardPart
import Derived.Test.YtpgfldcoojfheaaGreatDoorM0
import Derived.Test.YtpgfldcoojfheaaGreatDoorM2
set_option maxRecDepth 1000000
set_option maxHeartbeats 16000000
namespace Go.Proofs.YtpgfldcoojfheaaGreatDoor
open Go.RowKit
section
variable {base g i k : Nat} {w w' : World} {v : Value} {s : ByteArray}
theorem Tryz.info9 : (Tryz.prog.info? 9).map (fun i=>(i.zero,i.size,i.bytes)) = some (some (.string ⟨#[]⟩),1,16):=by kernel_rfl
theorem swapP_len {l : List HuP} {x : HuP} (hk : k < l.length) : (swapP l k s x).length = l.length:=by unfold swapP; simp; omega
theorem swapP_lt {l : List HuP} {x y : HuP} (hk : k < l.length) (hi : l[i]? = some y) (h : i < k) : (swapP l k s x)[i]? = some y:=by
 unfold swapP;rw [List.getElem?_append_left (by simp; omega),List.getElem?_take_of_lt h]; exact hi
theorem swapP_eq {l : List HuP} {x : HuP} (hk : k < l.length) : (swapP l k s x)[k]? = some x:=by
 unfold swapP;have h1 : (l.take k).length = k:=by simp; omega
 rw [List.getElem?_append_right (by omega),h1,Nat.sub_self]; rfl
theorem swapP_gt {l : List HuP} {x y : HuP} (hk : k < l.length) (hi : l[i]? = some y) (h : k < i) : (swapP l k s x)[i]? = some (swapO s x.name y):=by
 unfold swapP;have h1 : (l.take k).length = k:=by simp; omega
 rw [List.getElem?_append_right (by omega),h1,show i - k = (i - k - 1) + 1 by omega,List.getElem?_cons_succ,List.getElem?_map,List.getElem?_drop,show k + 1 + (i - k - 1) = i by omega,hi]; rfl
structure OwnOn (w : World) (m : HuM) : Prop where
 ow : w.ownsRow 0 9 1 (.slice m.A m.p.on.length m.cap) m.p.on.length (m.p.on.map .string)
 nm : m.p.name.size ≤ maxLen
 ons : ∀ o ∈ m.p.on,o.size ≤ maxLen
 sz : m.p.on.length * 16 ≤ 140737488351232
theorem OwnOn.below {m : HuM} (h : OwnOn w m) (hb : Below w.heap.size w w') : OwnOn w' m:=⟨own_below h.ow hb,h.nm,h.ons,h.sz⟩
theorem OwnOn.grown {m : HuM} (h : OwnOn w m) {e size n : Nat} {xs : List Value} (ho : w.ownsRow base e size v n xs) (he : 9 ≠ e) (hg : w.grownBy w' v.ownBlock) : OwnOn w' m:=⟨own_grown h.ow ho he hg,h.nm,h.ons,h.sz⟩
theorem own_str {xs : List ByteArray} (h : w.ownsRow base 9 1 v xs.length (xs.map .string)) : ∃ A cap,v = .slice A xs.length cap ∧ Rd1 .string w w.heap.size A xs ∧ xs.length ≤ cap ∧ cap ≤ maxLen:=by
 obtain ⟨A,cap,h1,h2,_⟩:=own_rd1 h;refine ⟨A,cap,h1,h2, ?_⟩;rcases h.2 with ⟨hv,hn⟩ | ⟨g,c,cur,hv,_,_,hc,hm,_⟩
 ·rw [h1] at hv;injection hv with _ h3 h4
  subst h4;exact ⟨by omega,Nat.zero_le _⟩
 ·rw [h1] at hv;injection hv with _ _ h4
  subst h4;exact ⟨hc,hm⟩
theorem OwnOn.ok {m : HuM} (h : OwnOn w m) : MOk w w.heap.size m:=by
 obtain ⟨A,cap,h1,h2,h3,h4⟩:=own_str h.ow;injection h1 with e1 _ e3
 subst e1 e3;exact ⟨h2,h3,h4,h.nm,h.ons,h.sz⟩
def strs (l : List ByteArray) (F : ByteArray → ByteArray) (j : Nat) : List Value:=((l.map F).take j).map Value.string
theorem map_take_snoc {l : List ByteArray} (F : ByteArray → ByteArray) {j : Nat} {o : ByteArray} (h : l[j]? = some o) : strs l F (j + 1) = strs l F j ++ [Value.string (F o)]:=by
 unfold strs;rw [List.take_add_one,List.getElem?_map,h];simp
theorem strs_all (l : List ByteArray) (F : ByteArray → ByteArray) : strs l F l.length = (l.map F).map Value.string:=by
 unfold strs;rw [List.take_of_length_le (by simp)]
theorem psOf_snoc (a : List HuM) (x : HuM) : psOf (a ++ [x]) = psOf a ++ [x.p]:=by simp
theorem Blk.c {t : TypeId} {cs : Array Value} (h : Blk w g t cs) (i : Nat) (hv : cs[i]? = some v:=by (simp only [List.getElem?_toArray,List.getElem?_cons_zero,List.getElem?_cons_succ]) <;> rfl) : w.cell? ⟨g,i,none⟩ = some v:=(h.cell i).trans hv
theorem seven {c0 c1 c2 c3 c4 c5 c6 : Value} (v0 v1 v2 v3 v4 v5 v6 : Value) (h : Blk w g 47 #[c0,c1,c2,c3,c4,c5,c6]) :
  Blk (((((((w.setCell ⟨g,0,none⟩ v0).setCell ⟨g,1,none⟩ v1).setCell ⟨g,2,none⟩ v2).setCell ⟨g,3,none⟩ v3).setCell ⟨g,4,none⟩ v4).setCell ⟨g,5,none⟩ v5).setCell ⟨g,6,none⟩ v6) g 47 #[v0,v1,v2,v3,v4,v5,v6]:=by
 have h7:=((((((h.set_ 0 v0).set_ 1 v1).set_ 2 v2).set_ 3 v3).set_ 4 v4).set_ 5 v5).set_ 6 v6;simp only [List.setIfInBounds_toArray,List.set_cons_zero,List.set_cons_succ] at h7;exact h7
theorem swapped66_any (A : Option Addr) (ms : List HuM) (m : HuM) (B cap i0 : Nat) (old : HuM) (w : World) (hB : B ≤ w.heap.size) (H : SlM w B A cap ms) (hM : MOk w B m) (hn : ms.length ≤ 12) (hi : ms[i0]? = some old) :
  Calls Tryz.prog 66 #[.slice A ms.length cap,iv i0,mV m] w fun e w'=>∃ out : List HuM,psOf out = swapP (psOf ms) i0 old.p.name m.p ∧ (∀ q ∈ out,OwnOn w' q) ∧ OwnMs out w e w':=by
 have hil : i0 < ms.length:=(List.getElem?_eq_some_iff.1 hi).1;obtain ⟨W1,hW1,hb1,hz1,hq⟩:=mBox w m;have HH:=Lq (H.below hb1 hB);have HM:=Lq (hM.below hb1 hB);have HB1:=Lq hb1;have HIO:=Lq hi;have hmax:=H.max;have hle:=H.le;have hil2 : i0 < (psOf ms).length:=by simpa using hil
 clear H hM hb1 hi;obtain ⟨⟨name,kind,first,last,on,wlo,whi⟩,Ao,ca⟩:=m;have HX : Hid (∀ W,BW W1 W → Blk W w.heap.size 47 #[.string name,iv kind,iv first,iv last,.slice Ao on.length ca,iv wlo,iv whi]):=Lq fun W hb=>hq.keep hb
 obtain ⟨X,hX⟩:=ex (HuP.mk name kind first last on wlo whi);obtain ⟨g5,hg5⟩:=ex w.heap.size;obtain ⟨i47,hi47,hz470,hz471,hz472⟩:=info_parts Tryz.info47;obtain ⟨i9,hi9,hz90,hz91,hz92⟩:=info_parts Tryz.info9;obtain ⟨q0,q1,q2,q3,q4,q5,q6⟩:=hq.c7;have hBW1 : B ≤ W1.heap.size:=by omega
 have hgW1 : g5 < W1.heap.size:=by omega
 clear hq;rw [hg5] at HX hz1 q0 q1 q2 q3 q4 q5 q6;have HZ1:=Lq hz1;clear hz1;have HXE:=Lq hX;have HXN : Hid (X.name = name ∧ X.name.size ≤ maxLen):=Lq (by rw [← hX]; exact ⟨rfl,HM.out.nm⟩)
 clear hX;go_enter Tryz.func66,Tryz.ntmps66
 go_wp2_with fail
 clear hW1;go_loopw [7,8] (fun v i wr=>∃ (k : Nat) (out : List HuM),k ≤ ms.length ∧ i = iv k ∧ out.length = k ∧ Hid (psOf out = (swapP (psOf ms) i0 old.p.name X).take k) ∧ Hid (wr.ownsRow W1.heap.size 47 7 v k (out.flatMap encM)) ∧ Hid (∀ q ∈ out,OwnOn wr q) ∧ Hid (BW W1 wr)) (fun _ i _=>ms.length - (intOf i).toNat)
 case atStart=>exact ⟨0,[],by omega,rfl,rfl,Lq rfl,Lq ⟨by simp,.inl ⟨rfl,rfl⟩⟩,Lq (fun q h=>by cases h),Lq (belowR _)⟩
 case round =>
  clear q0 q1 q2 q3 q4 q5 q6;obtain ⟨k,out,hk,rfl,hol,HP,HO,HQ,HBR⟩:=hrel
  rename World=>W0
  have hk0 : (0 : Int) ≤ (k : Int):=by omega
  by_cases hlt : k < ms.length
  ·obtain ⟨y,hy⟩ : ∃ x,ms[k]? = some x:=⟨_,List.getElem?_eq_getElem hlt⟩;obtain ⟨b,off,hA,hbB,hMy,c0,c1,c2,c3,c4,c5,c6⟩:=(HH.out.rd.below HBR.out hBW1).at hy;have hbw : b < W0.heap.size:=lt_of_cell c0;have hbx:=HX.out _ HBR.out;obtain ⟨q0,q1,q2,q3,q4,q5,q6⟩:=hbx.c7;have hgw:=hbx.lt;have HOL:=Lq hol;have HYI:=Lq hy;have HMY:=Lq hMy;clear hy hMy hbx hol;obtain ⟨⟨yn,yk,yf,yl,yon,yw,yz⟩,yA,yc⟩:=y;subst hA;obtain ⟨g,hg⟩:=ex W0.heap.size;have HG:=Lq hg;clear hg;by_cases hia : k = i0
   ·have hia2 : (k == i0) = true:=by simpa using hia
    have hia1 : ((k : Int) == (i0 : Int)) = true:=by simp; omega
    have HIA:=Lq hia;clear hia;go_wp2_with fail
    rw [HG.out];have HBA:=belowA (belowR W0) (.cells #[.string name,iv kind,iv first,iv last,.slice Ao on.length ca,iv wlo,iv whi] 47);have KA : Blk (W0.alloc (.cells #[.string name,iv kind,iv first,iv last,.slice Ao on.length ca,iv wlo,iv whi] 47)) g 47 #[.string name,iv kind,iv first,iv last,.slice Ao on.length ca,iv wlo,iv whi]:=HG.out ▸ Blk.new W0 47 _;obtain ⟨Wa,hWa⟩:=ex (W0.alloc (.cells #[.string name,iv kind,iv first,iv last,.slice Ao on.length ca,iv wlo,iv whi] 47));rw [hWa];rw [hWa] at HBA KA;have hgt1 : ¬ (k : Int) > (i0 : Int):=by have:=HIA.out; omega
    have hba : BW W0 Wa:=HBA;have HKA : Hid (Blk Wa g 47 #[.string name,iv kind,iv first,iv last,.slice Ao on.length ca,iv wlo,iv whi]):=Lq KA;have HBA2:=Lq hba;clear hWa hba HBA KA;have honl : on.length ≤ 9223372036854775807:=by have:=HM.out.le; have:=HM.out.cm; simp only [maxLen] at *; omega
    go_loopw [10,11] (fun v i W=>∃ j : Nat,j ≤ on.length ∧ i = iv j ∧ Hid (W.ownsRow W0.heap.size 9 1 v j (strs on (fun o=>o) j)) ∧ Hid (Blk W g 47 #[.string name,iv kind,iv first,iv last,.slice Ao on.length ca,iv wlo,iv whi]) ∧ Hid (BW W0 W)) (fun _ i _=>on.length - (intOf i).toNat)
    case atStart=>exact ⟨0,by omega,rfl,Lq ⟨by simp [strs],.inl ⟨rfl,rfl⟩⟩,HKA,HBA2⟩
    case round =>
     clear q0 q1 q2 q3 q4 q5 q6 c0 c1 c2 c3 c4 c5 c6;obtain ⟨j,hj,rfl,HR,HK,HBW⟩:=hrel;have hj0 : (0 : Int) ≤ (j : Int):=by omega
     have bk:=HK.out;have k4 : wr.cell? ⟨g,4,none⟩ = some (.slice Ao on.length ca):=bk.cell 4;clear bk;by_cases hjl : j < on.length
     ·obtain ⟨o,ho⟩ : ∃ x,on[j]? = some x:=⟨_,List.getElem?_eq_getElem hjl⟩;obtain ⟨ob,oo,hoa,_,ck⟩:=(HM.out.on.below (belowT HBR.out HBW.out) (by omega)) j o ho
      have HOI:=Lq ho;simp only at hoa;rw [hoa] at k4;have HSN:=Lq (map_take_snoc (fun o=>o) ho)
      clear ho hoa;go_wp2_with (at_builtin; refine wpList_append_own _ rfl _ _ 45 rfl W0.heap.size 9 i9 (.string ⟨#[]⟩) 1 16 Tryz.underlying45 hi9 hz90 hz91 hz92 rfl (by decide) _ _ _ rfl (HR.out.alloc _) ⟨wr.heap.size,0,none⟩ 1 1 [.string o] rfl rfl (one_new _ _ _) (by simp [Value.oneCell']) (by unfold maxLen; omega) (by have:=HM.out.sz; simp only at this; omega) (by have:=HBW.out.size; simp only [World.size_alloc]; omega) ?_)
      intro v6 w6 hown6 hg6 _;have HR6 : Hid (w6.ownsRow W0.heap.size 9 1 v6 (j + 1) (strs on (fun o=>o) (j + 1))):=Lq (by rw [HSN.out]; exact hown6)
      have HK6 : Hid (Blk w6 g 47 #[.string name,iv kind,iv first,iv last,.slice Ao on.length ca,iv wlo,iv whi]):=Lq ((HK.out.alloc _).grown hg6 (own_ne HR.out HK.out (by decide)))
      have HB6 : Hid (BW W0 w6):=Lq (grownB (HR.out.alloc _) hg6 (Nat.le_refl _) (belowA HBW.out _));clear hown6 hg6;go_wp2_with fail
      go_roundw
      case rel=>exact ⟨j + 1,by omega,by go_num,HR6,HK6,HB6⟩
      case measure=>simp [intOf]; omega
     ·obtain rfl : j = on.length:=by omega
      have hr:=HR.out;rw [strs_all] at hr;obtain ⟨A8,c8,rfl⟩:=own_slice hr;have HR8:=Lq hr;clear hr HR k4;have bk:=HK.out;have k4:=bk.c 4;have f4:=bk.frozen 4;have hgw:=bk.lt;have B5:=bk.set_ 4 (.slice A8 on.length c8);simp only [List.setIfInBounds_toArray,List.set_cons_zero,List.set_cons_succ] at B5;have O5 : BW W0 (wr.setCell ⟨g,4,none⟩ (.slice A8 on.length c8)):=belowS HBW.out (by have:=HG.out; simp only; omega) _
      have Q5 : OwnOn (wr.setCell ⟨g,4,none⟩ (.slice A8 on.length c8)) (HuM.mk (HuP.mk name kind first last (on.map (fun o=>o)) wlo whi) A8 c8):=⟨by have:=own_zero ((OnlyAt.of_set (belowR wr) g 4 (.slice A8 on.length c8)).own HR8.out (own_ne HR8.out bk (by decide)).symm); simpa using this,HM.out.nm,by simpa using HM.out.ons,by have:=HM.out.sz; simp only [List.length_map] at this ⊢; omega⟩
      obtain ⟨W5,hW5⟩:=ex (wr.setCell ⟨g,4,none⟩ (.slice A8 on.length c8));rw [hW5] at B5 O5 Q5;have hz5:=B5.lt;have HB5:=Lq B5;have HO5:=Lq O5;have HQ5:=Lq Q5;obtain ⟨p0,p1,p2,p3,p4,p5,p6⟩:=B5.c7;have HAL : Hid ((W5.alloc (.cells #[.string name,iv kind,iv first,iv last,.slice A8 on.length c8,iv wlo,iv whi] 47)).ownsRow W1.heap.size 47 7 u7 k (out.flatMap encM)):=Lq (own_below HO.out (belowA O5 _));clear bk B5 O5 Q5 HR8 HK;go_wp2_with (at_builtin; refine wpList_append_own _ rfl _ _ 22 rfl W1.heap.size 47 i47 (.agg #[.string ⟨#[]⟩,.int .i64 0,.int .i64 0,.int .i64 0,.slice none 0 0,.int .i64 0,.int .i64 0]) 7 80 Tryz.underlying22 hi47 hz470 hz471 hz472 rfl (by decide) _ _ _ rfl HAL.out ⟨W5.heap.size,0,none⟩ 1 1 [.string name,iv kind,iv first,iv last,.slice A8 on.length c8,iv wlo,iv whi] rfl rfl (cells_new _ _ _) (by simp [Value.oneCell']) (by unfold maxLen; omega) (by omega) (by have:=HBR.out.size; have:=HO5.out.size; simp only [World.size_alloc]; omega) ?_)
      intro v7 w7 hown7 hg7 _;have HO7 : Hid (w7.ownsRow W1.heap.size 47 7 v7 (k + 1) ((out ++ [(HuM.mk (HuP.mk name kind first last (on.map (fun o=>o)) wlo whi) A8 c8)]).flatMap encM)):=Lq (by simpa [encM] using hown7)
      have HQ7 : Hid (∀ q ∈ out ++ [(HuM.mk (HuP.mk name kind first last (on.map (fun o=>o)) wlo whi) A8 c8)],OwnOn w7 q):=Lq (fun q hq=>by
       rcases List.mem_append.1 hq with hq | hq
       ·exact ((HQ.out q hq).below (belowA HO5.out _)).grown HAL.out (by decide) hg7
       ·obtain rfl:=List.mem_singleton.1 hq;exact (HQ5.out.below (belowA (belowR _) _)).grown HAL.out (by decide) hg7)
      have HB7 : Hid (BW W1 w7):=Lq (grownB HAL.out hg7 (Nat.le_refl _) (belowA (belowT HBR.out HO5.out) _));have HP7 : Hid (psOf (out ++ [(HuM.mk (HuP.mk name kind first last (on.map (fun o=>o)) wlo whi) A8 c8)]) = (swapP (psOf ms) i0 old.p.name X).take (k + 1)):=Lq (by rw [List.take_add_one,(by rw [HIA.out,swapP_eq hil2,← HXE.out]; simp : (swapP (psOf ms) i0 old.p.name X)[k]? = some (HuP.mk name kind first last (on.map (fun o=>o)) wlo whi)),psOf_snoc,HP.out]; rfl)
      clear hown7 hg7 hW5;go_wp2_with fail
      go_roundw
      case rel=>exact ⟨k + 1,out ++ [(HuM.mk (HuP.mk name kind first last (on.map (fun o=>o)) wlo whi) A8 c8)],by omega,by go_num,by rw [List.length_append,HOL.out]; rfl,HP7,HO7,HQ7,HB7⟩
      case measure=>simp [intOf]; omega
   ·have hia1 : ((k : Int) == (i0 : Int)) = false:=by simp; omega
    have hia2 : (k == i0) = false:=by simpa using hia
    go_wp2_with fail
    rw [HG.out];have HBA:=belowA (belowR W0) (.cells #[.string yn,iv yk,iv yf,iv yl,.slice yA yon.length yc,iv yw,iv yz] 47);have KA : Blk (W0.alloc (.cells #[.string yn,iv yk,iv yf,iv yl,.slice yA yon.length yc,iv yw,iv yz] 47)) g 47 #[.string yn,iv yk,iv yf,iv yl,.slice yA yon.length yc,iv yw,iv yz]:=HG.out ▸ Blk.new W0 47 _;obtain ⟨Wa,hWa⟩:=ex (W0.alloc (.cells #[.string yn,iv yk,iv yf,iv yl,.slice yA yon.length yc,iv yw,iv yz] 47));rw [hWa];rw [hWa] at HBA KA;by_cases hgt : i0 < k
    ·have hgt1 : (k : Int) > (i0 : Int):=by omega
     have hba : BW W0 Wa:=HBA;have HKA : Hid (Blk Wa g 47 #[.string yn,iv yk,iv yf,iv yl,.slice yA yon.length yc,iv yw,iv yz]):=Lq KA;have HBA2:=Lq hba;clear hWa hba HBA KA;have honl : yon.length ≤ 9223372036854775807:=by have:=HMY.out.le; have:=HMY.out.cm; simp only [maxLen] at *; omega
     go_loopw [10,11] (fun v i W=>∃ j : Nat,j ≤ yon.length ∧ i = iv j ∧ Hid (W.ownsRow W0.heap.size 9 1 v j (strs yon (swapS old.p.name X.name) j)) ∧ Hid (Blk W g 47 #[.string yn,iv yk,iv yf,iv yl,.slice yA yon.length yc,iv yw,iv yz]) ∧ Hid (BW W0 W)) (fun _ i _=>yon.length - (intOf i).toNat)
     case atStart=>exact ⟨0,by omega,rfl,Lq ⟨by simp [strs],.inl ⟨rfl,rfl⟩⟩,HKA,HBA2⟩
     case round =>
      clear q0 q1 q2 q3 q4 q5 q6 c0 c1 c2 c3 c4 c5 c6;obtain ⟨j,hj,rfl,HR,HK,HBW⟩:=hrel;have hj0 : (0 : Int) ≤ (j : Int):=by omega
      have bk:=HK.out;have k4 : wr.cell? ⟨g,4,none⟩ = some (.slice yA yon.length yc):=bk.cell 4;clear bk;by_cases hjl : j < yon.length
      ·obtain ⟨o,ho⟩ : ∃ x,yon[j]? = some x:=⟨_,List.getElem?_eq_getElem hjl⟩;obtain ⟨ob,oo,hoa,_,ck⟩:=(HMY.out.on.below HBW.out (by omega)) j o ho
       have HOI:=Lq ho;simp only at hoa;rw [hoa] at k4;obtain ⟨b9,off9,ha9,_,_,d0,_⟩:=(HH.out.rd.below (belowT HBR.out HBW.out) hBW1).at HIO.out;injection ha9 with ha9
       injection ha9 with e1 e2
       subst e1 e2;have hbx:=HX.out _ (belowT HBR.out HBW.out);have q0:=hbx.c 0;clear hbx;have HSN:=Lq (map_take_snoc (swapS old.p.name X.name) ho);clear ho hoa;cases hp : (o.toList == old.p.name.toList)
       ·have HSW : Hid (swapS old.p.name X.name o = o):=Lq (by unfold swapS eqS; rw [hp]; rfl)
        go_wp2_with (at_builtin; refine wpList_append_own _ rfl _ _ 45 rfl W0.heap.size 9 i9 (.string ⟨#[]⟩) 1 16 Tryz.underlying45 hi9 hz90 hz91 hz92 rfl (by decide) _ _ _ rfl (HR.out.alloc _) ⟨wr.heap.size,0,none⟩ 1 1 [.string o] rfl rfl (one_new _ _ _) (by simp [Value.oneCell']) (by unfold maxLen; omega) (by have:=HMY.out.sz; simp only at this; omega) (by have:=HBW.out.size; simp only [World.size_alloc]; omega) ?_)
        intro v6 w6 hown6 hg6 _;have HR6 : Hid (w6.ownsRow W0.heap.size 9 1 v6 (j + 1) (strs yon (swapS old.p.name X.name) (j + 1))):=Lq (by rw [HSN.out,HSW.out]; exact hown6)
        have HK6 : Hid (Blk w6 g 47 #[.string yn,iv yk,iv yf,iv yl,.slice yA yon.length yc,iv yw,iv yz]):=Lq ((HK.out.alloc _).grown hg6 (own_ne HR.out HK.out (by decide)))
        have HB6 : Hid (BW W0 w6):=Lq (grownB (HR.out.alloc _) hg6 (Nat.le_refl _) (belowA HBW.out _));clear hown6 hg6;go_wp2_with fail
        go_roundw
        case rel=>exact ⟨j + 1,by omega,by go_num,HR6,HK6,HB6⟩
        case measure=>simp [intOf]; omega
       ·have HSW : Hid (swapS old.p.name X.name o = name):=Lq (by unfold swapS eqS; rw [hp]; exact HXN.out.1)
        go_wp2_with (at_builtin; refine wpList_append_own _ rfl _ _ 45 rfl W0.heap.size 9 i9 (.string ⟨#[]⟩) 1 16 Tryz.underlying45 hi9 hz90 hz91 hz92 rfl (by decide) _ _ _ rfl (HR.out.alloc _) ⟨wr.heap.size,0,none⟩ 1 1 [.string name] rfl rfl (one_new _ _ _) (by simp [Value.oneCell']) (by unfold maxLen; omega) (by have:=HMY.out.sz; simp only at this; omega) (by have:=HBW.out.size; simp only [World.size_alloc]; omega) ?_)
        intro v6 w6 hown6 hg6 _;have HR6 : Hid (w6.ownsRow W0.heap.size 9 1 v6 (j + 1) (strs yon (swapS old.p.name X.name) (j + 1))):=Lq (by rw [HSN.out,HSW.out]; exact hown6)
        have HK6 : Hid (Blk w6 g 47 #[.string yn,iv yk,iv yf,iv yl,.slice yA yon.length yc,iv yw,iv yz]):=Lq ((HK.out.alloc _).grown hg6 (own_ne HR.out HK.out (by decide)))
        have HB6 : Hid (BW W0 w6):=Lq (grownB (HR.out.alloc _) hg6 (Nat.le_refl _) (belowA HBW.out _));clear hown6 hg6;go_wp2_with fail
        go_roundw
        case rel=>exact ⟨j + 1,by omega,by go_num,HR6,HK6,HB6⟩
        case measure=>simp [intOf]; omega
      ·obtain rfl : j = yon.length:=by omega
       have hr:=HR.out;rw [strs_all] at hr;obtain ⟨A8,c8,rfl⟩:=own_slice hr;have HR8:=Lq hr;clear hr HR k4;have bk:=HK.out;have k4:=bk.c 4;have f4:=bk.frozen 4;have hgw:=bk.lt;have B5:=bk.set_ 4 (.slice A8 yon.length c8);simp only [List.setIfInBounds_toArray,List.set_cons_zero,List.set_cons_succ] at B5;have O5 : BW W0 (wr.setCell ⟨g,4,none⟩ (.slice A8 yon.length c8)):=belowS HBW.out (by have:=HG.out; simp only; omega) _
       have Q5 : OwnOn (wr.setCell ⟨g,4,none⟩ (.slice A8 yon.length c8)) (HuM.mk (HuP.mk yn yk yf yl (yon.map (swapS old.p.name X.name)) yw yz) A8 c8):=⟨by have:=own_zero ((OnlyAt.of_set (belowR wr) g 4 (.slice A8 yon.length c8)).own HR8.out (own_ne HR8.out bk (by decide)).symm); simpa using this,HMY.out.nm,by intro o ho; obtain ⟨o2,ho2,rfl⟩:=List.mem_map.1 ho; unfold swapS; split; exact HXN.out.2; exact HMY.out.ons o2 ho2,by have:=HMY.out.sz; simp only [List.length_map] at this ⊢; omega⟩
       obtain ⟨W5,hW5⟩:=ex (wr.setCell ⟨g,4,none⟩ (.slice A8 yon.length c8));rw [hW5] at B5 O5 Q5;have hz5:=B5.lt;have HB5:=Lq B5;have HO5:=Lq O5;have HQ5:=Lq Q5;obtain ⟨p0,p1,p2,p3,p4,p5,p6⟩:=B5.c7;have HAL : Hid ((W5.alloc (.cells #[.string yn,iv yk,iv yf,iv yl,.slice A8 yon.length c8,iv yw,iv yz] 47)).ownsRow W1.heap.size 47 7 u7 k (out.flatMap encM)):=Lq (own_below HO.out (belowA O5 _));clear bk B5 O5 Q5 HR8 HK;go_wp2_with (at_builtin; refine wpList_append_own _ rfl _ _ 22 rfl W1.heap.size 47 i47 (.agg #[.string ⟨#[]⟩,.int .i64 0,.int .i64 0,.int .i64 0,.slice none 0 0,.int .i64 0,.int .i64 0]) 7 80 Tryz.underlying22 hi47 hz470 hz471 hz472 rfl (by decide) _ _ _ rfl HAL.out ⟨W5.heap.size,0,none⟩ 1 1 [.string yn,iv yk,iv yf,iv yl,.slice A8 yon.length c8,iv yw,iv yz] rfl rfl (cells_new _ _ _) (by simp [Value.oneCell']) (by unfold maxLen; omega) (by omega) (by have:=HBR.out.size; have:=HO5.out.size; simp only [World.size_alloc]; omega) ?_)
       intro v7 w7 hown7 hg7 _;have HO7 : Hid (w7.ownsRow W1.heap.size 47 7 v7 (k + 1) ((out ++ [(HuM.mk (HuP.mk yn yk yf yl (yon.map (swapS old.p.name X.name)) yw yz) A8 c8)]).flatMap encM)):=Lq (by simpa [encM] using hown7)
       have HQ7 : Hid (∀ q ∈ out ++ [(HuM.mk (HuP.mk yn yk yf yl (yon.map (swapS old.p.name X.name)) yw yz) A8 c8)],OwnOn w7 q):=Lq (fun q hq=>by
        rcases List.mem_append.1 hq with hq | hq
        ·exact ((HQ.out q hq).below (belowA HO5.out _)).grown HAL.out (by decide) hg7
        ·obtain rfl:=List.mem_singleton.1 hq;exact (HQ5.out.below (belowA (belowR _) _)).grown HAL.out (by decide) hg7)
       have HB7 : Hid (BW W1 w7):=Lq (grownB HAL.out hg7 (Nat.le_refl _) (belowA (belowT HBR.out HO5.out) _));have HP7 : Hid (psOf (out ++ [(HuM.mk (HuP.mk yn yk yf yl (yon.map (swapS old.p.name X.name)) yw yz) A8 c8)]) = (swapP (psOf ms) i0 old.p.name X).take (k + 1)):=Lq (by rw [List.take_add_one,(swapP_gt hil2 (ps_at HYI.out) hgt : (swapP (psOf ms) i0 old.p.name X)[k]? = some (HuP.mk yn yk yf yl (yon.map (swapS old.p.name X.name)) yw yz)),psOf_snoc,HP.out]; rfl)
       clear hown7 hg7 hW5;go_wp2_with fail
       go_roundw
       case rel=>exact ⟨k + 1,out ++ [(HuM.mk (HuP.mk yn yk yf yl (yon.map (swapS old.p.name X.name)) yw yz) A8 c8)],by omega,by go_num,by rw [List.length_append,HOL.out]; rfl,HP7,HO7,HQ7,HB7⟩
       case measure=>simp [intOf]; omega
    ·have hgt1 : ¬ (k : Int) > (i0 : Int):=by omega
     have hba : BW W0 Wa:=HBA;have HKA : Hid (Blk Wa g 47 #[.string yn,iv yk,iv yf,iv yl,.slice yA yon.length yc,iv yw,iv yz]):=Lq KA;have HBA2:=Lq hba;clear hWa hba HBA KA;have honl : yon.length ≤ 9223372036854775807:=by have:=HMY.out.le; have:=HMY.out.cm; simp only [maxLen] at *; omega
     go_loopw [10,11] (fun v i W=>∃ j : Nat,j ≤ yon.length ∧ i = iv j ∧ Hid (W.ownsRow W0.heap.size 9 1 v j (strs yon (fun o=>o) j)) ∧ Hid (Blk W g 47 #[.string yn,iv yk,iv yf,iv yl,.slice yA yon.length yc,iv yw,iv yz]) ∧ Hid (BW W0 W)) (fun _ i _=>yon.length - (intOf i).toNat)
     case atStart=>exact ⟨0,by omega,rfl,Lq ⟨by simp [strs],.inl ⟨rfl,rfl⟩⟩,HKA,HBA2⟩
     case round =>
      clear q0 q1 q2 q3 q4 q5 q6 c0 c1 c2 c3 c4 c5 c6;obtain ⟨j,hj,rfl,HR,HK,HBW⟩:=hrel;have hj0 : (0 : Int) ≤ (j : Int):=by omega
      have bk:=HK.out;have k4 : wr.cell? ⟨g,4,none⟩ = some (.slice yA yon.length yc):=bk.cell 4;clear bk;by_cases hjl : j < yon.length
      ·obtain ⟨o,ho⟩ : ∃ x,yon[j]? = some x:=⟨_,List.getElem?_eq_getElem hjl⟩;obtain ⟨ob,oo,hoa,_,ck⟩:=(HMY.out.on.below HBW.out (by omega)) j o ho
       have HOI:=Lq ho;simp only at hoa;rw [hoa] at k4;have HSN:=Lq (map_take_snoc (fun o=>o) ho)
       clear ho hoa;go_wp2_with (at_builtin; refine wpList_append_own _ rfl _ _ 45 rfl W0.heap.size 9 i9 (.string ⟨#[]⟩) 1 16 Tryz.underlying45 hi9 hz90 hz91 hz92 rfl (by decide) _ _ _ rfl (HR.out.alloc _) ⟨wr.heap.size,0,none⟩ 1 1 [.string o] rfl rfl (one_new _ _ _) (by simp [Value.oneCell']) (by unfold maxLen; omega) (by have:=HMY.out.sz; simp only at this; omega) (by have:=HBW.out.size; simp only [World.size_alloc]; omega) ?_)
       intro v6 w6 hown6 hg6 _;have HR6 : Hid (w6.ownsRow W0.heap.size 9 1 v6 (j + 1) (strs yon (fun o=>o) (j + 1))):=Lq (by rw [HSN.out]; exact hown6)
       have HK6 : Hid (Blk w6 g 47 #[.string yn,iv yk,iv yf,iv yl,.slice yA yon.length yc,iv yw,iv yz]):=Lq ((HK.out.alloc _).grown hg6 (own_ne HR.out HK.out (by decide)))
       have HB6 : Hid (BW W0 w6):=Lq (grownB (HR.out.alloc _) hg6 (Nat.le_refl _) (belowA HBW.out _));clear hown6 hg6;go_wp2_with fail
       go_roundw
       case rel=>exact ⟨j + 1,by omega,by go_num,HR6,HK6,HB6⟩
       case measure=>simp [intOf]; omega
      ·obtain rfl : j = yon.length:=by omega
       have hr:=HR.out;rw [strs_all] at hr;obtain ⟨A8,c8,rfl⟩:=own_slice hr;have HR8:=Lq hr;clear hr HR k4;have bk:=HK.out;have k4:=bk.c 4;have f4:=bk.frozen 4;have hgw:=bk.lt;have B5:=bk.set_ 4 (.slice A8 yon.length c8);simp only [List.setIfInBounds_toArray,List.set_cons_zero,List.set_cons_succ] at B5;have O5 : BW W0 (wr.setCell ⟨g,4,none⟩ (.slice A8 yon.length c8)):=belowS HBW.out (by have:=HG.out; simp only; omega) _
       have Q5 : OwnOn (wr.setCell ⟨g,4,none⟩ (.slice A8 yon.length c8)) (HuM.mk (HuP.mk yn yk yf yl (yon.map (fun o=>o)) yw yz) A8 c8):=⟨by have:=own_zero ((OnlyAt.of_set (belowR wr) g 4 (.slice A8 yon.length c8)).own HR8.out (own_ne HR8.out bk (by decide)).symm); simpa using this,HMY.out.nm,by simpa using HMY.out.ons,by have:=HMY.out.sz; simp only [List.length_map] at this ⊢; omega⟩
       obtain ⟨W5,hW5⟩:=ex (wr.setCell ⟨g,4,none⟩ (.slice A8 yon.length c8));rw [hW5] at B5 O5 Q5;have hz5:=B5.lt;have HB5:=Lq B5;have HO5:=Lq O5;have HQ5:=Lq Q5;obtain ⟨p0,p1,p2,p3,p4,p5,p6⟩:=B5.c7;have HAL : Hid ((W5.alloc (.cells #[.string yn,iv yk,iv yf,iv yl,.slice A8 yon.length c8,iv yw,iv yz] 47)).ownsRow W1.heap.size 47 7 u7 k (out.flatMap encM)):=Lq (own_below HO.out (belowA O5 _));clear bk B5 O5 Q5 HR8 HK;go_wp2_with (at_builtin; refine wpList_append_own _ rfl _ _ 22 rfl W1.heap.size 47 i47 (.agg #[.string ⟨#[]⟩,.int .i64 0,.int .i64 0,.int .i64 0,.slice none 0 0,.int .i64 0,.int .i64 0]) 7 80 Tryz.underlying22 hi47 hz470 hz471 hz472 rfl (by decide) _ _ _ rfl HAL.out ⟨W5.heap.size,0,none⟩ 1 1 [.string yn,iv yk,iv yf,iv yl,.slice A8 yon.length c8,iv yw,iv yz] rfl rfl (cells_new _ _ _) (by simp [Value.oneCell']) (by unfold maxLen; omega) (by omega) (by have:=HBR.out.size; have:=HO5.out.size; simp only [World.size_alloc]; omega) ?_)
       intro v7 w7 hown7 hg7 _;have HO7 : Hid (w7.ownsRow W1.heap.size 47 7 v7 (k + 1) ((out ++ [(HuM.mk (HuP.mk yn yk yf yl (yon.map (fun o=>o)) yw yz) A8 c8)]).flatMap encM)):=Lq (by simpa [encM] using hown7)
       have HQ7 : Hid (∀ q ∈ out ++ [(HuM.mk (HuP.mk yn yk yf yl (yon.map (fun o=>o)) yw yz) A8 c8)],OwnOn w7 q):=Lq (fun q hq=>by
        rcases List.mem_append.1 hq with hq | hq
        ·exact ((HQ.out q hq).below (belowA HO5.out _)).grown HAL.out (by decide) hg7
        ·obtain rfl:=List.mem_singleton.1 hq;exact (HQ5.out.below (belowA (belowR _) _)).grown HAL.out (by decide) hg7)
       have HB7 : Hid (BW W1 w7):=Lq (grownB HAL.out hg7 (Nat.le_refl _) (belowA (belowT HBR.out HO5.out) _));have HP7 : Hid (psOf (out ++ [(HuM.mk (HuP.mk yn yk yf yl (yon.map (fun o=>o)) yw yz) A8 c8)]) = (swapP (psOf ms) i0 old.p.name X).take (k + 1)):=Lq (by rw [List.take_add_one,(by rw [swapP_lt hil2 (ps_at HYI.out) (by omega)]; simp : (swapP (psOf ms) i0 old.p.name X)[k]? = some (HuP.mk yn yk yf yl (yon.map (fun o=>o)) yw yz)),psOf_snoc,HP.out]; rfl)
       clear hown7 hg7 hW5;go_wp2_with fail
       go_roundw
       case rel=>exact ⟨k + 1,out ++ [(HuM.mk (HuP.mk yn yk yf yl (yon.map (fun o=>o)) yw yz) A8 c8)],by omega,by go_num,by rw [List.length_append,HOL.out]; rfl,HP7,HO7,HQ7,HB7⟩
       case measure=>simp [intOf]; omega
  ·obtain rfl : k = ms.length:=by omega
   go_wp2_with fail
   go_ret
   have hp:=HP.out;rw [List.take_of_length_le (by rw [swapP_len hil2]; simp)] at hp
   exact ⟨out,by rw [hp,← HXE.out],HQ.out,u7,rfl,own_base (by rw [hol]; exact HO.out) (by omega),belowT HB1.out HBR.out⟩
end
structure HcM where
 what : Int
 day : Int
 name : ByteArray
 part : HuM
def HcM.c (c : HcM) : HuC:=⟨c.what,c.day,c.name,c.part.p⟩
abbrev cV (c : HcM) : Value:=.agg #[iv c.what,iv c.day,.string c.name,.string c.part.p.name,iv c.part.p.kind,iv c.part.p.first,iv c.part.p.last,.slice c.part.A c.part.p.on.length c.part.cap,iv c.part.p.wlo,iv c.part.p.whi]
def encC (c : HcM) : List Value:=[iv c.what,iv c.day,.string c.name,.string c.part.p.name,iv c.part.p.kind,iv c.part.p.first,iv c.part.p.last,.slice c.part.A c.part.p.on.length c.part.cap,iv c.part.p.wlo,iv c.part.p.whi]
theorem encC_len : ∀ c,(encC c).length = 10:=fun _=>rfl
def bareB (c : HuC) : Bool:=(c.what == 1 && c.name.toList.isEmpty) || (c.what == 2 && bareP c.part) || c.what == 3
theorem bare15_any (c : HcM) (w : World) (hM : MOk w w.heap.size c.part) : Calls Tryz.prog 15 #[cV c] w (Rt w (.bool (bareB c.c))):=by
 obtain ⟨what,day,nm,⟨⟨name,kind,first,last,on,wlo,whi⟩,Ao,ca⟩⟩:=c;have hon : on.length ≤ 9223372036854775807:=by have:=hM.le; have:=hM.cm; simp only [maxLen] at *; omega
 clear hM;go_enter Tryz.func15,Tryz.ntmps15
 go_wp2
 all_goals
  go_ret
  exact ⟨ret_bool (by simp_all [bareB,bareP,HcM.c]),belowA (belowA (belowR _) _) _⟩
section
variable {z1 z10 z11 z12 z13 z14 z15 z2 z21 z26 z27 z28 z29 z30 z31 z32 z33 z34 z35 z36 z37 z38 z39 z4 z40 z41 z42 z43 z44 z45 z46 z47 z48 z49 z5 z50 z51 z52 z53 z54 z55 z56 z57 z58 z59 z6 z60 z61 z62 z63 z64 z65 z66 z67 z68 z69 z7 z70 z71 z72 z73 z74 z75 z76 z77 z78 z79 z8 z80 z81 z82 z83 z84 z85 z86 z87 z88 z9 : Value} {first kind last whi wlo : Int} {Q : Exit → Act → World → Prop} {name : ByteArray} {ca cap g3 n : Nat} {V w : World} {A Ao : Option Addr}
theorem liveB_below {w' : World} {L : List (Option RowO)} (h : LiveB V w L) (hb : BW w w') : LiveB V w' L :=
 ⟨belowT h.1 hb,Nat.le_trans h.2.1 hb.size,fun i o hi=>⟨own_below (h.2.2 i o hi).1 hb,(h.2.2 i o hi).2⟩⟩
noncomputable def ops16_4 : Array Oper:=opsOf (regionOf Tryz.f16 4)
abbrev hHR61 (V : World) (Ao : Option Addr) (ca g3 : Nat) (name : ByteArray) (kind first last wlo whi : Int) (on : List ByteArray) : Prop:=∀ W,BW V W → W.cell? ⟨g3,3,none⟩ = some (.string name) ∧ W.cell? ⟨g3,4,none⟩ = some (iv kind) ∧ W.cell? ⟨g3,5,none⟩ = some (iv first) ∧ W.cell? ⟨g3,6,none⟩ = some (iv last) ∧ W.cell? ⟨g3,7,none⟩ = some (.slice Ao on.length ca) ∧ W.cell? ⟨g3,8,none⟩ = some (iv wlo) ∧ W.cell? ⟨g3,9,none⟩ = some (iv whi)
theorem st16_4 {on : List ByteArray} {C1 : List Value} {Pr : Prop} {v2 : Value} {g : Nat} (hn : n ≤ 11) (hC1 : Srcs V 7 (.slice A n cap) n C1)
  (hS : hHR61 V Ao ca g3 name kind first last wlo whi on)
  (hP : ∀ W,BW V W → Calls Tryz.prog 13 #[.agg #[.string name,iv kind,iv first,iv last,.slice Ao on.length ca,iv wlo,iv whi],.slice A n cap,.slice A n cap] W (ErrIff Pr W))
  (hQ : ∀ u15 u16 u17 u18 u19 u20 u21 u22 u23 u24 u25 u26 v r W',(r = 0 ↔ Pr) → LiveB V W' [some ⟨v,47,7,0 + n + 1,[] ++ C1 ++ [.string name,iv kind,iv first,iv last,.slice Ao on.length ca,iv wlo,iv whi]⟩,none,none,none] → Q .normal ⟨(((.slice A n cap)::z1::z2::(.pointer (some ⟨g3,0,none⟩))::(v)::(iv r)::z6::z7::z8::z9::z10::z11::z12::z13::z14::(u15)::(u16)::(u17)::(u18)::(u19)::(u20)::(u21)::(u22)::(u23)::(u24)::(u25)::(u26)::z27::z28::z29::z30::z31::z32::z33::z34::z35::z36::z37::z38::z39::z40::z41::z42::z43::z44::z45::z46::z47::z48::z49::z50::z51::z52::z53::z54::z55::z56::z57::z58::z59::z60::z61::z62::z63::z64::z65::z66::z67::z68::z69::z70::z71::z72::z73::z74::z75::z76::z77::z78::z79::z80::z81::z82::z83::z84::z85::z86::z87::z88::[] : List Value).toArray),[]⟩ W')
 (hL : LiveB V w [some ⟨v2,47,7,0 + n,[] ++ C1⟩,some ⟨.slice (some ⟨g,0,none⟩) 1 1,47,7,1,[.string name,iv kind,iv first,iv last,.slice Ao on.length ca,iv wlo,iv whi]⟩,none,none]) :
   wpAnyH Tryz.prog .any ops16_4 (NoPanic Q) (fun W=>W.cell? ⟨g3,3,none⟩ = some (.string name) ∧ W.cell? ⟨g3,4,none⟩ = some (iv kind) ∧ W.cell? ⟨g3,5,none⟩ = some (iv first) ∧ W.cell? ⟨g3,6,none⟩ = some (iv last) ∧ W.cell? ⟨g3,7,none⟩ = some (.slice Ao on.length ca) ∧ W.cell? ⟨g3,8,none⟩ = some (iv wlo) ∧ W.cell? ⟨g3,9,none⟩ = some (iv whi)) 4 #[true,true,true,true,true,true,false,true,true,true,true,false,false,false] ⟨(((.slice A n cap)::z1::z2::(.pointer (some ⟨g3,0,none⟩))::z4::z5::z6::z7::z8::z9::z10::z11::z12::z13::z14::z15::(.slice A n cap)::(v2)::(.pointer (some ⟨g3,3,none⟩))::(.agg #[.string name,iv kind,iv first,iv last,.slice Ao on.length ca,iv wlo,iv whi])::(.slice (some ⟨g,0,none⟩) 1 1)::z21::(.pointer (some ⟨g3,3,none⟩))::(.agg #[.string name,iv kind,iv first,iv last,.slice Ao on.length ca,iv wlo,iv whi])::(.slice A n cap)::(.slice A n cap)::z26::z27::z28::z29::z30::z31::z32::z33::z34::z35::z36::z37::z38::z39::z40::z41::z42::z43::z44::z45::z46::z47::z48::z49::z50::z51::z52::z53::z54::z55::z56::z57::z58::z59::z60::z61::z62::z63::z64::z65::z66::z67::z68::z69::z70::z71::z72::z73::z74::z75::z76::z77::z78::z79::z80::z81::z82::z83::z84::z85::z86::z87::z88::[] : List Value).toArray),[]⟩ w:=by
  obtain ⟨i47,hi47,hz470,hz471,hz472⟩:=info_parts Tryz.info47;have HS:=Lq hS;have HP:=Lq hP;have HQ:=Lq hQ;have L1:=Lq hL;have _u:=hC1;clear hS hP hQ hL hC1 _u;refine rd1 6 fun K' hK=>?_
  refine step_append_live (by rfl) _ _ 22 (by rfl) L1.out 0 _ rfl i47 _ 80 Tryz.underlying22 hi47 hz470 hz471 hz472 rfl (Nat.succ_pos _) (by rfl) (.slice (some ⟨g,0,none⟩) 1 1) 1 _ (by rfl) (live_src L1.out.2 (k:=1) rfl (by simp [Value.oneCell'])) (by simp only []; unfold maxLen; omega) (by simp only []; omega) ?_
  intro v3 w3 hL3;have L3:=Lq (liveB_drop hL3 1);refine hK.out _ _ (HS.out _ hL3.1) (fun hHeld=>?_)
  clear hK hL3 L1;refine rd1 11 fun K' hK=>?_
  go_simp;refine (HP.out _ L3.out.1).mono ?_;rintro e w4 ⟨r,rfl,hr,hb⟩;have HR:=Lq hr;have L4:=Lq (liveB_below L3.out hb);clear hr hb L3;refine hK.out _ _ (HS.out _ L4.out.1) (fun hHeld=>?_)
  clear hK;refine tk 12 v3 ?_;refine tk 13 (iv r) ?_;refine wpAnyH_done (by kernel_rfl) ?_ _
  exact NoPanic.normal (HQ.out _ _ _ _ _ _ _ _ _ _ _ _ _ _ _ HR.out L4.out)
theorem reg16_4 {on : List ByteArray} {C1 : List Value} {Pr : Prop} {z16 z17 z18 z19 z20 z22 z23 z24 z25 : Value} (hn : n ≤ 11) (hC1 : Srcs V 7 (.slice A n cap) n C1)
  (hS : hHR61 V Ao ca g3 name kind first last wlo whi on)
  (hP : ∀ W,BW V W → Calls Tryz.prog 13 #[.agg #[.string name,iv kind,iv first,iv last,.slice Ao on.length ca,iv wlo,iv whi],.slice A n cap,.slice A n cap] W (ErrIff Pr W))
  (hQ : ∀ u15 u16 u17 u18 u19 u20 u21 u22 u23 u24 u25 u26 v r W',(r = 0 ↔ Pr) → LiveB V W' [some ⟨v,47,7,0 + n + 1,[] ++ C1 ++ [.string name,iv kind,iv first,iv last,.slice Ao on.length ca,iv wlo,iv whi]⟩,none,none,none] → Q .normal ⟨(((.slice A n cap)::z1::z2::(.pointer (some ⟨g3,0,none⟩))::(v)::(iv r)::z6::z7::z8::z9::z10::z11::z12::z13::z14::(u15)::(u16)::(u17)::(u18)::(u19)::(u20)::(u21)::(u22)::(u23)::(u24)::(u25)::(u26)::z27::z28::z29::z30::z31::z32::z33::z34::z35::z36::z37::z38::z39::z40::z41::z42::z43::z44::z45::z46::z47::z48::z49::z50::z51::z52::z53::z54::z55::z56::z57::z58::z59::z60::z61::z62::z63::z64::z65::z66::z67::z68::z69::z70::z71::z72::z73::z74::z75::z76::z77::z78::z79::z80::z81::z82::z83::z84::z85::z86::z87::z88::[] : List Value).toArray),[]⟩ W') :
  (regionOf Tryz.f16 4).wp Tryz.prog Q ⟨(((.slice A n cap)::z1::z2::(.pointer (some ⟨g3,0,none⟩))::z4::z5::z6::z7::z8::z9::z10::z11::z12::z13::z14::z15::z16::z17::z18::z19::z20::z21::z22::z23::z24::z25::z26::z27::z28::z29::z30::z31::z32::z33::z34::z35::z36::z37::z38::z39::z40::z41::z42::z43::z44::z45::z46::z47::z48::z49::z50::z51::z52::z53::z54::z55::z56::z57::z58::z59::z60::z61::z62::z63::z64::z65::z66::z67::z68::z69::z70::z71::z72::z73::z74::z75::z76::z77::z78::z79::z80::z81::z82::z83::z84::z85::z86::z87::z88::[] : List Value).toArray),[]⟩ V:=by
 obtain ⟨i47,hi47,hz470,hz471,hz472⟩:=info_parts Tryz.info47;have HS:=Lq hS;have H1:=Lq hC1;have HP:=Lq hP;have HQ:=Lq hQ;clear hQ hP hC1;refine go0 (ops:=ops16_4) (r:=4) (n:=14) hS fun V0 HB0 hHeld=>?_
 clear hS;have L0 : Hid (LiveB V V0 [none,none,none,none]):=Lq ⟨HB0.out,live_nil HB0.out.size⟩;refine tk 1 (.slice A n cap) ?_;refine tk 3 (.pointer (some ⟨g3,3,none⟩)) ?_;refine tk 4 (.agg #[.string name,iv kind,iv first,iv last,.slice Ao on.length ca,iv wlo,iv whi]) ?_;refine tk 7 (.pointer (some ⟨g3,3,none⟩)) ?_;refine tk 8 (.agg #[.string name,iv kind,iv first,iv last,.slice Ao on.length ca,iv wlo,iv whi]) ?_;refine tk 9 (.slice A n cap) ?_;refine tk 10 (.slice A n cap) ?_;refine rd2 0 5 (fun K' hK=>?_) fun K' hK=>?_
 ·skip;go_simp;have L1:=Lq (liveB_lit L0.out 0 #[] 47 7 0 (by simp [maxLen]) rfl)
  obtain ⟨V1,hV1⟩:=ex (V0.alloc (.cells #[] 47));obtain ⟨nV1,hnV1⟩:=ex V0.heap.size;rw [hV1,hnV1] at L1;rw [hV1,hnV1];refine hK.out _ _ (HS.out _ L1.out.1) (fun hHeld=>?_)
  clear hK hV1 hnV1;refine rd2 2 5 (fun K' hK=>?_) fun K' hK=>?_
  ·skip;refine step_append_live (by rfl) _ _ 22 (by rfl) L1.out 0 _ rfl i47 _ 80 Tryz.underlying22 hi47 hz470 hz471 hz472 rfl (Nat.succ_pos _) (by rfl) (.slice A n cap) n _ (by rfl) (srcs_keep L1.out H1.out) (by simp only []; unfold maxLen; omega) (by simp only []; omega) ?_
   intro v2 V2 hL2;have L2:=Lq hL2;refine hK.out _ _ (HS.out _ hL2.1) (fun hHeld=>?_)
   clear hK hL2;refine rd1 5 fun K' hK=>?_
   go_simp;have L3:=Lq (liveB_lit L2.out 1 #[.string name,iv kind,iv first,iv last,.slice Ao on.length ca,iv wlo,iv whi] 47 7 1 (by simp [maxLen]) rfl)
   obtain ⟨V3,hV3⟩:=ex (V2.alloc (.cells #[.string name,iv kind,iv first,iv last,.slice Ao on.length ca,iv wlo,iv whi] 47));obtain ⟨nV3,hnV3⟩:=ex V2.heap.size;rw [hV3,hnV3] at L3;rw [hV3,hnV3];refine hK.out _ _ (HS.out _ L3.out.1) (fun hHeld=>?_)
   clear hK hV3 hnV3;exact st16_4 hn H1.out HS.out HP.out HQ.out L3.out
  ·skip;go_simp;have L2:=Lq (liveB_lit L1.out 1 #[.string name,iv kind,iv first,iv last,.slice Ao on.length ca,iv wlo,iv whi] 47 7 1 (by simp [maxLen]) rfl)
   obtain ⟨V2,hV2⟩:=ex (V1.alloc (.cells #[.string name,iv kind,iv first,iv last,.slice Ao on.length ca,iv wlo,iv whi] 47));obtain ⟨nV2,hnV2⟩:=ex V1.heap.size;rw [hV2,hnV2] at L2;rw [hV2,hnV2];refine hK.out _ _ (HS.out _ L2.out.1) (fun hHeld=>?_)
   clear hK hV2 hnV2;refine rd1 2 fun K' hK=>?_
   refine step_append_live (by rfl) _ _ 22 (by rfl) L2.out 0 _ rfl i47 _ 80 Tryz.underlying22 hi47 hz470 hz471 hz472 rfl (Nat.succ_pos _) (by rfl) (.slice A n cap) n _ (by rfl) (srcs_keep L2.out H1.out) (by simp only []; unfold maxLen; omega) (by simp only []; omega) ?_
   intro v2 V3 hL3;have L3:=Lq hL3;refine hK.out _ _ (HS.out _ hL3.1) (fun hHeld=>?_)
   clear hK hL3;exact st16_4 hn H1.out HS.out HP.out HQ.out L3.out
 ·skip;go_simp;have L1:=Lq (liveB_lit L0.out 1 #[.string name,iv kind,iv first,iv last,.slice Ao on.length ca,iv wlo,iv whi] 47 7 1 (by simp [maxLen]) rfl)
  obtain ⟨V1,hV1⟩:=ex (V0.alloc (.cells #[.string name,iv kind,iv first,iv last,.slice Ao on.length ca,iv wlo,iv whi] 47));obtain ⟨nV1,hnV1⟩:=ex V0.heap.size;rw [hV1,hnV1] at L1;rw [hV1,hnV1];refine hK.out _ _ (HS.out _ L1.out.1) (fun hHeld=>?_)
  clear hK hV1 hnV1;refine rd1 0 fun K' hK=>?_
  go_simp;have L2:=Lq (liveB_lit L1.out 0 #[] 47 7 0 (by simp [maxLen]) rfl)
  obtain ⟨V2,hV2⟩:=ex (V1.alloc (.cells #[] 47));obtain ⟨nV2,hnV2⟩:=ex V1.heap.size;rw [hV2,hnV2] at L2;rw [hV2,hnV2];refine hK.out _ _ (HS.out _ L2.out.1) (fun hHeld=>?_)
  clear hK hV2 hnV2;refine rd1 2 fun K' hK=>?_
  refine step_append_live (by rfl) _ _ 22 (by rfl) L2.out 0 _ rfl i47 _ 80 Tryz.underlying22 hi47 hz470 hz471 hz472 rfl (Nat.succ_pos _) (by rfl) (.slice A n cap) n _ (by rfl) (srcs_keep L2.out H1.out) (by simp only []; unfold maxLen; omega) (by simp only []; omega) ?_
  intro v2 V3 hL3;have L3:=Lq hL3;refine hK.out _ _ (HS.out _ hL3.1) (fun hHeld=>?_)
  clear hK hL3;exact st16_4 hn H1.out HS.out HP.out HQ.out L3.out
end
section
variable {ms : List HuM}
def ChgPost (ms : List HuM) (c : HcM) (w : World) (e : Ending) (w' : World) : Prop:=∃ (r : Int) (v : Value),e = .returned (.tuple #[v,iv r]) ∧ BW w w' ∧ (r ≠ 0 → chgP (psOf ms) c.c = none) ∧ (r = 0 → ∃ out A cap,v = .slice A out.length cap ∧ chgP (psOf ms) c.c = some (psOf out) ∧ SlM w' w'.heap.size A cap out)
theorem chgNo {c : HcM} {w w' : World} {r : Int} {v : Value} (h0 : r ≠ 0) (h : chgP (psOf ms) c.c = none) (hb : BW w w') : ChgPost ms c w (.returned (.tuple #[v,iv r])) w':=⟨r,v,rfl,hb,fun _=>h,fun h1=>absurd h1 h0⟩
theorem cBox (w : World) (c : HcM) : ∃ W1,w.alloc (.cells #[iv c.what,iv c.day,.string c.name,.string c.part.p.name,iv c.part.p.kind,iv c.part.p.first,iv c.part.p.last,.slice c.part.A c.part.p.on.length c.part.cap,iv c.part.p.wlo,iv c.part.p.whi] 49) = W1 ∧ BW w W1 ∧ W1.heap.size = w.heap.size + 1 ∧ Blk W1 w.heap.size 49 #[iv c.what,iv c.day,.string c.name,.string c.part.p.name,iv c.part.p.kind,iv c.part.p.first,iv c.part.p.last,.slice c.part.A c.part.p.on.length c.part.cap,iv c.part.p.wlo,iv c.part.p.whi] :=
 ⟨_,rfl,belowA (belowR _) _,by simp,Blk.new w 49 _⟩
theorem chgP_add_no {l : List HuP} {c : HuC} (h1 : c.what = 1) (h : ¬ (l.length < 12 ∧ PartOk c.part l l)) : chgP l c = none:=by
 unfold chgP;rw [if_pos h1,if_neg (fun h2=>h h2.2)]
theorem chgP_add_ok {l : List HuP} {c : HuC} (h1 : c.what = 1) (h : c.name.toList.isEmpty = true) (h2 : l.length < 12) (h3 : PartOk c.part l l) : chgP l c = some (l ++ [c.part]):=by
 unfold chgP;rw [if_pos h1,if_pos ⟨h,h2,h3⟩]
theorem chgP_take_no {l : List HuP} {c : HuC} (h1 : c.what = 2) (h : ¬ (hasP l c.name = true ∧ ∀ q ∈ l,standsB q c.name = false)) : chgP l c = none:=by
 unfold chgP;rw [if_neg (by omega),if_pos h1,if_neg (fun h2=>h h2.2)]
theorem chgP_take_ok {l : List HuP} {c : HuC} (h1 : c.what = 2) (h : bareP c.part = true) (h2 : hasP l c.name = true) (h3 : ∀ q ∈ l,standsB q c.name = false) : chgP l c = some (l.eraseIdx (idxP l c.name)):=by
 unfold chgP;rw [if_neg (by omega),if_pos h1,if_pos ⟨h,h2,h3⟩]
theorem chgP_swap_no {l : List HuP} {c : HuC} (h1 : c.what = 3) (h : ¬ (hasP l c.name = true ∧ PartOk c.part (l.take (idxP l c.name)) (l.eraseIdx (idxP l c.name)) ∧ ∀ q ∈ l.drop (idxP l c.name + 1),standsB q c.name = true → meetB q c.part = true)) : chgP l c = none:=by
 unfold chgP;rw [if_neg (by omega),if_neg (by omega),if_pos h1,if_neg h]
theorem chgP_swap_ok {l : List HuP} {c : HuC} (h1 : c.what = 3) (h2 : hasP l c.name = true) (h3 : PartOk c.part (l.take (idxP l c.name)) (l.eraseIdx (idxP l c.name))) (h4 : ∀ q ∈ l.drop (idxP l c.name + 1),standsB q c.name = true → meetB q c.part = true) : chgP l c = some (swapP l (idxP l c.name) c.name c.part):=by
 unfold chgP;rw [if_neg (by omega),if_neg (by omega),if_pos h1,if_pos ⟨h2,h3,h4⟩]
theorem erase_map (ms : List HuM) (i : Nat) : psOf (ms.eraseIdx i) = (psOf ms).eraseIdx i:=by
 simp only [psOf,List.eraseIdx_eq_take_drop_succ,List.map_append,List.map_take,List.map_drop]
theorem take_map (ms : List HuM) (i : Nat) : psOf (ms.take i) = (psOf ms).take i:=by simp only [psOf,List.map_take]
theorem ok_first (h : ShipOk (psOf ms)) : ∀ b ∈ ms,b.p.first ≤ b.p.last:=by
 intro b hb;obtain ⟨i,hi⟩:=List.mem_iff_getElem?.1 hb;exact (h.part i _ (ps_at hi)).fr.2.1
theorem chgAdd_any (A : Option Addr) (ms : List HuM) (c : HcM) (B cap : Nat) (w : World) (hB : B ≤ w.heap.size) (H : SlM w B A cap ms) (hM : MOk w B c.part) (hok : ShipOk (psOf ms)) (hwh : c.what = 1) (hbr : bareB c.c = true) :
  Calls Tryz.prog 16 #[.slice A ms.length cap,cV c] w (ChgPost ms c w):=by
 have hnm : c.name.toList.isEmpty = true:=by have:=hbr; unfold bareB at this; simp only [HcM.c,hwh] at this; simpa using this
 have hn12 : ms.length ≤ 12:=by have:=hok.len; simpa using this
 obtain ⟨W1,hW1,hb1,hz1,hq⟩:=cBox w c;have HH:=Lq (H.below hb1 hB);have HM:=Lq (hM.below hb1 hB);have HB1:=Lq hb1;have hBW1 : B ≤ W1.heap.size:=by omega
 have HOK:=Lq hok;have hmax:=H.max;have hle:=H.le;have hl9 : ms.length ≤ 9223372036854775807:=by omega
 clear H hM hb1 hok;obtain ⟨what,day,nm,⟨⟨name,kind,first,last,on,wlo,whi⟩,Ao,ca⟩⟩:=c;obtain rfl : what = 1:=hwh;obtain ⟨g3,hg3⟩:=ex w.heap.size;rw [hg3] at hq;have HX : Hid (∀ W,BW W1 W → Blk W g3 49 #[iv 1,iv day,.string nm,.string name,iv kind,iv first,iv last,.slice Ao on.length ca,iv wlo,iv whi]):=Lq fun W hb=>hq.keep hb
 have HZ1:=Lq hz1;obtain ⟨q0,q1,q2,q3,q4,q5,q6,q7,q8,q9⟩:=hq.c10;have hgw:=hq.lt;clear hq hz1;have HNM:=Lq hnm;clear hnm hbr;by_cases hlen : 12 ≤ ms.length
 ·go_enter Tryz.func16,Tryz.ntmps16
  go_wp2_with fail
  go_ret2
  exact chgNo (by decide) (chgP_add_no rfl (fun h=>by have:=h.1; simp at this; omega)) HB1.out
 ·have hlen2 : ¬ (ms.length : Int) ≥ 12:=by omega
  have HSS : Hid (∀ W,BW W1 W → W.cell? ⟨g3,3,none⟩ = some (.string name) ∧ W.cell? ⟨g3,4,none⟩ = some (iv kind) ∧ W.cell? ⟨g3,5,none⟩ = some (iv first) ∧ W.cell? ⟨g3,6,none⟩ = some (iv last) ∧ W.cell? ⟨g3,7,none⟩ = some (.slice Ao on.length ca) ∧ W.cell? ⟨g3,8,none⟩ = some (iv wlo) ∧ W.cell? ⟨g3,9,none⟩ = some (iv whi)):=Lq fun W hb=>have k:=HX.out W hb; ⟨k.c 3,k.c 4,k.c 5,k.c 6,k.c 7,k.c 8,k.c 9⟩
  have HL:=Lq ((HH.out.row hBW1).low encM_len encM_one (p:=ms.length) (Nat.le_refl _));have HP : Hid (∀ W,BW W1 W → Calls Tryz.prog 13 #[.agg #[.string name,iv kind,iv first,iv last,.slice Ao on.length ca,iv wlo,iv whi],.slice A ms.length cap,.slice A ms.length cap] W (ErrIff (PartOk ⟨name,kind,first,last,on,wlo,whi⟩ (psOf ms) (psOf ms)) W)):=Lq fun W hb=>part13_any ⟨⟨name,kind,first,last,on,wlo,whi⟩,Ao,ca⟩ ms ms A A B cap cap W (Nat.le_trans hBW1 hb.size) (HM.out.below hb hBW1) (HH.out.rd.below hb hBW1) (HH.out.rd.below hb hBW1) hle hmax (Nat.le_trans hle hmax) (ok_first HOK.out)
  go_enter Tryz.func16,Tryz.ntmps16
  go_wp2_with fail
  go_upto_region 4 with fail
  refine reg16_4 (by omega) (by simpa using HL.out) HSS.out HP.out ?_
  intro u15 u16 u17 u18 u19 u20 u21 u22 u23 u24 u25 u26 v r W' hr hL;have HR:=Lq hr;have L:=Lq hL;clear hr hL q0 q1 q2 q3 q4 q5 q6 q7 q8 q9;go_wp2_with fail
  go_ret2
  refine ⟨r,v,rfl,belowT HB1.out L.out.1,fun h=>?_,fun h=>?_⟩
  ·exact chgP_add_no rfl (fun h2=>h (HR.out.2 h2.2))
  ·have ho:=live_own L.out.2 (i:=0) rfl;have ho2 : W'.ownsRow W1.heap.size 47 7 v (ms.length + 1) ((ms ++ [HuM.mk ⟨name,kind,first,last,on,wlo,whi⟩ Ao ca]).flatMap encM):=by simpa [List.flatMap_append,encM] using ho
   obtain ⟨A2,cap2,rfl,hs⟩:=SlM.of_own (ms:=ms ++ [⟨⟨name,kind,first,last,on,wlo,whi⟩,Ao,ca⟩]) ho2 (by simp) (fun q hq=>by
    rcases List.mem_append.1 hq with hq | hq
    ·exact ((HH.out.rd.ok q hq).below L.out.1 hBW1).more (Nat.le_trans hBW1 L.out.1.size)
    ·obtain rfl:=List.mem_singleton.1 hq;exact (HM.out.below L.out.1 hBW1).more (Nat.le_trans hBW1 L.out.1.size))
   refine ⟨_,A2,cap2,rfl, ?_,hs⟩;rw [chgP_add_ok rfl HNM.out (by simp; omega) (HR.out.1 h),psOf_snoc]; rfl
theorem chgTake_any (A : Option Addr) (ms : List HuM) (c : HcM) (B cap : Nat) (w : World) (hB : B ≤ w.heap.size) (H : SlM w B A cap ms) (hM : MOk w B c.part) (hcn : c.name.size ≤ maxLen) (hok : ShipOk (psOf ms)) (hwh : c.what = 2) (hbr : bareB c.c = true) :
  Calls Tryz.prog 16 #[.slice A ms.length cap,cV c] w (ChgPost ms c w):=by
 have hbp : bareP c.part.p = true:=by have:=hbr; unfold bareB at this; simp only [HcM.c,hwh] at this; simpa using this
 have _u:=hcn;have hn12 : ms.length ≤ 12:=by have:=hok.len; simpa using this
 obtain ⟨W1,hW1,hb1,hz1,hq⟩:=cBox w c;have HH:=Lq (H.below hb1 hB);have HM:=Lq (hM.below hb1 hB);have HB1:=Lq hb1;have hBW1 : B ≤ W1.heap.size:=by omega
 have HOK:=Lq hok;have hmax:=H.max;have hle:=H.le;have hl9 : ms.length ≤ 9223372036854775807:=by omega
 clear H hM hb1 hok;obtain ⟨what,day,nm,⟨⟨name,kind,first,last,on,wlo,whi⟩,Ao,ca⟩⟩:=c;obtain rfl : what = 2:=hwh;obtain ⟨g3,hg3⟩:=ex w.heap.size;rw [hg3] at hq;have HX : Hid (∀ W,BW W1 W → Blk W g3 49 #[iv 2,iv day,.string nm,.string name,iv kind,iv first,iv last,.slice Ao on.length ca,iv wlo,iv whi]):=Lq fun W hb=>hq.keep hb
 have HZ1:=Lq hz1;obtain ⟨q0,q1,q2,q3,q4,q5,q6,q7,q8,q9⟩:=hq.c10;have hgw:=hq.lt;clear hq hz1;have HBP:=Lq hbp;have hF:=fun W (hb : BW W1 W)=>find61_any A ms B cap nm W (Nat.le_trans hle hmax) (HH.out.rd.below hb hBW1)
 have hS:=fun W (hb : BW W1 W)=>stood64_any A ms B cap nm W (Nat.le_trans hle hmax) (HH.out.rd.below hb hBW1)
 clear hbp hbr;obtain ⟨bh,hbh⟩:=ex (hasP (psOf ms) nm);have HBH:=Lq hbh;cases bh
 ·rw [posP_none hbh] at hF;have HF : Hid (∀ W,BW W1 W → Calls Tryz.prog 61 #[.slice A ms.length cap,.string nm] W fun e w'=>e = .returned (iv (-1)) ∧ W = w'):=Lq hF
  clear hF hS hbh;go_enter Tryz.func16,Tryz.ntmps16
  go_wp2_with (go_at_call 61; ((with_reducible refine (HF.out _ (belowR _)).mono ?_); rintro e w' ⟨rfl,rfl⟩))
  go_ret2
  exact chgNo (by decide) (chgP_take_no rfl (fun h=>by have:=h.1; simp only [HcM.c] at this; rw [HBH.out] at this; cases this)) HB1.out
 ·obtain ⟨hp1,hil,yp,hy,_⟩:=posP_at hbh;obtain ⟨i,hi⟩:=ex (idxP (psOf ms) nm);rw [hi] at hp1 hil;rw [hp1] at hF;have hil2 : i < ms.length:=by simpa using hil
  have hi0 : (0 : Int) ≤ (i : Int):=by omega
  have HI:=Lq hi;have HF : Hid (∀ W,BW W1 W → Calls Tryz.prog 61 #[.slice A ms.length cap,.string nm] W fun e w'=>e = .returned (iv i) ∧ W = w'):=Lq hF
  obtain ⟨bs,hbs⟩:=ex (stoodB (psOf ms) nm);rw [hbs] at hS;have HS : Hid (∀ W,BW W1 W → Calls Tryz.prog 64 #[.slice A ms.length cap,.string nm] W fun e w'=>e = .returned (.bool bs) ∧ W = w'):=Lq hS
  have HBS:=Lq hbs;have HW : Hid (Calls Tryz.prog 65 #[.slice A ms.length cap,iv i] W1 (OwnMs (ms.eraseIdx i) W1)):=Lq (without65_any A ms B cap i W1 hBW1 HH.out hn12 hil2);clear hF hS hbh hbs hp1 hy hi hil;cases bs
  ·go_enter Tryz.func16,Tryz.ntmps16
   go_wp2_with (first | (go_at_call 61; ((with_reducible refine (HF.out _ (belowR _)).mono ?_); rintro e w' ⟨rfl,rfl⟩)) | (go_at_call 64; ((with_reducible refine (HS.out _ (belowR _)).mono ?_); rintro e w' ⟨rfl,rfl⟩)))
   refine HW.out.mono ?_;rintro e w5 ⟨v5,rfl,ho5,hb5⟩;have HO5:=Lq ho5;have HB5:=Lq hb5;clear ho5 hb5 q0 q1 q2 q3 q4 q5 q6 q7 q8 q9;go_wp2_with fail
   go_ret2
   refine ⟨0,v5,rfl,belowT HB1.out HB5.out,fun h=>absurd rfl h,fun _=>?_⟩
   obtain ⟨A2,cap2,rfl,hs⟩:=SlM.of_own HO5.out rfl (fun q hq=>((HH.out.rd.ok q (List.mem_of_mem_eraseIdx hq)).below HB5.out hBW1).more (Nat.le_trans hBW1 HB5.out.size))
   refine ⟨_,A2,cap2,rfl, ?_,hs⟩;rw [chgP_take_ok rfl HBP.out HBH.out (stoodB_no.1 HBS.out),erase_map,← HI.out]; rfl
  ·go_enter Tryz.func16,Tryz.ntmps16
   go_wp2_with (first | (go_at_call 61; ((with_reducible refine (HF.out _ (belowR _)).mono ?_); rintro e w' ⟨rfl,rfl⟩)) | (go_at_call 64; ((with_reducible refine (HS.out _ (belowR _)).mono ?_); rintro e w' ⟨rfl,rfl⟩)))
   go_ret2
   exact chgNo (by decide) (chgP_take_no rfl (fun h=>by have:=stoodB_no.2 h.2; simp only [HcM.c] at this; rw [HBS.out] at this; cases this)) HB1.out
end
end Go.Proofs.YtpgfldcoojfheaaGreatDoor
