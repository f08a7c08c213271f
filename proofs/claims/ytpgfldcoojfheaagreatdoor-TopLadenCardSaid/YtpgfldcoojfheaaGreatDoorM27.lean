/- hull: the text of a plan (printed by mkHW3.py). hull: Write; the words that Read takes (printed by mkHW4.py). hull: a change's words (printed by mkHW5.py). -/
import Derived.Test.YtpgfldcoojfheaaGreatDoorM0
import Derived.Test.YtpgfldcoojfheaaGreatDoorM26
set_option maxRecDepth 1000000
set_option maxHeartbeats 16000000
namespace Go.Proofs.YtpgfldcoojfheaaGreatDoor
open Go.RowKit Go.Shelf
attribute [local go_sem] Oper.semAt_some
theorem text79_any (A C : Option Addr) (cap capc : Nat) (ms : List HuM) (cs : List HcM) (w : World) (H : PlanAt w A C cap capc ms cs) (ht : PowTab w) (hp : ∀ m ∈ ms,TellOk m.p ∧ (lineOf (partW m.p)).length ≤ 100000) (hc : ∀ c ∈ cs,1 ≤ c.what ∧ c.what ≤ 3 ∧ (-9223372036854775808 ≤ c.day ∧ c.day ≤ 9223372036854775807) ∧ (c.what ≠ 2 → TellOk c.part.p) ∧ (lineOf (chgW c.c)).length ≤ 100000)
  (hpl : ms.length ≤ 1000) (hcl : cs.length ≤ 1000) :
  Calls Tryz.prog 79 #[.agg #[.slice A ms.length cap,.slice C cs.length capc]] w (Rt w (.string ⟨(textT (psOf ms) (csOf cs)).toArray⟩)):=by
 obtain ⟨i9,hi9,hz90,hz91,hz92⟩:=info_parts Tryz.info9;obtain ⟨W1,hW1⟩:=ex (w.alloc (.cells #[.slice A ms.length cap,.slice C cs.length capc] 27));obtain ⟨W2,hW2⟩:=ex (W1.alloc (.cells #[.pointer none,.slice none 0 0] 197));obtain ⟨g1,hg1⟩:=ex w.heap.size;obtain ⟨b,hbb⟩:=ex W1.heap.size;have b1 : BW w W1:=by rw [← hW1]; exact belowA (belowR w) _
 have b2 : BW W1 W2:=by rw [← hW2]; exact belowA (belowR _) _
 have q1 : Blk W1 g1 27 #[.slice A ms.length cap,.slice C cs.length capc]:=by rw [← hW1,← hg1]; exact Blk.new w 27 _
 have hi0 : Lib.IsBuilder 197 5 b b (Lib.byteCells (partsT ((psOf ms).take 0))) W2:=by rw [← hW2,← hbb]; exact Lib.fresh_isBuilder 197 5 W1
 have HI0:=Lq hi0;have HB1:=Lq b1;have HB2 : Hid (Below b W1 W2):=Lq (by rw [← hbb]; exact b2)
 have HQ1:=Lq q1;have HBB : Hid (W1.heap.size = b):=Lq hbb;have H1:=Lq (H.below b1);have HT:=Lq (ht.below b1 (Nat.le_refl _));have HP:=Lq hp;have HC:=Lq hc;have HPL : Hid (ms.length ≤ 1000):=Lq hpl;have HCL : Hid (cs.length ≤ 1000):=Lq hcl;have c0:=q1.c 0;have c1:=q1.c 1;have d0:=(q1.keep b2).c 0;have d1:=(q1.keep b2).c 1;clear H ht hp hc b1 b2 q1 hi0;go_enter Tryz.func79,Tryz.ntmps79
 go_wp2_with fail
 clear c0 c1 d0 d1 hW1 hW2 hg1 hbb;go_loopw [15] (fun i wr=>∃ k : Nat,k ≤ ms.length ∧ i = iv k ∧ Hid (Lib.IsBuilder 197 5 b b (Lib.byteCells (partsT ((psOf ms).take k))) wr) ∧ Hid (Below b W1 wr)) (fun i _=>ms.length - (intOf i).toNat)
 case atStart=>exact ⟨0,Nat.zero_le _,rfl,HI0,HB2⟩
 case round =>
  obtain ⟨k,hk,rfl,HI,HBW⟩:=hrel;have hk0 : (0 : Int) ≤ (k : Int):=by omega
  have hbw : BW W1 wr:=by rw [BW,HBB.out]; exact HBW.out
  by_cases hlt : k < ms.length
  ·obtain ⟨m,hm⟩ : ∃ x,ms[k]? = some x:=⟨_,List.getElem?_eq_getElem hlt⟩;have hsl:=H1.out.sl.below hbw (Nat.le_refl _);obtain ⟨bm,om,rfl,hbm,hmo,e0,e1,e2,e3,e4,e5,e6⟩:=hsl.rd.at hm;obtain ⟨htl,hln⟩:=HP.out m (List.mem_iff_getElem?.2 ⟨k,hm⟩);obtain ⟨⟨nm,kd,fi,la,on,lo,hi⟩,mA,mc⟩:=m;have HKT : Hid (partsT ((psOf ms).take (k + 1)) = partsT ((psOf ms).take k) ++ lineOf (partW ⟨nm,kd,fi,la,on,lo,hi⟩)):=Lq (by
    unfold partsT;rw [List.take_add_one,ps_at hm,List.flatMap_append];simp)
   have HTL : Hid ((partsT ((psOf ms).take k)).length ≤ 100000000):=Lq (by
    have h:=flat_len_le (f:=fun p=>lineOf (partW p)) (k:=100000) ((psOf ms).take k) (fun p hp=>by
     obtain ⟨m',hm',rfl⟩:=List.mem_map.1 (List.mem_of_mem_take hp);exact (HP.out m' hm').2)
    have h2 : ((psOf ms).take k).length ≤ 1000:=by rw [List.length_take]; have:=HPL.out; omega
    exact Nat.le_trans h (Nat.mul_le_mul_right 100000 h2))
   simp only at e0 e1 e2 e3 e4 e5 e6 hmo htl;obtain ⟨Wa,W6,hWa,hW6,hb6,hqa,hba,hq6⟩:=partMade wr nm kd fi la lo hi mA mc on.length;obtain ⟨g6,hg6⟩:=ex wr.heap.size;rw [hg6] at hW6 hqa hq6;obtain ⟨f0,f1,f2,f3,f4,f5,f6⟩:=hqa.f7;obtain ⟨i0,i1,i2,i3,i4,i5,i6⟩:=hqa.c7;have el:=hqa.lt;obtain ⟨W7,hW7⟩:=ex (W6.alloc (.cells #[.string sPart] 9));have hb7 : BW W6 W7:=by rw [← hW7]; exact belowA (belowR W6) _
   have hr7 : W7.ownsRow W6.heap.size 9 1 (.slice (some ⟨W6.heap.size,0,none⟩) 1 1) 1 [.string sPart]:=by
    rw [← hW7];exact World.ownsRow_lit (e:=9) (size:=1) (base:=W6.heap.size) W6 #[.string sPart] 1 (Nat.le_refl _) (by decide) (by simp)
   have hq7:=hq6.keep hb7;obtain ⟨j0,j1,j2,j3,j4,j5,j6⟩:=hq7.c7;obtain ⟨g20,hg20⟩:=ex W6.heap.size;have hg20' : b ≤ g20:=by have:=hb6.size; have:=hbw.size; have:=HBB.out; omega
   rw [hg20] at hr7;have HR7:=Lq hr7;have HB67:=Lq (belowT hb6 hb7);have HB17:=Lq (belowT hbw (belowT hb6 hb7));have HTE:=Lq (tell115_any ⟨⟨nm,kd,fi,la,on,lo,hi⟩,mA,mc⟩ W7 ((hmo.below (belowT hb6 hb7) hbw.size).more (Nat.le_trans hbw.size (Nat.le_trans hb6.size hb7.size))) (HT.out.below HB17.out (Nat.le_refl _)) htl.kind htl.nums htl.on);have HON : Hid (on.length ≤ 1000):=Lq htl.on;have HLN:=Lq hln;clear hm hsl hbm hmo htl hln hb6 hqa hba hq6 hb7 hr7 hq7;go_wp2_with fail
   refine HTE.out.mono ?_;rintro e w8 ⟨v8,rfl,hown8,hb8⟩;obtain ⟨A8,c8,rfl,hrd8,hle8,hmx8⟩:=own1_rd hown8;have hlw:=tellL_len ⟨nm,kd,fi,la,on,lo,hi⟩;have HWL : Hid ((tellL ⟨nm,kd,fi,la,on,lo,hi⟩).length ≤ 1006):=Lq (by rw [hlw]; show 6 + on.length ≤ 1006; have:=HON.out; omega)
   have HPW : Hid (partW ⟨nm,kd,fi,la,on,lo,hi⟩ = sPart::tellL ⟨nm,kd,fi,la,on,lo,hi⟩):=Lq rfl;obtain ⟨L,hL⟩:=ex (tellL ⟨nm,kd,fi,la,on,lo,hi⟩);obtain ⟨PW,hPW⟩:=ex (partW ⟨nm,kd,fi,la,on,lo,hi⟩);rw [hL] at HWL HPW hrd8;rw [hPW] at HPW HKT HLN;simp only [hL];have HR8:=Lq (own_below HR7.out hb8);have HRD8:=Lq hrd8;have HI8:=Lq (blds_below HI.out (belowT HB67.out hb8));have HB18:=Lq (belowT HB17.out hb8);have hz8 : b ≤ w8.heap.size:=by have:=HB18.out.size; have:=HBB.out; omega
   have hz9 : g20 < w8.heap.size:=by have h:=HR8.out.lt g20 rfl; exact h.2
   have hw0:=HWL.out;clear hown8 hb8 hrd8 hle8 hmx8 hlw hL hPW f0 f1 f2 f3 f4 f5 f6 i0 i1 i2 i3 i4 i5 i6 el j0 j1 j2 j3 j4 j5 j6 e0 e1 e2 e3 e4 e5 e6 hWa hW6 hg6 hW7;go_wp2_with (at_builtin; refine wpList_append_strs rfl _ _ rfl g20 _ _ _ rfl HR8.out A8 c8 w8.heap.size L rfl HRD8.out (by unfold maxLen; omega) (by omega) (by omega) ?_)
   intro v9 w9 hown9 hg9;have hb9 : Below b W1 w9:=by
    have h1 : Below b W1 w8:=by rw [← HBB.out]; exact HB18.out
    exact h1.grown hg9 (by have:=HB18.out.size; have:=HBB.out; omega) (fun k hk=>by injection hk with hk; subst hk; exact hg20')
   have hi9:=blds_grown HI8.out HR8.out hg9;have hpw : [Value.string sPart] ++ L.map .string = PW.map .string:=by rw [HPW.out]; rfl
   have hpl : 1 + L.length = PW.length:=by rw [HPW.out,List.length_cons]; omega
   have hown9 : w9.ownsRow g20 9 1 v9 (1 + L.length) ([Value.string sPart] ++ L.map .string):=hown9;rw [hpw,hpl] at hown9;obtain ⟨A9,c9,rfl,hrd9,hle9,hmx9⟩:=own1_rd hown9;have HLI:=Lq (line112_any b b c9 A9 PW (partsT ((psOf ms).take k)) w9 hi9 (by omega) hrd9 hle9 (by omega) HLN.out (by have:=HTL.out; omega) (by have:=hb9.size; have:=HB18.out.size; have:=HBB.out; omega))
   have HB9:=Lq hb9;clear hb9 hi9 hpw hown9 hrd9 hle9 hmx9 hg9;go_wp2_with fail
   refine HLI.out.mono ?_;rintro e w10 ⟨rfl,hi10,hb10⟩;have HB10:=Lq (HB9.out.trans hb10);rw [← HKT.out] at hi10;have HI10:=Lq hi10;clear hi10 hb10;go_wp2_with fail
   go_roundw
   case measure=>simp [intOf]; omega
   case rel=>exact ⟨k + 1,by omega,by go_num,HI10,HB10⟩
  ·obtain rfl : k = ms.length:=by omega
   have HI1 : Hid (Lib.IsBuilder 197 5 b b (Lib.byteCells (partsT (psOf ms) ++ chgsT ((csOf cs).take 0))) wr):=Lq (by
    have h:=HI.out;rw [List.take_of_length_le (Nat.le_of_eq (List.length_map _))] at h;have e : partsT (psOf ms) ++ chgsT ((csOf cs).take 0) = partsT (psOf ms):=by unfold chgsT; simp
    rw [e];exact h)
   have HTP : Hid ((partsT (psOf ms)).length ≤ 100000000):=Lq (by
    have h:=flat_len_le (f:=fun p=>lineOf (partW p)) (k:=100000) (psOf ms) (fun p hp=>by
     obtain ⟨m',hm',rfl⟩:=List.mem_map.1 hp;exact (HP.out m' hm').2)
    have h2 : (psOf ms).length ≤ 1000:=by rw [List.length_map]; exact HPL.out
    exact Nat.le_trans h (Nat.mul_le_mul_right 100000 h2))
   have q1:=HQ1.out.keep hbw;have d1:=q1.c 1;clear q1 hlt hk HI hbw;go_wp2_with fail
   clear d1;go_loopw [29] (fun i wr=>∃ k : Nat,k ≤ cs.length ∧ i = iv k ∧ Hid (Lib.IsBuilder 197 5 b b (Lib.byteCells (partsT (psOf ms) ++ chgsT ((csOf cs).take k))) wr) ∧ Hid (Below b W1 wr)) (fun i _=>cs.length - (intOf i).toNat)
   case atStart=>exact ⟨0,Nat.zero_le _,rfl,HI1,HBW⟩
   case round =>
    obtain ⟨k,hk,rfl,HI,HBW⟩:=hrel;have hk0 : (0 : Int) ≤ (k : Int):=by omega
    have hbw : BW W1 wr:=by rw [BW,HBB.out]; exact HBW.out
    by_cases hlt : k < cs.length
    ·obtain ⟨cc,hcc⟩ : ∃ x,cs[k]? = some x:=⟨_,List.getElem?_eq_getElem hlt⟩;have hsl:=H1.out.ch.below hbw (Nat.le_refl _);obtain ⟨bm,om,rfl,hbm,hmo,hnm,e0,e1,e2,e3,e4,e5,e6,e7,e8,e9⟩:=hsl.at hcc;obtain ⟨hw1,hw3,hdy,htl,hln⟩:=HC.out cc (List.mem_iff_getElem?.2 ⟨k,hcc⟩);obtain ⟨wh,dy,nm,⟨⟨yn,yk,yf,yl,yon,yw,yz⟩,yA,yc⟩⟩:=cc;have HKT : Hid (partsT (psOf ms) ++ chgsT ((csOf cs).take (k + 1)) = (partsT (psOf ms) ++ chgsT ((csOf cs).take k)) ++ lineOf (chgW ⟨wh,dy,nm,⟨yn,yk,yf,yl,yon,yw,yz⟩⟩)):=Lq (by
      have hcs : (csOf cs)[k]? = some ⟨wh,dy,nm,⟨yn,yk,yf,yl,yon,yw,yz⟩⟩:=by rw [List.getElem?_map,hcc]; rfl
      unfold chgsT;rw [List.take_add_one,hcs,List.flatMap_append,← List.append_assoc];simp)
     have HTL : Hid ((partsT (psOf ms) ++ chgsT ((csOf cs).take k)).length ≤ 200000000):=Lq (by
      have h:=flat_len_le (f:=fun c=>lineOf (chgW c)) (k:=100000) ((csOf cs).take k) (fun p hp=>by
       obtain ⟨m',hm',rfl⟩:=List.mem_map.1 (List.mem_of_mem_take hp);exact (HC.out m' hm').2.2.2.2)
      have h2 : ((csOf cs).take k).length ≤ 1000:=by rw [List.length_take]; have:=HCL.out; omega
      have h3:=Nat.le_trans h (Nat.mul_le_mul_right 100000 h2);have h4:=HTP.out;rw [List.length_append];show _ + (List.flatMap _ _).length ≤ _
      omega)
     simp only at e0 e1 e2 e3 e4 e5 e6 e7 e8 e9 hmo hnm htl hw1 hw3 hdy;obtain ⟨Wa,W6,hWa,hW6,hb6,hqa,hba,hq6⟩:=chgMade wr 49 wh dy nm yn yk yf yl yw yz yA yc yon.length;obtain ⟨g8,hg8⟩:=ex wr.heap.size;rw [hg8] at hW6 hqa hq6;obtain ⟨f0,f1,f2,f3,f4,f5,f6,f7,f8,f9⟩:=hqa.f10;obtain ⟨i0,i1,i2,i3,i4,i5,i6,i7,i8,i9'⟩ : _ ∧ _ ∧ _ ∧ _ ∧ _ ∧ _ ∧ _ ∧ _ ∧ _ ∧ _:=⟨hqa.c 0,hqa.c 1,hqa.c 2,hqa.c 3,hqa.c 4,hqa.c 5,hqa.c 6,hqa.c 7,hqa.c 8,hqa.c 9⟩;have el:=hqa.lt;obtain ⟨j0,j1⟩:=hq6.c2;have HQ8:=Lq hq6;have HB6:=Lq hb6;have HB16:=Lq (belowT hbw hb6);have hg8b : b ≤ g8:=by have:=hbw.size; have:=HBB.out; omega
     have HIT:=Lq (itoa116_any dy hdy.1 hdy.2 W6 (HT.out.below (belowT hbw hb6) (Nat.le_refl _)));have HMO:=Lq ((hmo.below hb6 hbw.size).more (Nat.le_trans hbw.size hb6.size));have HTL2:=Lq htl;have HLN:=Lq hln;clear hcc hsl hbm hmo hnm hb6 hqa hba hq6 hdy htl hln;go_wp2_with fail
     refine HIT.out.mono ?_;rintro e w7 ⟨rfl,hb7⟩;obtain ⟨ds,hds⟩:=ex (itoaB dy);rw [hds];have HDS:=Lq hds;have q7:=HQ8.out.keep hb7;obtain ⟨k0,k1,k2,k3,k4,k5,k6,k7,k8,k9⟩:=q7.c10;have HQ7:=Lq q7;have HB17:=Lq (belowT HB16.out hb7);have HI7:=Lq (blds_below HI.out (belowT HB6.out hb7));have HMO7:=Lq ((HMO.out.below hb7 (Nat.le_refl _)).more hb7.size);clear q7 hb7 hds e0 e1 e2 e3 e4 e5 e6 e7 e8 e9 f0 f1 f2 f3 f4 f5 f6 f7 f8 f9 i0 i1 i2 i3 i4 i5 i6 i7 i8 i9' el j0 j1 hWa hW6 hg8 HQ8 HIT HMO;rcases (show wh = 1 ∨ wh = 2 ∨ wh = 3 by omega) with rfl | rfl | rfl
     ·have htl:=HTL2.out (by decide)
      obtain ⟨W8,hW8⟩:=ex (w7.alloc (.cells #[.string ds,.string sAdd] 9));have hb8 : BW w7 W8:=by rw [← hW8]; exact belowA (belowR w7) _
      have hr8 : W8.ownsRow w7.heap.size 9 1 (.slice (some ⟨w7.heap.size,0,none⟩) 2 2) 2 [.string ds,.string sAdd]:=by
       rw [← hW8];exact World.ownsRow_lit (e:=9) (size:=1) (base:=w7.heap.size) w7 #[.string ds,.string sAdd] 2 (Nat.le_refl _) (by decide) (by simp)
      have q8:=HQ7.out.keep hb8;obtain ⟨j2,j3,j4,j5,j6,j7,j8,j9⟩ : _ ∧ _ ∧ _ ∧ _ ∧ _ ∧ _ ∧ _ ∧ _:=⟨q8.c 2,q8.c 3,q8.c 4,q8.c 5,q8.c 6,q8.c 7,q8.c 8,q8.c 9⟩;obtain ⟨g20,hg20⟩:=ex w7.heap.size;have hg20' : b ≤ g20:=by have:=HB17.out.size; have:=HBB.out; omega
      rw [hg20] at hr8;have HR8:=Lq hr8;have HB78:=Lq hb8;have HB18:=Lq (belowT HB17.out hb8);have HTE:=Lq (tell115_any ⟨⟨yn,yk,yf,yl,yon,yw,yz⟩,yA,yc⟩ W8 ((HMO7.out.below hb8 (Nat.le_refl _)).more hb8.size) (HT.out.below HB18.out (Nat.le_refl _)) htl.kind htl.nums htl.on);have HON : Hid (yon.length ≤ 1000):=Lq htl.on;clear htl hb8 hr8 q8;go_wp2_with fail
      refine HTE.out.mono ?_;rintro e w9 ⟨v9,rfl,hown9,hb9⟩;obtain ⟨A8,c8,rfl,hrd8,hle8,hmx8⟩:=own1_rd hown9;have hlw:=tellL_len ⟨yn,yk,yf,yl,yon,yw,yz⟩;have HWL : Hid ((tellL ⟨yn,yk,yf,yl,yon,yw,yz⟩).length ≤ 1006):=Lq (by rw [hlw]; show 6 + yon.length ≤ 1006; have:=HON.out; omega)
      have HPW : Hid (chgW ⟨1,dy,nm,⟨yn,yk,yf,yl,yon,yw,yz⟩⟩ = ds::sAdd::tellL ⟨yn,yk,yf,yl,yon,yw,yz⟩):=Lq (by rw [← HDS.out]; rfl)
      have HLN2 : Hid ((lineOf (chgW ⟨1,dy,nm,⟨yn,yk,yf,yl,yon,yw,yz⟩⟩)).length ≤ 100000):=HLN;obtain ⟨L,hL⟩:=ex (tellL ⟨yn,yk,yf,yl,yon,yw,yz⟩);obtain ⟨PW,hPW⟩:=ex (chgW ⟨1,dy,nm,⟨yn,yk,yf,yl,yon,yw,yz⟩⟩);rw [hL] at HWL HPW hrd8;rw [hPW] at HPW HKT HLN2;simp only [hL];have HR9:=Lq (own_below HR8.out hb9);have HRD8:=Lq hrd8;have HI9:=Lq (blds_below HI7.out (belowT HB78.out hb9));have HB19:=Lq (belowT HB18.out hb9);have hz8 : b ≤ w9.heap.size:=by have:=HB19.out.size; have:=HBB.out; omega
      have hz9 : g20 < w9.heap.size:=by have h:=HR9.out.lt g20 rfl; exact h.2
      have hw0:=HWL.out;clear hown9 hb9 hrd8 hle8 hmx8 hlw hL hPW j2 j3 j4 j5 j6 j7 j8 j9 k0 k1 k2 k3 k4 k5 k6 k7 k8 k9 hW8;go_wp2_with (at_builtin; refine wpList_append_strs rfl _ _ rfl g20 _ _ _ rfl HR9.out A8 c8 w9.heap.size L rfl HRD8.out (by unfold maxLen; omega) (by omega) (by omega) ?_)
      intro v10 w10 hown10 hg10;have hb10 : Below b W1 w10:=by
       have h1 : Below b W1 w9:=by rw [← HBB.out]; exact HB19.out
       exact h1.grown hg10 (by have:=HB19.out.size; have:=HBB.out; omega) (fun k hk=>by injection hk with hk; subst hk; exact hg20')
      have hi10:=blds_grown HI9.out HR9.out hg10;have hpw : [Value.string ds,Value.string sAdd] ++ L.map .string = PW.map .string:=by rw [HPW.out]; rfl
      have hpl : 2 + L.length = PW.length:=by rw [HPW.out,List.length_cons,List.length_cons]; omega
      have hown10 : w10.ownsRow g20 9 1 v10 (2 + L.length) ([Value.string ds,Value.string sAdd] ++ L.map .string):=hown10;rw [hpw,hpl] at hown10;obtain ⟨A9,c9,rfl,hrd9,hle9,hmx9⟩:=own1_rd hown10;have HLI:=Lq (line112_any b b c9 A9 PW (partsT (psOf ms) ++ chgsT ((csOf cs).take k)) w10 hi10 (by omega) hrd9 hle9 (by omega) HLN2.out (by have:=HTL.out; omega) (by have:=hb10.size; have:=HB19.out.size; have:=HBB.out; omega))
      have HB10:=Lq hb10;clear hb10 hi10 hpw hown10 hrd9 hle9 hmx9 hg10;go_wp2_with fail
      refine HLI.out.mono ?_;rintro e w11 ⟨rfl,hi11,hb11⟩;have HB11:=Lq (HB10.out.trans hb11);rw [← HKT.out] at hi11;have HI11:=Lq hi11;clear hi11 hb11;go_wp2_with fail
      go_roundw
      case measure=>simp [intOf]; omega
      case rel=>exact ⟨k + 1,by omega,by go_num,HI11,HB11⟩
     ·obtain ⟨W8,hW8⟩:=ex (w7.alloc (.cells #[.string ds,.string sTake,.string nm] 9));have hb8 : BW w7 W8:=by rw [← hW8]; exact belowA (belowR w7) _
      have hr8 : W8.ownsRow w7.heap.size 9 1 (.slice (some ⟨w7.heap.size,0,none⟩) 3 3) [ds,sTake,nm].length ([ds,sTake,nm].map .string):=by
       rw [← hW8];exact World.ownsRow_lit (e:=9) (size:=1) (base:=w7.heap.size) w7 #[.string ds,.string sTake,.string nm] 3 (Nat.le_refl _) (by decide) (by simp)
      have HPW : Hid (chgW ⟨2,dy,nm,⟨yn,yk,yf,yl,yon,yw,yz⟩⟩ = [ds,sTake,nm]):=Lq (by rw [← HDS.out]; rfl)
      have HLN2 : Hid ((lineOf (chgW ⟨2,dy,nm,⟨yn,yk,yf,yl,yon,yw,yz⟩⟩)).length ≤ 100000):=HLN;rw [HPW.out] at HKT HLN2;obtain ⟨A9,c9,e9,hrd9,hle9,hmx9⟩:=own1_rd hr8;injection e9 with e9 _ e9'
      subst e9 e9';have HLI:=Lq (line112_any b b 3 _ [ds,sTake,nm] (partsT (psOf ms) ++ chgsT ((csOf cs).take k)) W8 (blds_below HI7.out hb8) (by simp) hrd9 hle9 (by simp) HLN2.out (by have:=HTL.out; omega) (by have:=hb8.size; have:=HB17.out.size; have:=HBB.out; omega))
      have HB18 : Hid (Below b W1 W8):=Lq (by rw [← HBB.out]; exact belowT HB17.out hb8)
      obtain ⟨g20,hg20⟩:=ex w7.heap.size;rw [hg20] at HLI;clear hb8 hr8 hrd9 hle9 hmx9;go_wp2_with fail
      refine HLI.out.mono ?_;rintro e w11 ⟨rfl,hi11,hb11⟩;have HB11:=Lq (HB18.out.trans hb11);rw [← HKT.out] at hi11;have HI11:=Lq hi11;clear hi11 hb11 hW8 hg20 k0 k1 k2 k3 k4 k5 k6 k7 k8 k9;go_wp2_with fail
      go_roundw
      case measure=>simp [intOf]; omega
      case rel=>exact ⟨k + 1,by omega,by go_num,HI11,HB11⟩
     ·have htl:=HTL2.out (by decide)
      have HPW : Hid (chgW ⟨3,dy,nm,⟨yn,yk,yf,yl,yon,yw,yz⟩⟩ = ds::sSwap::nm::tellL ⟨yn,yk,yf,yl,yon,yw,yz⟩):=Lq (by rw [← HDS.out]; rfl)
      have HLN2 : Hid ((lineOf (chgW ⟨3,dy,nm,⟨yn,yk,yf,yl,yon,yw,yz⟩⟩)).length ≤ 100000):=HLN;rw [HPW.out] at HKT HLN2;go_upto_region 18 with fail
      refine reg79_18 (L:=tellL ⟨yn,yk,yf,yl,yon,yw,yz⟩) (bs:=partsT (psOf ms) ++ chgsT ((csOf cs).take k)) (by rw [tellL_len]; show 0 < 6 + yon.length ∧ 6 + yon.length ≤ 1006; have:=htl.on; simp only at this; omega) HLN2.out (by have:=HTL.out; omega) (by have:=HB17.out.size; have:=HBB.out; omega) HQ7.out (by decide) HI7.out (fun W hW=>?_) ?_ (fun W hb=>tell115_any ⟨⟨yn,yk,yf,yl,yon,yw,yz⟩,yA,yc⟩ W ((HMO7.out.below hb (Nat.le_refl _)).more hb.size) (HT.out.below (belowT HB17.out hb) (Nat.le_refl _)) htl.kind htl.nums htl.on)
      ·have q:=HQ7.out.same hW;exact ⟨q.c 2,q.c 3,q.c 4,q.c 5,q.c 6,q.c 7,q.c 8,q.c 9⟩
      ·rintro u58 u59 u60 u61 u62 u63 u64 u65 u66 u67 w11 ⟨hi11,hb11⟩;have HB11 : Hid (Below b W1 w11):=Lq ((show Below b W1 w7 by rw [← HBB.out]; exact HB17.out).trans hb11)
       rw [← HKT.out] at hi11;have HI11:=Lq hi11;clear hi11 hb11;go_wp2_with fail
       go_roundw
       case measure=>simp [intOf]; omega
       case rel =>
        refine ⟨_,_,_,_,_,_,_,_,_,_,_,_,_,_,_,_,_,_,_,_,_,_,_,_,_,_,_,_,_,_,_,_,_,_,_,_,_,_,_,_,_,_,⟨k + 1,by omega, ?_,HI11,HB11⟩,rfl⟩
        go_num
    ·obtain rfl : k = cs.length:=by omega
     have hi:=HI.out;rw [List.take_of_length_le (Nat.le_of_eq (List.length_map _))] at hi;have HST:=Lq (Tryz.Builder_String_any b b (textT (psOf ms) (csOf cs)) wr hi (by have:=hbw.size; have:=HBB.out; omega))
     obtain ⟨X,hX⟩:=ex (textT (psOf ms) (csOf cs));rw [hX] at HST;have HX:=Lq hX;have HBWW:=Lq hbw;clear hi hX hbw;go_wp2_with fail
     refine HST.out.mono ?_;rintro e w12 ⟨rfl,hb12⟩;have HB12 : Hid (BW w w12):=Lq (belowT HB1.out (show Below W1.heap.size W1 w12 by rw [HBB.out]; exact HBW.out.trans hb12))
     clear hb12;go_wp2_with fail
     go_ret
     refine ⟨?_,HB12.out⟩;rw [HX.out];rfl
section
variable {cs : Array Value} {c g t : Nat} {W w : World} {A : Option Addr}
attribute [local go_sem] Oper.semAt_some
theorem write28_any (A C : Option Addr) (cap capc : Nat) (ms : List HuM) (cs : List HcM) (w : World) (H : PlanAt w A C cap capc ms cs) (hok : PlanOk (psOf ms) (csOf cs)) (ht : PowTab w) (hp : ∀ m ∈ ms,TellOk m.p ∧ (lineOf (partW m.p)).length ≤ 100000) (hc : ∀ c ∈ cs,1 ≤ c.what ∧ c.what ≤ 3 ∧ (-9223372036854775808 ≤ c.day ∧ c.day ≤ 9223372036854775807) ∧ (c.what ≠ 2 → TellOk c.part.p) ∧ (lineOf (chgW c.c)).length ≤ 100000)
  (hpl : ms.length ≤ 1000) (hcl : cs.length ≤ 1000) :
  Calls Tryz.prog 28 #[.agg #[.slice A ms.length cap,.slice C cs.length capc]] w (Rt w (.tuple #[.string ⟨(textT (psOf ms) (csOf cs)).toArray⟩,iv 0])):=by
 obtain ⟨W1,hW1⟩:=ex (w.alloc (.cells #[.slice A ms.length cap,.slice C cs.length capc] 27));obtain ⟨g1,hg1⟩:=ex w.heap.size;have b1 : BW w W1:=by rw [← hW1]; exact belowA (belowR w) _
 have q1 : Blk W1 g1 27 #[.slice A ms.length cap,.slice C cs.length capc]:=by rw [← hW1,← hg1]; exact Blk.new w 27 _
 have h1:=H.below b1;have HCK:=Lq (check68_any A C ms cs W1.heap.size cap capc W1 (Nat.le_refl _) h1.sl h1.ch h1.wf);have HTX : Hid (∀ W,BW W1 W → Calls Tryz.prog 79 #[.agg #[.slice A ms.length cap,.slice C cs.length capc]] W (Rt W (.string ⟨(textT (psOf ms) (csOf cs)).toArray⟩))):=Lq fun W hb=>text79_any A C cap capc ms cs W (h1.below hb) (ht.below (belowT b1 hb) (Nat.le_refl _)) hp hc hpl hcl
 have HB1:=Lq b1;have HQ1:=Lq q1;have HOK:=Lq hok;have d0:=q1.c 0;have d1:=q1.c 1;obtain ⟨X,hX⟩:=ex (⟨(textT (psOf ms) (csOf cs)).toArray⟩ : ByteArray);rw [hX] at HTX;have HX:=Lq hX;clear H hok ht hp hc hpl hcl b1 q1 h1 hX;go_enter Tryz.func28,Tryz.ntmps28
 go_wp2_with fail
 refine HCK.out.mono ?_;rintro e w2 ⟨p,i,r,rfl,hr,hb⟩;obtain rfl:=hr.2 HOK.out;have HB2:=Lq hb;have q2:=HQ1.out.keep hb;have e0:=q2.c 0;have e1:=q2.c 1;clear hb hr q2 d0 d1;go_wp2_with fail
 refine (HTX.out _ HB2.out).mono ?_;rintro e w3 ⟨rfl,hb⟩;have HB3:=Lq (belowT HB1.out (belowT HB2.out hb));clear hb;go_wp2_with fail
 go_ret2
 rw [HX.out];exact ⟨rfl,HB3.out⟩
theorem must82_any (w : World) : Calls Tryz.prog 82 #[.bool true] w fun e w'=>e = .returned (.tuple #[]) ∧ w' = w:=by
 go_enter Tryz.func82,Tryz.ntmps82
 go_wp2_with fail
 exact ⟨rfl,.tuple #[],by simp [results,Tryz.results82,go_sem],rfl,rfl⟩
theorem cut81_any (s sep : ByteArray) (m : Int) (w : World) (hs : s.size < 4294967281) (hm : w.cell? ⟨0,0,none⟩ = some (.int .i64 m)) :
  Calls Tryz.prog 81 #[.string s,.string sep] w (Rt w (.tuple #[.string ⟨(Lib.cut s.data.toList sep.data.toList).1.toArray⟩,.string ⟨(Lib.cut s.data.toList sep.data.toList).2.1.toArray⟩,.bool (Lib.cut s.data.toList sep.data.toList).2.2])):=by
 refine (Tryz.strings_Cut s sep m w hs hm).mono ?_;rintro e w' ⟨rfl,n,rfl⟩;exact ⟨rfl,⟨rfl,rfl,rfl,Nat.le_refl _,fun _ _=>rfl⟩⟩
structure WdAt (w : World) (g : Nat) (A : Option Addr) (c : Nat) (l : List ByteArray) : Prop where
 blk : Blk w g 168 #[.slice A l.length c]
 rd : Rd1 .string w g A l
 le : l.length ≤ c
 here : ∀ a,A = some a → a.block + 1 = g
 max : c ≤ maxLen
theorem WdAt.same {l : List ByteArray} (h : WdAt w g A c l) (hk : ∀ k,k ≤ g → W.heap[k]? = w.heap[k]?) : WdAt W g A c l:=by
 refine ⟨h.blk.same (hk g (Nat.le_refl _)),fun i x hx=>?_,h.le,h.here,h.max⟩
 obtain ⟨b,off,e,hlt,hc⟩:=h.rd i x hx;exact ⟨b,off,e,hlt,(World.cell?_of_block (w:=w) (a:=⟨b,_,none⟩) (hk b (Nat.le_of_lt hlt))).trans hc⟩
theorem WdAt.below {l : List ByteArray} (h : WdAt w g A c l) (hb : BW w W) : WdAt W g A c l:=h.same fun k hk=>hb.block k (Nat.lt_of_le_of_lt hk h.blk.lt)
theorem next84_any (g c : Nat) (A : Option Addr) (x : ByteArray) (l : List ByteArray) (w : World) (H : WdAt w g A c (x::l)) :
  Calls Tryz.prog 84 #[.pointer (some ⟨g,0,none⟩)] w fun e w'=>e = .returned (.string x) ∧ OnlyAt w w' g ∧ ∃ A' c',WdAt w' g A' c' l:=by
 obtain ⟨bk,o,rfl,hbk,hcx⟩:=H.rd 0 x rfl;have hcx : w.cell? ⟨bk,o,none⟩ = some (.string x):=hcx;have d0:=H.blk.c 0;have f0:=H.blk.frozen 0;have l0:=H.blk.lt;have hl : 0 < (x::l).length:=by simp
 have hle:=H.le;obtain ⟨n,hn⟩:=ex (x::l).length;rw [hn] at d0 hl hle;have HN:=Lq hn;have HH:=Lq H;clear H hn;have hn1 : (n : Int) - 1 = ((n - 1 : Nat) : Int):=by omega
 have hn0 : n - 1 = l.length:=by rw [← HN.out]; rfl
 have HN0:=Lq hn0;clear hn0 hn1;go_enter Tryz.func84,Tryz.ntmps84
 go_wp2_with fail
 refine (must82_any _).mono ?_;rintro e w2 ⟨rfl,rfl⟩;by_cases hc1 : c = 1
 ·subst hc1;obtain rfl : n = 1:=by omega
  go_wp2_with fail
  go_ret
  have hl0 : l = []:=List.length_eq_zero_iff.1 HN0.out.symm;subst hl0;have hb:=HH.out.blk.set_ 0 (.slice (some ⟨bk,o,none⟩) 0 0);refine ⟨rfl,OnlyAt.of_set (belowR _) g 0 _,_,_,⟨hb,fun i x hx=>(by cases hx),Nat.le_refl _,HH.out.here,Nat.zero_le _⟩⟩
 ·go_wp2_with fail
  go_ret
  have hb:=HH.out.blk.set_ 0 (.slice (some ⟨bk,o + 1,none⟩) (n - 1) (c - 1));refine ⟨rfl,OnlyAt.of_set (belowR _) g 0 _,some ⟨bk,o + 1,none⟩,c - 1,⟨?_,fun i y hy=>?_, ?_,fun a ha=>by injection ha with ha; subst ha; exact HH.out.here ⟨bk,o,none⟩ rfl,Nat.le_trans (Nat.sub_le _ _) HH.out.max⟩⟩
  ·rw [← HN0.out];exact hb
  ·obtain ⟨b',o',e,hlt,hc⟩:=HH.out.rd (i + 1) y hy;injection e with e
   injection e with e1 e2
   subst e1 e2;refine ⟨bk,o + 1,rfl,hbk, ?_⟩;rw [show o + 1 + i = o + (i + 1) by omega]
   exact keepSet hc (show bk ≠ g by omega)
  ·rw [← HN0.out]; omega
structure NumW (x : ByteArray) (n : Int) : Prop where
 sz : x.size ≤ 18
 at' : Lib.atoi x.data.toList = some n
theorem number122_any (g c : Nat) (A : Option Addr) (x : ByteArray) (n : Int) (l : List ByteArray) (w : World) (H : WdAt w g A c (x::l)) (hx : NumW x n) :
  Calls Tryz.prog 122 #[.pointer (some ⟨g,0,none⟩)] w fun e w'=>e = .returned (iv n) ∧ OnlyAt w w' g ∧ ∃ A' c',WdAt w' g A' c' l:=by
 have HNX:=Lq (next84_any g c A x l w H);have HX:=Lq hx;have HH:=Lq H;clear H hx;have q199 : ∀ w : World,(binOp .eql 199 .nilIface .nilIface).run Tryz.prog w = .ok (.bool true) w:=fun w=>by simp [go_sem]
 go_enter Tryz.func122,Tryz.ntmps122
 go_wp2_with fail
 refine HNX.out.mono ?_;rintro e w2 ⟨rfl,ho,A',c',hw⟩;have HO:=Lq ho;have HW:=Lq hw;clear ho hw;go_wp2_with fail
 refine (Tryz.strconv_Atoi x n HX.out.sz HX.out.at' w2).mono ?_;rintro e w3 ⟨rfl,t,hw3⟩;have HB3 : Hid (BW w2 w3):=Lq (by rw [hw3]; exact Go.Joins.below_bytesWorld _ _ _ _ (Nat.le_refl _))
 clear hw3;go_wp2_with fail
 refine (must82_any _).mono ?_;rintro e w4 ⟨rfl,rfl⟩;go_wp2_with fail
 go_ret
 exact ⟨rfl,HO.out.join (OnlyAt.of_below HB3.out g),A',c',HW.out.below HB3.out⟩
structure KindW (x : ByteArray) (k : Nat) : Prop where
 lt : k < 5
 at' : Lib.idxOfS kindNm x = (k : Int)
structure PartW (p : HuP) (nm kw w1 w2 w3 w4 : ByteArray) : Prop where
 nm : nm = p.name
 kind : ∃ k : Nat,KindW kw k ∧ p.kind = (k : Int) + 1
 n1 : NumW w1 p.first
 n2 : NumW w2 p.last
 n3 : NumW w3 p.wlo
 n4 : NumW w4 p.whi
def TakenPost (g : Nat) (p : HuP) (w : World) (e : Ending) (w' : World) : Prop:=∃ A c,e = .returned (.agg #[.string p.name,iv p.kind,iv p.first,iv p.last,.slice A p.on.length c,iv p.wlo,iv p.whi]) ∧ OnlyAt w w' g ∧ WdAt w' g A c p.on
structure Taking (w W : World) (g t : Nat) (ty : TypeId) (A : Option Addr) (c : Nat) (l : List ByteArray) (cs : Array Value) : Prop where
 only : OnlyAt w W g
 blk : Blk W t ty cs
 wd : WdAt W g A c l
theorem Taking.step {V : World} {ty : TypeId} {A' : Option Addr} {c' : Nat} {l l' : List ByteArray} (h : Taking w W g t ty A c l cs) (hg : g ≠ t) (ho : OnlyAt W V g) (hw : WdAt V g A' c' l') : Taking w V g t ty A' c' l' cs :=
 ⟨h.only.join ho,h.blk.same (ho.block t h.blk.lt (Ne.symm hg)),hw⟩
theorem Taking.put {ty : TypeId} {l : List ByteArray} (h : Taking w W g t ty A c l cs) (hg : g < t) (ht : w.heap.size = t) (i : Nat) (v : Value) : Taking w (W.setCell ⟨t,i,none⟩ v) g t ty A c l (cs.setIfInBounds i v):=by
 refine ⟨⟨h.only.os,h.only.tape,h.only.output,by simp only [World.size_setCell]; exact h.only.size,fun k hk hne=>(Below.heap_setCell W ⟨t,i,none⟩ v k (by simp only; omega)).trans (h.only.block k hk hne)⟩,h.blk.set_ i v,h.wd.same fun k hk=>Below.heap_setCell W ⟨t,i,none⟩ v k (by simp only; omega)⟩
theorem Taking.put7 {l : List ByteArray} {a0 a1 a2 a3 a4 a5 a6 : Value} (h : Taking w W g t 47 A c l #[a0,a1,a2,a3,a4,a5,a6]) (hg : g < t) (ht : w.heap.size = t) (b0 b1 b2 b3 b4 b5 b6 : Value) : Taking w (((((((W.setCell ⟨t,0,none⟩ b0).setCell ⟨t,1,none⟩ b1).setCell ⟨t,2,none⟩ b2).setCell ⟨t,3,none⟩ b3).setCell ⟨t,4,none⟩ b4).setCell ⟨t,5,none⟩ b5).setCell ⟨t,6,none⟩ b6) g t 47 A c l #[b0,b1,b2,b3,b4,b5,b6]:=by
 have k:=((((((h.put hg ht 0 b0).put hg ht 1 b1).put hg ht 2 b2).put hg ht 3 b3).put hg ht 4 b4).put hg ht 5 b5).put hg ht 6 b6;exact ⟨k.only,seven _ _ _ _ _ _ _ h.blk,k.wd⟩
theorem part85_any (g c : Nat) (A : Option Addr) (p : HuP) (nm kw w1 w2 w3 w4 : ByteArray) (w : World) (H : WdAt w g A c (nm::kw::w1::w2::w3::w4::p.on)) (hp : PartW p nm kw w1 w2 w3 w4) :
  Calls Tryz.prog 85 #[.pointer (some ⟨g,0,none⟩)] w (TakenPost g p w):=by
 obtain ⟨pn,pk,pf,pl,pon,pw,pz⟩:=p;obtain ⟨rfl,⟨k,⟨hk5,hka⟩,hkd⟩,h1,h2,h3,h4⟩:=hp;simp only at hkd h1 h2 h3 h4 H;subst hkd;obtain ⟨W1,hW1⟩:=ex (w.alloc (.cells #[.string ⟨#[]⟩,.int .i64 0,.int .i64 0,.int .i64 0,.slice none 0 0,.int .i64 0,.int .i64 0] 47));have b1 : BW w W1:=by rw [← hW1]; exact belowA (belowR w) _
 have q1 : Blk W1 w.heap.size 47 #[.string ⟨#[]⟩,.int .i64 0,.int .i64 0,.int .i64 0,.slice none 0 0,.int .i64 0,.int .i64 0]:=by rw [← hW1]; exact Blk.new w 47 _
 have hgl:=H.blk.lt;obtain ⟨t,ht⟩:=ex w.heap.size;rw [ht] at q1 hgl;have HN1:=Lq (next84_any g c A nm _ W1 (H.below b1));have hT0 : Taking w W1 g t 47 A c (nm::kw::w1::w2::w3::w4::pon) #[.string ⟨#[]⟩,.int .i64 0,.int .i64 0,.int .i64 0,.slice none 0 0,.int .i64 0,.int .i64 0]:=⟨OnlyAt.of_below b1 g,q1,H.below b1⟩;have HT0:=Lq hT0;have HTT : Hid (w.heap.size = t):=Lq ht;have HP1:=Lq h1;have HP2:=Lq h2;have HP3:=Lq h3;have HP4:=Lq h4;have HK:=Lq hka;have HKL:=Lq hk5;clear H b1 q1 h1 h2 h3 h4 hka hk5 hT0;go_enter Tryz.func85,Tryz.ntmps85
 go_wp2_with fail
 clear hW1 ht;refine HN1.out.mono ?_;rintro e v1 ⟨rfl,ho,A1,c1,hw⟩;have T1:=HT0.out.step (by omega) ho hw
 have f1:=T1.blk.frozen 0;have x1:=T1.blk.c 0;have l1:=T1.blk.lt;have hT1:=T1.put (by omega) HTT.out 0 (.string nm)
 obtain ⟨V1,hV1⟩:=ex (v1.setCell ⟨t,0,none⟩ (.string nm));rw [hV1] at hT1;have HT1 : Hid (Taking w V1 g t 47 A1 c1 (kw::w1::w2::w3::w4::pon) #[.string nm,.int .i64 0,.int .i64 0,.int .i64 0,.slice none 0 0,.int .i64 0,.int .i64 0]):=Lq hT1;clear ho hw hT1;go_wp2_with fail
 refine (kinds121_any _).mono ?_;rintro e v2 ⟨rfl,hv2⟩;have hb2 : BW V1 v2:=by rw [hv2]; exact belowA (belowR V1) _
 have hq2 : Blk v2 V1.heap.size 9 (kindNm.map .string).toArray:=by rw [hv2]; exact Blk.new V1 9 _
 obtain ⟨gk,hgk⟩:=ex V1.heap.size;rw [hgk] at hq2;have hgk' : t < gk:=by have:=HT1.out.blk.lt; omega
 have HN2:=Lq (next84_any g c1 A1 kw _ v2 (HT1.out.wd.below hb2));have HT2:=Lq (HT1.out.step (by omega) (OnlyAt.of_below hb2 g) (HT1.out.wd.below hb2))
 have HQ2:=Lq hq2
 (try simp only [hgk])
 clear hb2 hq2 hv2 f1 x1 l1 hV1 T1;go_wp2_with fail
 refine HN2.out.mono ?_;rintro e v3 ⟨rfl,ho,A2,c2,hw⟩;have HT3:=Lq (HT2.out.step (by omega) ho hw)
 have hq3 : Blk v3 gk 9 (kindNm.map .string).toArray:=HQ2.out.same (ho.block gk HQ2.out.lt (by omega))
 have HIX:=Lq (Tryz.slices_Index_string gk 0 5 5 kindNm kw v3 (by decide) (by decide) (fun j hj=>by
  have hj5 : j < 5:=hj;rw [Nat.zero_add,hq3.cell];rcases (show j = 0 ∨ j = 1 ∨ j = 2 ∨ j = 3 ∨ j = 4 by omega) with rfl | rfl | rfl | rfl | rfl <;> rfl))
 rw [show kindNm.take 5 = kindNm from rfl,HK.out] at HIX
 clear ho hw hq3;go_wp2_with fail
 refine HIX.out.mono ?_;rintro e v4 ⟨rfl,hv4⟩;subst hv4;have hk0 : (0 : Int) ≤ (k : Int):=by omega
 have hk5 : (k : Int) < 5:=by have:=HKL.out; omega
 go_wp2_with fail
 refine (must82_any _).mono ?_;rintro e v5 ⟨rfl,hv5⟩;subst hv5;have f1:=HT3.out.blk.frozen 1;have x1:=HT3.out.blk.c 1;have l1:=HT3.out.blk.lt;have hT4:=HT3.out.put (by omega) HTT.out 1 (iv ((k : Int) + 1))
 have hwk : IntKind.i64.wrap ((k : Int) + 1) = (k : Int) + 1:=by rw [IntKind.wrap_i64]; omega
 obtain ⟨V4,hV4⟩:=ex (v5.setCell ⟨t,1,none⟩ (iv ((k : Int) + 1)));rw [hV4] at hT4;have HT4 : Hid (Taking w V4 g t 47 A2 c2 (w1::w2::w3::w4::pon) #[.string nm,iv ((k : Int) + 1),.int .i64 0,.int .i64 0,.slice none 0 0,.int .i64 0,.int .i64 0]):=Lq hT4;have HM4:=Lq (number122_any g c2 A2 w1 pf _ V4 HT4.out.wd HP1.out);clear hT4;go_wp2_with fail
 clear f1 x1 l1 hV4;refine HM4.out.mono ?_;rintro e v6 ⟨rfl,ho,A3,c3,hw⟩;have T1:=HT4.out.step (by omega) ho hw
 have f1:=T1.blk.frozen 2;have x1:=T1.blk.c 2;have l1:=T1.blk.lt;have hT1:=T1.put (by omega) HTT.out 2 (iv pf)
 obtain ⟨V5,hV5⟩:=ex (v6.setCell ⟨t,2,none⟩ (iv pf));rw [hV5] at hT1;have HT5 : Hid (Taking w V5 g t 47 A3 c3 (w2::w3::w4::pon) #[.string nm,iv ((k : Int) + 1),iv pf,.int .i64 0,.slice none 0 0,.int .i64 0,.int .i64 0]):=Lq hT1;have HM5:=Lq (number122_any g c3 A3 w2 pl _ V5 HT5.out.wd HP2.out);clear ho hw hT1;go_wp2_with fail
 clear f1 x1 l1 hV5 T1;refine HM5.out.mono ?_;rintro e v7 ⟨rfl,ho,A4,c4,hw⟩;have T1:=HT5.out.step (by omega) ho hw
 have f1:=T1.blk.frozen 3;have x1:=T1.blk.c 3;have l1:=T1.blk.lt;have hT1:=T1.put (by omega) HTT.out 3 (iv pl)
 obtain ⟨V6,hV6⟩:=ex (v7.setCell ⟨t,3,none⟩ (iv pl));rw [hV6] at hT1;have HT6 : Hid (Taking w V6 g t 47 A4 c4 (w3::w4::pon) #[.string nm,iv ((k : Int) + 1),iv pf,iv pl,.slice none 0 0,.int .i64 0,.int .i64 0]):=Lq hT1;have HM6:=Lq (number122_any g c4 A4 w3 pw _ V6 HT6.out.wd HP3.out);clear ho hw hT1;go_wp2_with fail
 clear f1 x1 l1 hV6 T1;refine HM6.out.mono ?_;rintro e v8 ⟨rfl,ho,A5,c5,hw⟩;have T1:=HT6.out.step (by omega) ho hw
 have f1:=T1.blk.frozen 5;have x1:=T1.blk.c 5;have l1:=T1.blk.lt;have hT1:=T1.put (by omega) HTT.out 5 (iv pw)
 obtain ⟨V7,hV7⟩:=ex (v8.setCell ⟨t,5,none⟩ (iv pw));rw [hV7] at hT1;have HT7 : Hid (Taking w V7 g t 47 A5 c5 (w4::pon) #[.string nm,iv ((k : Int) + 1),iv pf,iv pl,.slice none 0 0,iv pw,.int .i64 0]):=Lq hT1;have HM7:=Lq (number122_any g c5 A5 w4 pz _ V7 HT7.out.wd HP4.out);clear ho hw hT1;go_wp2_with fail
 clear f1 x1 l1 hV7 T1;refine HM7.out.mono ?_;rintro e v9 ⟨rfl,ho,A6,c6,hw⟩;have T1:=HT7.out.step (by omega) ho hw
 have f1:=T1.blk.frozen 6;have x1:=T1.blk.c 6;have l1:=T1.blk.lt;have hT1:=T1.put (by omega) HTT.out 6 (iv pz)
 obtain ⟨V8,hV8⟩:=ex (v9.setCell ⟨t,6,none⟩ (iv pz));rw [hV8] at hT1;have HT8 : Hid (Taking w V8 g t 47 A6 c6 (pon) #[.string nm,iv ((k : Int) + 1),iv pf,iv pl,.slice none 0 0,iv pw,iv pz]):=Lq hT1;clear ho hw hT1;have hw:=HT8.out.wd;have d0:=HT8.out.wd.blk.c 0;have f4:=HT8.out.blk.frozen 4;have x4:=HT8.out.blk.c 4;have l4:=HT8.out.blk.lt;have hT9:=HT8.out.put (by omega) HTT.out 4 (.slice A6 pon.length c6)
 obtain ⟨V9,hV9⟩:=ex (V8.setCell ⟨t,4,none⟩ (.slice A6 pon.length c6));rw [hV9] at hT9;have HT9 : Hid (Taking w V9 g t 47 A6 c6 pon #[.string nm,iv ((k : Int) + 1),iv pf,iv pl,.slice A6 pon.length c6,iv pw,iv pz]):=Lq hT9;have HTA:=Lq (HT9.out.put7 (by omega) HTT.out (.string nm) (iv ((k : Int) + 1)) (iv pf) (iv pl) (.slice A6 pon.length c6) (iv pw) (iv pz))
 obtain ⟨i0,i1,i2,i3,i4,i5,i6⟩:=HT9.out.blk.c7;obtain ⟨g0,g1,g2,g3,g4,g5,g6⟩:=HT9.out.blk.f7;have l9:=HT9.out.blk.lt;obtain ⟨VA,hVA⟩:=ex (((((((V9.setCell ⟨t,0,none⟩ (.string nm)).setCell ⟨t,1,none⟩ (iv ((k : Int) + 1))).setCell ⟨t,2,none⟩ (iv pf)).setCell ⟨t,3,none⟩ (iv pl)).setCell ⟨t,4,none⟩ (.slice A6 pon.length c6)).setCell ⟨t,5,none⟩ (iv pw)).setCell ⟨t,6,none⟩ (iv pz));rw [hVA] at HTA;obtain ⟨y0,y1,y2,y3,y4,y5,y6⟩:=HTA.out.blk.c7;clear hT9 hw;go_wp2_with fail
 exact bodyPost_ret (v:=.agg #[.string nm,iv ((k : Int) + 1),iv pf,iv pl,.slice A6 pon.length c6,iv pw,iv pz]) (by simp [results,Tryz.results85,go_sem,y0,y1,y2,y3,y4,y5,y6]) rfl ⟨A6,c6,rfl,HTA.out.only,HTA.out.wd⟩
end
attribute [local go_sem] Oper.semAt_some
theorem Taking.put10 {w W : World} {g t : Nat} {A : Option Addr} {c : Nat} {l : List ByteArray} {a0 a1 a2 a3 a4 a5 a6 a7 a8 a9 : Value} (h : Taking w W g t 49 A c l #[a0,a1,a2,a3,a4,a5,a6,a7,a8,a9]) (hg : g < t) (ht : w.heap.size = t) (b0 b1 b2 b3 b4 b5 b6 b7 b8 b9 : Value) : Taking w ((((((((((W.setCell ⟨t,0,none⟩ b0).setCell ⟨t,1,none⟩ b1).setCell ⟨t,2,none⟩ b2).setCell ⟨t,3,none⟩ b3).setCell ⟨t,4,none⟩ b4).setCell ⟨t,5,none⟩ b5).setCell ⟨t,6,none⟩ b6).setCell ⟨t,7,none⟩ b7).setCell ⟨t,8,none⟩ b8).setCell ⟨t,9,none⟩ b9) g t 49 A c l #[b0,b1,b2,b3,b4,b5,b6,b7,b8,b9]:=by
 have k:=((((((((((h.put hg ht 0 b0).put hg ht 1 b1).put hg ht 2 b2).put hg ht 3 b3).put hg ht 4 b4).put hg ht 5 b5).put hg ht 6 b6).put hg ht 7 b7).put hg ht 8 b8).put hg ht 9 b9);exact ⟨k.only,ten _ _ _ _ _ _ _ _ _ _ h.blk,k.wd⟩
def ChgdPost (g : Nat) (wh dy : Int) (nm : ByteArray) (p : HuP) (w : World) (e : Ending) (w' : World) : Prop:=∃ A c,e = .returned (.agg #[iv wh,iv dy,.string nm,.string p.name,iv p.kind,iv p.first,iv p.last,.slice A p.on.length c,iv p.wlo,iv p.whi]) ∧ OnlyAt w w' g ∧ Rd1 .string w' g A p.on ∧ p.on.length ≤ c ∧ (∀ a,A = some a → a.block + 1 = g) ∧ c ≤ maxLen
theorem change86_add (g c : Nat) (A : Option Addr) (dy : Int) (pn : ByteArray) (pk pf pl pw pz : Int) (pon : List ByteArray) (nm kw w1 w2 w3 w4 : ByteArray) (dw : ByteArray) (w : World) (H : WdAt w g A c (dw::sAdd::nm::kw::w1::w2::w3::w4::pon)) (hd : NumW dw dy) (hp : PartW ⟨pn,pk,pf,pl,pon,pw,pz⟩ nm kw w1 w2 w3 w4) :
  Calls Tryz.prog 86 #[.pointer (some ⟨g,0,none⟩)] w (ChgdPost g 1 dy ⟨#[]⟩ ⟨pn,pk,pf,pl,pon,pw,pz⟩ w):=by
 have HP:=Lq hp;clear hp;obtain ⟨W1,hW1⟩:=ex (w.alloc (.cells #[.int .i64 0,.int .i64 0,.string ⟨#[]⟩,.string ⟨#[]⟩,.int .i64 0,.int .i64 0,.int .i64 0,.slice none 0 0,.int .i64 0,.int .i64 0] 49));have b1 : BW w W1:=by rw [← hW1]; exact belowA (belowR w) _
 have q1 : Blk W1 w.heap.size 49 #[.int .i64 0,.int .i64 0,.string ⟨#[]⟩,.string ⟨#[]⟩,.int .i64 0,.int .i64 0,.int .i64 0,.slice none 0 0,.int .i64 0,.int .i64 0]:=by rw [← hW1]; exact Blk.new w 49 _
 have hgl:=H.blk.lt;obtain ⟨t,ht⟩:=ex w.heap.size;rw [ht] at q1 hgl;have HN1:=Lq (number122_any g c A dw dy _ W1 (H.below b1) hd);have hT0 : Taking w W1 g t 49 A c (dw::sAdd::nm::kw::w1::w2::w3::w4::pon) #[.int .i64 0,.int .i64 0,.string ⟨#[]⟩,.string ⟨#[]⟩,.int .i64 0,.int .i64 0,.int .i64 0,.slice none 0 0,.int .i64 0,.int .i64 0]:=⟨OnlyAt.of_below b1 g,q1,H.below b1⟩;have HT0:=Lq hT0;have HTT : Hid (w.heap.size = t):=Lq ht;clear H b1 q1 hT0 hd;go_enter Tryz.func86,Tryz.ntmps86
 go_wp2_with fail
 clear hW1 ht;refine HN1.out.mono ?_;rintro e v1 ⟨rfl,ho,A1,c1,hw⟩;have T1:=HT0.out.step (by omega) ho hw
 have HS1:=Lq T1;have f1:=T1.blk.frozen 1;have x1:=T1.blk.c 1;have l1:=T1.blk.lt;have hT1:=(T1.put (by omega) HTT.out 1 (iv dy))
 obtain ⟨V1,hV1⟩:=ex (v1.setCell ⟨t,1,none⟩ (iv dy));rw [hV1] at hT1;have HT1 : Hid (Taking w V1 g t 49 A1 c1 (sAdd::nm::kw::w1::w2::w3::w4::pon) #[.int .i64 0,iv dy,.string ⟨#[]⟩,.string ⟨#[]⟩,.int .i64 0,.int .i64 0,.int .i64 0,.slice none 0 0,.int .i64 0,.int .i64 0]):=Lq hT1;clear ho hw hT1;have HN2:=Lq (next84_any g c1 A1 sAdd _ V1 HT1.out.wd);clear T1;go_wp2_with fail
 clear f1 x1 l1 hV1;refine HN2.out.mono ?_;rintro e v2 ⟨rfl,ho,A2,c2,hw⟩;have HT2:=Lq (HT1.out.step (by omega) ho hw)
 have HP2:=Lq (part85_any g c2 A2 ⟨pn,pk,pf,pl,pon,pw,pz⟩ nm kw w1 w2 w3 w4 v2 hw HP.out);clear ho hw;go_wp2_with fail
 refine HP2.out.mono ?_;rintro e v3 ⟨A3,c3,rfl,ho,hw⟩;have T1:=HT2.out.step (by omega) ho hw
 have HS3:=Lq T1;have f0:=T1.blk.frozen 0;have x0:=T1.blk.c 0;have f3:=T1.blk.frozen 3;have x3:=T1.blk.c 3;have f4:=T1.blk.frozen 4;have x4:=T1.blk.c 4;have f5:=T1.blk.frozen 5;have x5:=T1.blk.c 5;have f6:=T1.blk.frozen 6;have x6:=T1.blk.c 6;have f7:=T1.blk.frozen 7;have x7:=T1.blk.c 7;have f8:=T1.blk.frozen 8;have x8:=T1.blk.c 8;have f9:=T1.blk.frozen 9;have x9:=T1.blk.c 9;have l1:=T1.blk.lt;have hT1:=((((((((T1.put (by omega) HTT.out 0 (iv 1)).put (by omega) HTT.out 3 (.string pn)).put (by omega) HTT.out 4 (iv pk)).put (by omega) HTT.out 5 (iv pf)).put (by omega) HTT.out 6 (iv pl)).put (by omega) HTT.out 7 (.slice A3 pon.length c3)).put (by omega) HTT.out 8 (iv pw)).put (by omega) HTT.out 9 (iv pz))
 obtain ⟨V3,hV3⟩:=ex ((((((((v3.setCell ⟨t,0,none⟩ (iv 1)).setCell ⟨t,3,none⟩ (.string pn)).setCell ⟨t,4,none⟩ (iv pk)).setCell ⟨t,5,none⟩ (iv pf)).setCell ⟨t,6,none⟩ (iv pl)).setCell ⟨t,7,none⟩ (.slice A3 pon.length c3)).setCell ⟨t,8,none⟩ (iv pw)).setCell ⟨t,9,none⟩ (iv pz));rw [hV3] at hT1;have HT3 : Hid (Taking w V3 g t 49 A3 c3 (pon) #[iv 1,iv dy,.string ⟨#[]⟩,.string pn,iv pk,iv pf,iv pl,.slice A3 pon.length c3,iv pw,iv pz]):=Lq hT1;clear ho hw hT1;have HTA:=Lq (HT3.out.put10 (by omega) HTT.out (iv 1) (iv dy) (.string ⟨#[]⟩) (.string pn) (iv pk) (iv pf) (iv pl) (.slice A3 pon.length c3) (iv pw) (iv pz))
 obtain ⟨i0,i1,i2,i3,i4,i5,i6,i7,i8,i9⟩:=HT3.out.blk.c10;obtain ⟨g0,g1,g2,g3,g4,g5,g6,g7,g8,g9⟩:=HT3.out.blk.f10;have l9:=HT3.out.blk.lt;obtain ⟨VA,hVA⟩:=ex ((((((((((V3.setCell ⟨t,0,none⟩ (iv 1)).setCell ⟨t,1,none⟩ (iv dy)).setCell ⟨t,2,none⟩ (.string ⟨#[]⟩)).setCell ⟨t,3,none⟩ (.string pn)).setCell ⟨t,4,none⟩ (iv pk)).setCell ⟨t,5,none⟩ (iv pf)).setCell ⟨t,6,none⟩ (iv pl)).setCell ⟨t,7,none⟩ (.slice A3 pon.length c3)).setCell ⟨t,8,none⟩ (iv pw)).setCell ⟨t,9,none⟩ (iv pz));rw [hVA] at HTA;obtain ⟨y0,y1,y2,y3,y4,y5,y6,y7,y8,y9⟩:=HTA.out.blk.c10;go_wp2_with fail
 exact bodyPost_ret (v:=.agg #[iv 1,iv dy,.string ⟨#[]⟩,.string pn,iv pk,iv pf,iv pl,.slice A3 pon.length c3,iv pw,iv pz]) (by simp [results,Tryz.results86,go_sem,y0,y1,y2,y3,y4,y5,y6,y7,y8,y9]) rfl ⟨A3,c3,rfl,HTA.out.only,HTA.out.wd.rd,HTA.out.wd.le,HTA.out.wd.here,HTA.out.wd.max⟩
theorem change86_take (g c : Nat) (A : Option Addr) (dy : Int) (nm : ByteArray) (dw : ByteArray) (w : World) (H : WdAt w g A c [dw,sTake,nm]) (hd : NumW dw dy) :
  Calls Tryz.prog 86 #[.pointer (some ⟨g,0,none⟩)] w (ChgdPost g 2 dy nm ⟨⟨#[]⟩,0,0,0,[],0,0⟩ w):=by
 obtain ⟨W1,hW1⟩:=ex (w.alloc (.cells #[.int .i64 0,.int .i64 0,.string ⟨#[]⟩,.string ⟨#[]⟩,.int .i64 0,.int .i64 0,.int .i64 0,.slice none 0 0,.int .i64 0,.int .i64 0] 49));have b1 : BW w W1:=by rw [← hW1]; exact belowA (belowR w) _
 have q1 : Blk W1 w.heap.size 49 #[.int .i64 0,.int .i64 0,.string ⟨#[]⟩,.string ⟨#[]⟩,.int .i64 0,.int .i64 0,.int .i64 0,.slice none 0 0,.int .i64 0,.int .i64 0]:=by rw [← hW1]; exact Blk.new w 49 _
 have hgl:=H.blk.lt;obtain ⟨t,ht⟩:=ex w.heap.size;rw [ht] at q1 hgl;have HN1:=Lq (number122_any g c A dw dy _ W1 (H.below b1) hd);have hT0 : Taking w W1 g t 49 A c ([dw,sTake,nm]) #[.int .i64 0,.int .i64 0,.string ⟨#[]⟩,.string ⟨#[]⟩,.int .i64 0,.int .i64 0,.int .i64 0,.slice none 0 0,.int .i64 0,.int .i64 0]:=⟨OnlyAt.of_below b1 g,q1,H.below b1⟩;have HT0:=Lq hT0;have HTT : Hid (w.heap.size = t):=Lq ht;clear H b1 q1 hT0 hd;go_enter Tryz.func86,Tryz.ntmps86
 go_wp2_with fail
 clear hW1 ht;refine HN1.out.mono ?_;rintro e v1 ⟨rfl,ho,A1,c1,hw⟩;have T1:=HT0.out.step (by omega) ho hw
 have HS1:=Lq T1;have f1:=T1.blk.frozen 1;have x1:=T1.blk.c 1;have l1:=T1.blk.lt;have hT1:=(T1.put (by omega) HTT.out 1 (iv dy))
 obtain ⟨V1,hV1⟩:=ex (v1.setCell ⟨t,1,none⟩ (iv dy));rw [hV1] at hT1;have HT1 : Hid (Taking w V1 g t 49 A1 c1 ([sTake,nm]) #[.int .i64 0,iv dy,.string ⟨#[]⟩,.string ⟨#[]⟩,.int .i64 0,.int .i64 0,.int .i64 0,.slice none 0 0,.int .i64 0,.int .i64 0]):=Lq hT1;clear ho hw hT1;have HN2:=Lq (next84_any g c1 A1 sTake _ V1 HT1.out.wd);clear T1;go_wp2_with fail
 clear f1 x1 l1 hV1;refine HN2.out.mono ?_;rintro e v2 ⟨rfl,ho,A2,c2,hw⟩;have HT2:=Lq (HT1.out.step (by omega) ho hw)
 have HN3:=Lq (next84_any g c2 A2 nm _ v2 hw);clear ho hw;go_wp2_with fail
 refine HN3.out.mono ?_;rintro e v3 ⟨rfl,ho,A3,c3,hw⟩;have T1:=HT2.out.step (by omega) ho hw
 have HS3:=Lq T1;have f0:=T1.blk.frozen 0;have x0:=T1.blk.c 0;have f2:=T1.blk.frozen 2;have x2:=T1.blk.c 2;have l1:=T1.blk.lt;have hT1:=((T1.put (by omega) HTT.out 0 (iv 2)).put (by omega) HTT.out 2 (.string nm))
 obtain ⟨V3,hV3⟩:=ex ((v3.setCell ⟨t,0,none⟩ (iv 2)).setCell ⟨t,2,none⟩ (.string nm));rw [hV3] at hT1;have HT3 : Hid (Taking w V3 g t 49 A3 c3 ([]) #[iv 2,iv dy,.string nm,.string ⟨#[]⟩,.int .i64 0,.int .i64 0,.int .i64 0,.slice none 0 0,.int .i64 0,.int .i64 0]):=Lq hT1;clear ho hw hT1;have d0:=HT3.out.wd.blk.c 0;go_wp2_with fail
 refine (must82_any _).mono ?_;rintro e v ⟨rfl,hv⟩;replace hv:=hv.symm;subst hv;clear f0 x0 f2 x2 l1 hV3 T1;have HTA:=Lq (HT3.out.put10 (by omega) HTT.out (iv 2) (iv dy) (.string nm) (.string ⟨#[]⟩) (.int .i64 0) (.int .i64 0) (.int .i64 0) (.slice none 0 0) (.int .i64 0) (.int .i64 0))
 obtain ⟨i0,i1,i2,i3,i4,i5,i6,i7,i8,i9⟩:=HT3.out.blk.c10;obtain ⟨g0,g1,g2,g3,g4,g5,g6,g7,g8,g9⟩:=HT3.out.blk.f10;have l9:=HT3.out.blk.lt;obtain ⟨VA,hVA⟩:=ex ((((((((((V3.setCell ⟨t,0,none⟩ (iv 2)).setCell ⟨t,1,none⟩ (iv dy)).setCell ⟨t,2,none⟩ (.string nm)).setCell ⟨t,3,none⟩ (.string ⟨#[]⟩)).setCell ⟨t,4,none⟩ (.int .i64 0)).setCell ⟨t,5,none⟩ (.int .i64 0)).setCell ⟨t,6,none⟩ (.int .i64 0)).setCell ⟨t,7,none⟩ (.slice none 0 0)).setCell ⟨t,8,none⟩ (.int .i64 0)).setCell ⟨t,9,none⟩ (.int .i64 0));rw [hVA] at HTA;obtain ⟨y0,y1,y2,y3,y4,y5,y6,y7,y8,y9⟩:=HTA.out.blk.c10;go_wp2_with fail
 exact bodyPost_ret (v:=.agg #[iv 2,iv dy,.string nm,.string ⟨#[]⟩,.int .i64 0,.int .i64 0,.int .i64 0,.slice none 0 0,.int .i64 0,.int .i64 0]) (by simp [results,Tryz.results86,go_sem,y0,y1,y2,y3,y4,y5,y6,y7,y8,y9]) rfl ⟨none,0,rfl,HTA.out.only,fun _ _ h=>(by cases h),Nat.zero_le _,fun _ h=>(by cases h),Nat.zero_le _⟩
theorem change86_swap (g c : Nat) (A : Option Addr) (dy : Int) (pn : ByteArray) (pk pf pl pw pz : Int) (pon : List ByteArray) (nm kw w1 w2 w3 w4 : ByteArray) (old : ByteArray) (dw : ByteArray) (w : World) (H : WdAt w g A c (dw::sSwap::old::nm::kw::w1::w2::w3::w4::pon)) (hd : NumW dw dy) (hp : PartW ⟨pn,pk,pf,pl,pon,pw,pz⟩ nm kw w1 w2 w3 w4) :
  Calls Tryz.prog 86 #[.pointer (some ⟨g,0,none⟩)] w (ChgdPost g 3 dy old ⟨pn,pk,pf,pl,pon,pw,pz⟩ w):=by
 have HP:=Lq hp;clear hp;obtain ⟨W1,hW1⟩:=ex (w.alloc (.cells #[.int .i64 0,.int .i64 0,.string ⟨#[]⟩,.string ⟨#[]⟩,.int .i64 0,.int .i64 0,.int .i64 0,.slice none 0 0,.int .i64 0,.int .i64 0] 49));have b1 : BW w W1:=by rw [← hW1]; exact belowA (belowR w) _
 have q1 : Blk W1 w.heap.size 49 #[.int .i64 0,.int .i64 0,.string ⟨#[]⟩,.string ⟨#[]⟩,.int .i64 0,.int .i64 0,.int .i64 0,.slice none 0 0,.int .i64 0,.int .i64 0]:=by rw [← hW1]; exact Blk.new w 49 _
 have hgl:=H.blk.lt;obtain ⟨t,ht⟩:=ex w.heap.size;rw [ht] at q1 hgl;have HN1:=Lq (number122_any g c A dw dy _ W1 (H.below b1) hd);have hT0 : Taking w W1 g t 49 A c (dw::sSwap::old::nm::kw::w1::w2::w3::w4::pon) #[.int .i64 0,.int .i64 0,.string ⟨#[]⟩,.string ⟨#[]⟩,.int .i64 0,.int .i64 0,.int .i64 0,.slice none 0 0,.int .i64 0,.int .i64 0]:=⟨OnlyAt.of_below b1 g,q1,H.below b1⟩;have HT0:=Lq hT0;have HTT : Hid (w.heap.size = t):=Lq ht;clear H b1 q1 hT0 hd;go_enter Tryz.func86,Tryz.ntmps86
 go_wp2_with fail
 clear hW1 ht;refine HN1.out.mono ?_;rintro e v1 ⟨rfl,ho,A1,c1,hw⟩;have T1:=HT0.out.step (by omega) ho hw
 have HS1:=Lq T1;have f1:=T1.blk.frozen 1;have x1:=T1.blk.c 1;have l1:=T1.blk.lt;have hT1:=(T1.put (by omega) HTT.out 1 (iv dy))
 obtain ⟨V1,hV1⟩:=ex (v1.setCell ⟨t,1,none⟩ (iv dy));rw [hV1] at hT1;have HT1 : Hid (Taking w V1 g t 49 A1 c1 (sSwap::old::nm::kw::w1::w2::w3::w4::pon) #[.int .i64 0,iv dy,.string ⟨#[]⟩,.string ⟨#[]⟩,.int .i64 0,.int .i64 0,.int .i64 0,.slice none 0 0,.int .i64 0,.int .i64 0]):=Lq hT1;clear ho hw hT1;have HN2:=Lq (next84_any g c1 A1 sSwap _ V1 HT1.out.wd);clear T1;go_wp2_with fail
 clear f1 x1 l1 hV1;refine HN2.out.mono ?_;rintro e v2 ⟨rfl,ho,A2,c2,hw⟩;have HT2:=Lq (HT1.out.step (by omega) ho hw)
 have HN3:=Lq (next84_any g c2 A2 old _ v2 hw);clear ho hw;go_wp2_with fail
 refine HN3.out.mono ?_;rintro e v3 ⟨rfl,ho,A3,c3,hw⟩;have T1:=HT2.out.step (by omega) ho hw
 have HS3:=Lq T1;have f0:=T1.blk.frozen 0;have x0:=T1.blk.c 0;have f2:=T1.blk.frozen 2;have x2:=T1.blk.c 2;have l1:=T1.blk.lt;have hT1:=((T1.put (by omega) HTT.out 0 (iv 3)).put (by omega) HTT.out 2 (.string old))
 obtain ⟨V3,hV3⟩:=ex ((v3.setCell ⟨t,0,none⟩ (iv 3)).setCell ⟨t,2,none⟩ (.string old));rw [hV3] at hT1;have HT3 : Hid (Taking w V3 g t 49 A3 c3 (nm::kw::w1::w2::w3::w4::pon) #[iv 3,iv dy,.string old,.string ⟨#[]⟩,.int .i64 0,.int .i64 0,.int .i64 0,.slice none 0 0,.int .i64 0,.int .i64 0]):=Lq hT1;clear ho hw hT1;have HP4:=Lq (part85_any g c3 A3 ⟨pn,pk,pf,pl,pon,pw,pz⟩ nm kw w1 w2 w3 w4 V3 HT3.out.wd HP.out);clear T1;go_wp2_with fail
 clear f0 x0 f2 x2 l1 hV3;refine HP4.out.mono ?_;rintro e v5 ⟨A5,c5,rfl,ho,hw⟩;have T1:=HT3.out.step (by omega) ho hw
 have HS5:=Lq T1;have f3:=T1.blk.frozen 3;have x3:=T1.blk.c 3;have f4:=T1.blk.frozen 4;have x4:=T1.blk.c 4;have f5:=T1.blk.frozen 5;have x5:=T1.blk.c 5;have f6:=T1.blk.frozen 6;have x6:=T1.blk.c 6;have f7:=T1.blk.frozen 7;have x7:=T1.blk.c 7;have f8:=T1.blk.frozen 8;have x8:=T1.blk.c 8;have f9:=T1.blk.frozen 9;have x9:=T1.blk.c 9;have l1:=T1.blk.lt;have hT1:=(((((((T1.put (by omega) HTT.out 3 (.string pn)).put (by omega) HTT.out 4 (iv pk)).put (by omega) HTT.out 5 (iv pf)).put (by omega) HTT.out 6 (iv pl)).put (by omega) HTT.out 7 (.slice A5 pon.length c5)).put (by omega) HTT.out 8 (iv pw)).put (by omega) HTT.out 9 (iv pz))
 obtain ⟨V5,hV5⟩:=ex (((((((v5.setCell ⟨t,3,none⟩ (.string pn)).setCell ⟨t,4,none⟩ (iv pk)).setCell ⟨t,5,none⟩ (iv pf)).setCell ⟨t,6,none⟩ (iv pl)).setCell ⟨t,7,none⟩ (.slice A5 pon.length c5)).setCell ⟨t,8,none⟩ (iv pw)).setCell ⟨t,9,none⟩ (iv pz));rw [hV5] at hT1;have HT5 : Hid (Taking w V5 g t 49 A5 c5 (pon) #[iv 3,iv dy,.string old,.string pn,iv pk,iv pf,iv pl,.slice A5 pon.length c5,iv pw,iv pz]):=Lq hT1;clear ho hw hT1;have HTA:=Lq (HT5.out.put10 (by omega) HTT.out (iv 3) (iv dy) (.string old) (.string pn) (iv pk) (iv pf) (iv pl) (.slice A5 pon.length c5) (iv pw) (iv pz))
 obtain ⟨i0,i1,i2,i3,i4,i5,i6,i7,i8,i9⟩:=HT5.out.blk.c10;obtain ⟨g0,g1,g2,g3,g4,g5,g6,g7,g8,g9⟩:=HT5.out.blk.f10;have l9:=HT5.out.blk.lt;obtain ⟨VA,hVA⟩:=ex ((((((((((V5.setCell ⟨t,0,none⟩ (iv 3)).setCell ⟨t,1,none⟩ (iv dy)).setCell ⟨t,2,none⟩ (.string old)).setCell ⟨t,3,none⟩ (.string pn)).setCell ⟨t,4,none⟩ (iv pk)).setCell ⟨t,5,none⟩ (iv pf)).setCell ⟨t,6,none⟩ (iv pl)).setCell ⟨t,7,none⟩ (.slice A5 pon.length c5)).setCell ⟨t,8,none⟩ (iv pw)).setCell ⟨t,9,none⟩ (iv pz));rw [hVA] at HTA;obtain ⟨y0,y1,y2,y3,y4,y5,y6,y7,y8,y9⟩:=HTA.out.blk.c10;go_wp2_with fail
 exact bodyPost_ret (v:=.agg #[iv 3,iv dy,.string old,.string pn,iv pk,iv pf,iv pl,.slice A5 pon.length c5,iv pw,iv pz]) (by simp [results,Tryz.results86,go_sem,y0,y1,y2,y3,y4,y5,y6,y7,y8,y9]) rfl ⟨A5,c5,rfl,HTA.out.only,HTA.out.wd.rd,HTA.out.wd.le,HTA.out.wd.here,HTA.out.wd.max⟩
end Go.Proofs.YtpgfldcoojfheaaGreatDoor
