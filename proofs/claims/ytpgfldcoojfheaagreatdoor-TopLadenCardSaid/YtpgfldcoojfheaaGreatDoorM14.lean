/- tide: Check of a beach and a ship that are valid (printed by mkHT8.py). tide: Check of what is valid (printed by mkHT9.py). tide: beaches that are looked at: box, at, and whether she stops within the marks (printed by mkHT10.py). -/
import Derived.BigGuardPart
import Derived.Test.YtpgfldcoojfheaaGreatDoorM0
import Derived.Test.YtpgfldcoojfheaaGreatDoorM4
import Derived.Test.YtpgfldcoojfheaaGreatDoorM12
import Derived.Test.YtpgfldcoojfheaaGreatDoorM13
set_option maxRecDepth 1000000
set_option maxHeartbeats 16000000
namespace Go.Proofs.YtpgfldcoojfheaaGreatDoor
open Go.RowKit
structure BdT where
 lo : Int
 hi : Int
 a : Int
 b : Int
def encB (x : BdT) : List Value:=[iv x.lo,iv x.hi,iv x.a,iv x.b]
theorem encB_len : ∀ x,(encB x).length = 4:=fun _=>rfl
abbrev bdV (x : BdT) : Value:=.agg #[iv x.lo,iv x.hi,iv x.a,iv x.b]
def BdOk (x : BdT) : Prop:=x.a ≤ x.lo ∧ x.lo ≤ x.hi ∧ x.hi ≤ x.b
theorem bd154_any (x : BdT) (w : World) (h : BdOk x) : Calls Tryz.prog 154 #[bdV x] w (Rt w (.bool false)):=by
 obtain ⟨lo,hi,a,b⟩:=x;obtain ⟨h1,h2,h3⟩:=h;simp only at h1 h2 h3;obtain ⟨W1,hW1⟩:=ex (w.alloc (.cells #[iv lo,iv hi,iv a,iv b] 221));have b1 : BW w W1:=by rw [← hW1]; exact belowA (belowR w) _
 have q1 : Blk W1 w.heap.size 221 #[iv lo,iv hi,iv a,iv b]:=by rw [← hW1]; exact Blk.new w 221 _
 obtain ⟨g,hg⟩:=ex w.heap.size;rw [hg] at q1;obtain ⟨d0,d1,d2,d3⟩:=q1.c4;have HB:=Lq b1;have e1 : min lo hi = lo:=by omega
 have e2 : max lo hi = hi:=by omega
 have e3 : ¬ lo < a:=by omega
 have e4 : ¬ b < hi:=by omega
 have e5 : ¬ hi < lo:=by omega
 clear b1 q1;go_enter Tryz.func154,Tryz.ntmps154
 go_wp2_with fail
 all_goals
  go_ret
  exact ⟨ret_bool (by first | rfl | exact decide_eq_false (by omega)),HB.out⟩
theorem idx154_b (A : Option Addr) (xs : List BdT) (B cap : Nat) (w : World) (hm : xs.length ≤ maxLen) (hB : B ≤ w.heap.size) (H : RdN 4 encB w B A xs) (hok : ∀ x ∈ xs,BdOk x) :
  Calls Tryz.prog 182 #[.slice A xs.length cap,.func (.func 154) #[] #[]] w (Rt w (iv (-1))):=by
 unfold maxLen at hm;have HH:=Lq H;have HOK:=Lq hok;clear H hok;go_enter Tryz.func182,Tryz.ntmps182
 go_wp2
 go_loopw [8] (fun i wr=>∃ k : Nat,k ≤ xs.length ∧ i = iv k ∧ Hid (BW w wr)) (fun i _=>xs.length - (intOf i).toNat)
 case atStart=>exact ⟨0,Nat.zero_le _,rfl,Lq (belowR _)⟩
 case round =>
  obtain ⟨k,hk,rfl,HBR⟩:=hrel;by_cases hlt : k < xs.length
  ·obtain ⟨x,hx⟩ : ∃ x,xs[k]? = some x:=⟨_,List.getElem?_eq_getElem hlt⟩;have HC:=Lq (bd154_any x wr (HOK.out x (List.mem_iff_getElem?.2 ⟨k,hx⟩)));obtain ⟨b,off,rfl,_,hc⟩:=(HH.out.below HBR.out hB) k x hx;have c0:=hc 0 _ rfl;have c1:=hc 1 _ rfl;have c2:=hc 2 _ rfl;have c3:=hc 3 _ rfl;obtain ⟨lo,hi,a,b'⟩:=x;simp only [Nat.add_zero] at c0 c1 c2 c3;clear hx hc;go_wp2_with fail
   refine HC.out.mono ?_;rintro e w1 ⟨rfl,hb⟩;have HB1:=Lq (belowT HBR.out hb);clear hb c0 c1 c2 c3;go_wp2_with fail
   go_roundw
   case rel=>exact ⟨k + 1,by omega,by go_num,HB1⟩
   case measure=>simp [intOf]; omega
  ·go_wp2_with fail
   go_ret
   exact ⟨rfl,HBR.out⟩
theorem con154_b (A : Option Addr) (xs : List BdT) (B cap : Nat) (w : World) (hm : xs.length ≤ maxLen) (hB : B ≤ w.heap.size) (H : RdN 4 encB w B A xs) (hok : ∀ x ∈ xs,BdOk x) :
  Calls Tryz.prog 153 #[.slice A xs.length cap,.func (.func 154) #[] #[]] w (Rt w (.bool false)):=by
 have HI:=Lq (idx154_b A xs B cap w hm hB H hok);clear H hok;go_enter Tryz.func153,Tryz.ntmps153
 go_wp2_with fail
 refine HI.out.mono ?_;rintro e w1 ⟨rfl,hb⟩;go_wp2_with fail
 go_ret
 exact ⟨rfl,hb⟩
theorem bd155_any (x : BdT) (w : World) (h : BdOk x) : Calls Tryz.prog 155 #[bdV x] w (Rt w (.bool false)):=by
 obtain ⟨lo,hi,a,b⟩:=x;obtain ⟨h1,h2,h3⟩:=h;simp only at h1 h2 h3;obtain ⟨W1,hW1⟩:=ex (w.alloc (.cells #[iv lo,iv hi,iv a,iv b] 221));have b1 : BW w W1:=by rw [← hW1]; exact belowA (belowR w) _
 have q1 : Blk W1 w.heap.size 221 #[iv lo,iv hi,iv a,iv b]:=by rw [← hW1]; exact Blk.new w 221 _
 obtain ⟨g,hg⟩:=ex w.heap.size;rw [hg] at q1;obtain ⟨d0,d1,d2,d3⟩:=q1.c4;have HB:=Lq b1;have e1 : min lo hi = lo:=by omega
 have e2 : max lo hi = hi:=by omega
 have e3 : ¬ lo < a:=by omega
 have e4 : ¬ b < hi:=by omega
 have e5 : ¬ hi < lo:=by omega
 clear b1 q1;go_enter Tryz.func155,Tryz.ntmps155
 go_wp2_with fail
 all_goals
  go_ret
  exact ⟨ret_bool (by first | rfl | exact decide_eq_false (by omega)),HB.out⟩
theorem idx155_b (A : Option Addr) (xs : List BdT) (B cap : Nat) (w : World) (hm : xs.length ≤ maxLen) (hB : B ≤ w.heap.size) (H : RdN 4 encB w B A xs) (hok : ∀ x ∈ xs,BdOk x) :
  Calls Tryz.prog 182 #[.slice A xs.length cap,.func (.func 155) #[] #[]] w (Rt w (iv (-1))):=by
 unfold maxLen at hm;have HH:=Lq H;have HOK:=Lq hok;clear H hok;go_enter Tryz.func182,Tryz.ntmps182
 go_wp2
 go_loopw [8] (fun i wr=>∃ k : Nat,k ≤ xs.length ∧ i = iv k ∧ Hid (BW w wr)) (fun i _=>xs.length - (intOf i).toNat)
 case atStart=>exact ⟨0,Nat.zero_le _,rfl,Lq (belowR _)⟩
 case round =>
  obtain ⟨k,hk,rfl,HBR⟩:=hrel;by_cases hlt : k < xs.length
  ·obtain ⟨x,hx⟩ : ∃ x,xs[k]? = some x:=⟨_,List.getElem?_eq_getElem hlt⟩;have HC:=Lq (bd155_any x wr (HOK.out x (List.mem_iff_getElem?.2 ⟨k,hx⟩)));obtain ⟨b,off,rfl,_,hc⟩:=(HH.out.below HBR.out hB) k x hx;have c0:=hc 0 _ rfl;have c1:=hc 1 _ rfl;have c2:=hc 2 _ rfl;have c3:=hc 3 _ rfl;obtain ⟨lo,hi,a,b'⟩:=x;simp only [Nat.add_zero] at c0 c1 c2 c3;clear hx hc;go_wp2_with fail
   refine HC.out.mono ?_;rintro e w1 ⟨rfl,hb⟩;have HB1:=Lq (belowT HBR.out hb);clear hb c0 c1 c2 c3;go_wp2_with fail
   go_roundw
   case rel=>exact ⟨k + 1,by omega,by go_num,HB1⟩
   case measure=>simp [intOf]; omega
  ·go_wp2_with fail
   go_ret
   exact ⟨rfl,HBR.out⟩
theorem con155_b (A : Option Addr) (xs : List BdT) (B cap : Nat) (w : World) (hm : xs.length ≤ maxLen) (hB : B ≤ w.heap.size) (H : RdN 4 encB w B A xs) (hok : ∀ x ∈ xs,BdOk x) :
  Calls Tryz.prog 153 #[.slice A xs.length cap,.func (.func 155) #[] #[]] w (Rt w (.bool false)):=by
 have HI:=Lq (idx155_b A xs B cap w hm hB H hok);clear H hok;go_enter Tryz.func153,Tryz.ntmps153
 go_wp2_with fail
 refine HI.out.mono ?_;rintro e w1 ⟨rfl,hb⟩;go_wp2_with fail
 go_ret
 exact ⟨rfl,hb⟩
theorem strange129_any (A : Option Addr) (xs : List BdT) (cap : Nat) (w : World) (hm : xs.length ≤ maxLen) (H : RdN 4 encB w w.heap.size A xs) (hok : ∀ x ∈ xs,BdOk x) :
  Calls Tryz.prog 129 #[.slice A xs.length cap] w (Rt w (iv 0)):=by
 have H1:=Lq (con154_b A xs _ cap w hm (Nat.le_refl _) H hok);have H2 : Hid (∀ V,BW w V → Calls Tryz.prog 153 #[.slice A xs.length cap,.func (.func 155) #[] #[]] V (Rt V (.bool false))):=Lq fun V hb=>con155_b A xs _ cap V hm (Nat.le_refl _) ((H.below hb (Nat.le_refl _)).more hb.size) hok
 clear H hok;go_enter Tryz.func129,Tryz.ntmps129
 go_wp2_with fail
 refine H1.out.mono ?_;rintro e w1 ⟨rfl,hb⟩;have HC:=Lq (H2.out _ hb);have HB:=Lq hb;clear hb;go_wp2_with fail
 refine HC.out.mono ?_;rintro e w2 ⟨rfl,hb⟩;have HB2:=Lq (belowT HB.out hb);clear hb;go_wp2_with fail
 go_ret
 exact ⟨rfl,HB2.out⟩
theorem strange_new3 (x y z : BdT) (V : World) (hx : BdOk x) (hy : BdOk y) (hz : BdOk z) : Calls Tryz.prog 129 #[.slice (some ⟨V.heap.size,0,none⟩) 3 3] (V.alloc (.cells #[iv x.lo,iv x.hi,iv x.a,iv x.b,iv y.lo,iv y.hi,iv y.a,iv y.b,iv z.lo,iv z.hi,iv z.a,iv z.b] 221)) fun e w'=>e = .returned (iv 0) ∧ BW V w':=by
 have hq : Blk (V.alloc (.cells #[iv x.lo,iv x.hi,iv x.a,iv x.b,iv y.lo,iv y.hi,iv y.a,iv y.b,iv z.lo,iv z.hi,iv z.a,iv z.b] 221)) V.heap.size 221 ([x,y,z].flatMap encB).toArray:=Blk.new V 221 _;refine (strange129_any (some ⟨V.heap.size,0,none⟩) [x,y,z] 3 _ (by unfold maxLen; simp) (fun i u hu=>⟨V.heap.size,0,rfl,hq.lt,fun j v hv=>?_⟩) ?_).mono ?_
 ·have:=flat_get encB_len _ i u hu j v hv;rw [hq.cell]
  simpa using this
 ·intro u hu;simp only [List.mem_cons,List.not_mem_nil,or_false] at hu;rcases hu with rfl | rfl | rfl <;> assumption
 ·rintro e w' ⟨rfl,hb⟩;exact ⟨rfl,belowT (belowA (belowR V) _) hb⟩
theorem strange_new2 (x y : BdT) (V : World) (hx : BdOk x) (hy : BdOk y) : Calls Tryz.prog 129 #[.slice (some ⟨V.heap.size,0,none⟩) 2 2] (V.alloc (.cells #[iv x.lo,iv x.hi,iv x.a,iv x.b,iv y.lo,iv y.hi,iv y.a,iv y.b] 221)) fun e w'=>e = .returned (iv 0) ∧ BW V w':=by
 have hq : Blk (V.alloc (.cells #[iv x.lo,iv x.hi,iv x.a,iv x.b,iv y.lo,iv y.hi,iv y.a,iv y.b] 221)) V.heap.size 221 ([x,y].flatMap encB).toArray:=Blk.new V 221 _;refine (strange129_any (some ⟨V.heap.size,0,none⟩) [x,y] 2 _ (by unfold maxLen; simp) (fun i u hu=>⟨V.heap.size,0,rfl,hq.lt,fun j v hv=>?_⟩) ?_).mono ?_
 ·have:=flat_get encB_len _ i u hu j v hv;rw [hq.cell]
  simpa using this
 ·intro u hu;simp only [List.mem_cons,List.not_mem_nil,or_false] at hu;rcases hu with rfl | rfl <;> assumption
 ·rintro e w' ⟨rfl,hb⟩;exact ⟨rfl,belowT (belowA (belowR V) _) hb⟩
theorem fiveMade (wr : World) (t : TypeId) (a0 a1 a2 a3 a4 b0 b1 b2 b3 b4 : Value) : ∃ Wa W2,wr.alloc (.cells #[a0,a1,a2,a3,a4] t) = Wa ∧ (((((Wa.setCell ⟨wr.heap.size,0,none⟩ b0).setCell ⟨wr.heap.size,1,none⟩ b1).setCell ⟨wr.heap.size,2,none⟩ b2).setCell ⟨wr.heap.size,3,none⟩ b3).setCell ⟨wr.heap.size,4,none⟩ b4) = W2 ∧ BW wr W2 ∧ Blk Wa wr.heap.size t #[a0,a1,a2,a3,a4] ∧ BW wr Wa ∧ Blk W2 wr.heap.size t #[b0,b1,b2,b3,b4]:=by
 refine ⟨_,_,rfl,rfl, ?_,Blk.new wr t _,belowA (belowR _) _, ?_⟩
 ·exact ((((((OnlyAt.of_below (belowR _) wr.heap.size).set 0 _).set 1 _).set 2 _).set 3 _).set 4 _).below (belowA (belowR _) _) (Nat.le_refl _)
 ·have h:=(((((Blk.new wr t #[a0,a1,a2,a3,a4]).set_ 0 b0).set_ 1 b1).set_ 2 b2).set_ 3 b3).set_ 4 b4
  simpa using h
theorem check102_any (A : Option Addr) (ts : List TdT) (cap : Nat) (b : TdB) (s : TdS) (w : World) (H : TsRd w w.heap.size A cap ts) (hb : BeachOk b ts) (hs : ShOk s) :
  Calls Tryz.prog 102 #[bV b A ts.length cap,sV s] w fun e w'=>e = .returned (.tuple #[iv 0,iv 0,iv 0]) ∧ BW w w':=by
 obtain ⟨slo,shi,mlo,mhi,bite⟩:=b;obtain ⟨dlo,dhi,sink⟩:=s;have x1:=hb.s;have x2:=hb.m;have x3:=hb.bite;have x4:=hs.d;have x5:=hs.sink;have hl:=hb.ts.len;simp only at x1 x2 x3 x4 x5;have HT:=Lq hb.ts.one;obtain ⟨W1,hW1⟩:=ex (w.alloc (.cells #[iv slo,iv shi,iv mlo,iv mhi,iv bite,.slice A ts.length cap] 32));obtain ⟨W2,hW2⟩:=ex (W1.alloc (.cells #[iv dlo,iv dhi,iv sink] 41));have b1 : BW w W1:=by rw [← hW1]; exact belowA (belowR w) _
 have b2 : BW W1 W2:=by rw [← hW2]; exact belowA (belowR _) _
 have q1 : Blk W1 w.heap.size 32 #[iv slo,iv shi,iv mlo,iv mhi,iv bite,.slice A ts.length cap]:=by rw [← hW1]; exact Blk.new w 32 _
 have q2 : Blk W2 W1.heap.size 41 #[iv dlo,iv dhi,iv sink]:=by rw [← hW2]; exact Blk.new W1 41 _
 obtain ⟨g2,hg2⟩:=ex w.heap.size;obtain ⟨g3,hg3⟩:=ex W1.heap.size;rw [hg2] at q1;rw [hg3] at q2;have hm9 : ts.length ≤ 9223372036854775807:=by have:=H.le; have:=H.max; simp only [maxLen] at this; omega
 have HH:=Lq ((H.below (belowT b1 b2) (Nat.le_refl _)).more (belowT b1 b2).size);have HB2:=Lq (belowT b1 b2);have q12:=q1.keep b2;have HS : Hid (∀ W,BW W2 W → W.cell? ⟨g2,0,none⟩ = some (iv slo) ∧ W.cell? ⟨g2,1,none⟩ = some (iv shi) ∧ W.cell? ⟨g2,2,none⟩ = some (iv mlo) ∧ W.cell? ⟨g2,3,none⟩ = some (iv mhi) ∧ W.cell? ⟨g2,4,none⟩ = some (iv bite)):=Lq fun W hb=>have k:=q12.keep hb; ⟨k.c 0,k.c 1,k.c 2,k.c 3,k.c 4⟩
 have HA : Hid (∀ W,BW W2 W → W.cell? ⟨g2,5,none⟩ = some (.slice A ts.length cap)):=Lq fun W hb=>(q12.keep hb).c 5
 have HS2 : Hid (∀ W,BW W2 W → W.cell? ⟨g3,0,none⟩ = some (iv dlo) ∧ W.cell? ⟨g3,1,none⟩ = some (iv dhi) ∧ W.cell? ⟨g3,2,none⟩ = some (iv sink)):=Lq fun W hb=>have k:=q2.keep hb; ⟨k.c 0,k.c 1,k.c 2⟩
 have K1 : Hid (∀ n V,BW W2 V → Calls Tryz.prog 91 #[iv n] V fun e w'=>e = .returned (.agg #[iv n,iv n]) ∧ BW W2 w'):=Lq fun n V hb=>(one91_any n V).mono fun e w' h=>⟨h.1,belowT hb h.2⟩
 have K2 : Hid (∀ V,BW W2 V → Calls Tryz.prog 129 #[.slice (some ⟨V.heap.size,0,none⟩) 3 3] (V.alloc (.cells #[iv slo,iv shi,iv 1,iv 200,iv mlo,iv mhi,iv (-2000000),iv 2000000,iv bite,iv bite,iv 0,iv 200] 221)) fun e w'=>e = .returned (iv 0) ∧ BW W2 w'):=Lq fun V hb=>(strange_new3 ⟨slo,shi,1,200⟩ ⟨mlo,mhi, -2000000,2000000⟩ ⟨bite,bite,0,200⟩ V x1 x2 ⟨x3.1,Int.le_refl _,x3.2⟩).mono fun e w' h=>⟨h.1,belowT hb h.2⟩
 have K3 : Hid (∀ V,BW W2 V → Calls Tryz.prog 129 #[.slice (some ⟨V.heap.size,0,none⟩) 2 2] (V.alloc (.cells #[iv dlo,iv dhi,iv 0,iv 1500,iv sink,iv sink,iv 0,iv 50] 221)) fun e w'=>e = .returned (iv 0) ∧ BW W2 w'):=Lq fun V hb=>(strange_new2 ⟨dlo,dhi,0,1500⟩ ⟨sink,sink,0,50⟩ V x4 ⟨x5.1,Int.le_refl _,x5.2⟩).mono fun e w' h=>⟨h.1,belowT hb h.2⟩
 obtain ⟨c0,c1,c2,c3,c4⟩:=HS.out _ (belowR W2);have hle:=H.le;have hmx:=H.max;clear H b1 b2 q1 q2 q12 x1 x2 x3 x4 x5 hb hs;go_enter Tryz.func102,Tryz.ntmps102
 go_wp2_with fail
 go_region_held3 (fun W=>W.cell? ⟨g2,0,none⟩ = some (iv slo) ∧ W.cell? ⟨g2,1,none⟩ = some (iv shi) ∧ W.cell? ⟨g2,2,none⟩ = some (iv mlo) ∧ W.cell? ⟨g2,3,none⟩ = some (iv mhi) ∧ W.cell? ⟨g2,4,none⟩ = some (iv bite)) (first | exact HS.out _ (belowDr (belowR _)) | (refine HS.out _ ?_; assumption) | exact HS.out _ (belowA hb1 _)) ((first | (go_at_call 91; ((with_reducible refine (K1.out _ _ (belowDr (belowR _))).mono ?_); rintro e wa ⟨rfl,hb1⟩)) | (go_at_call 129; ((with_reducible refine (K2.out _ hb1).mono ?_); rintro e wd ⟨rfl,hb3⟩))))
 have HB3:=Lq hb3;have a5:=HA.out _ hb3;clear hb1 hb3 K2 hW1 hW2 c0 c1 c2 c3 c4;go_wp2_with fail
 clear a5;go_loopw [37] (fun i wr=>∃ k : Nat,k ≤ ts.length ∧ i = iv k ∧ Hid (BW W2 wr)) (fun i _=>ts.length - (intOf i).toNat)
 case atStart=>exact ⟨0,by omega,rfl,HB3⟩
 case round =>
  obtain ⟨k,hk,rfl,HBR⟩:=hrel;have a5:=HA.out _ HBR.out;have hk0 : (0 : Int) ≤ (k : Int):=by omega
  by_cases hlt : k < ts.length
  ·obtain ⟨t,ht⟩ : ∃ x,ts[k]? = some x:=⟨_,List.getElem?_eq_getElem hlt⟩;have hts:=(HH.out.below HBR.out (Nat.le_refl _)).more HBR.out.size;obtain ⟨bb,off,hA,hbb,c0,c1,c2,c3,c4⟩:=hts.at ht;have HTO:=Lq (HT.out k t ht);obtain ⟨td,h1,h2,v1,v2⟩:=t;simp only at c0 c1 c2 c3 c4;subst hA;obtain ⟨Wa,w8,hWa,hW8,hb8,hqa,hba,hq8⟩:=fiveMade wr 141 (iv 0) (iv 0) (iv 0) (iv 0) (iv 0) (iv td) (iv h1) (iv h2) (iv v1) (iv v2);obtain ⟨g8,hg8⟩:=ex wr.heap.size;rw [hg8] at hW8 hqa hq8;have hbn : bb ≠ g8:=by omega
   have HS8 : Hid (∀ W,BW w8 W → W.cell? ⟨g8,0,none⟩ = some (iv td) ∧ W.cell? ⟨g8,1,none⟩ = some (iv h1) ∧ W.cell? ⟨g8,2,none⟩ = some (iv h2) ∧ W.cell? ⟨g8,3,none⟩ = some (iv v1) ∧ W.cell? ⟨g8,4,none⟩ = some (iv v2)):=Lq fun W hb=>have k:=hq8.keep hb; ⟨k.c 0,k.c 1,k.c 2,k.c 3,k.c 4⟩
   have HB8:=Lq (belowT HBR.out hb8);have HPV : Hid (0 < k → ∀ V,BW w8 V → ∃ t',ts[k - 1]? = some t' ∧ V.cell? ⟨bb,off + (k - 1) * 5,none⟩ = some (iv t'.day)):=Lq fun h0 V hb=>by
    obtain ⟨t',ht'⟩ : ∃ x,ts[k - 1]? = some x:=⟨_,List.getElem?_eq_getElem (by omega)⟩
    obtain ⟨b',off',e,_,d0,_⟩:=hts.at ht';injection e with e
    injection e with e1 e2
    subst e1 e2;exact ⟨t',ht',keepC (belowT hb8 hb) d0⟩
   obtain ⟨f0,f1,f2,f3,f4⟩:=hqa.f5;obtain ⟨e0,e1,e2,e3,e4⟩:=hqa.c5;have el:=hqa.lt;obtain ⟨d0,d1,d2,d3,d4⟩:=HS8.out _ (belowR w8);have y1:=HTO.out.1.day;have y2:=HTO.out.1.h;have y3:=HTO.out.1.w;simp only at y1 y2 y3;have K5 : Hid (∀ V,BW w8 V → Calls Tryz.prog 91 #[iv td] V fun e w'=>e = .returned (.agg #[iv td,iv td]) ∧ BW w8 w'):=Lq fun V hb=>(one91_any td V).mono fun e w' h=>⟨h.1,belowT hb h.2⟩
   have K6 : Hid (∀ V,BW w8 V → Calls Tryz.prog 129 #[.slice (some ⟨V.heap.size,0,none⟩) 3 3] (V.alloc (.cells #[iv td,iv td,iv 0,iv 40000,iv h1,iv h2,iv 0,iv 1500,iv v1,iv v2,iv (-200),iv 200] 221)) fun e w'=>e = .returned (iv 0) ∧ BW w8 w'):=Lq fun V hb=>(strange_new3 ⟨td,td,0,40000⟩ ⟨h1,h2,0,1500⟩ ⟨v1,v2, -200,200⟩ V ⟨y1.1,Int.le_refl _,y1.2⟩ y2 y3).mono fun e w' h=>⟨h.1,belowT hb h.2⟩
   clear hb8 hqa hba hq8 ht hts y1 y2 y3;go_wp2_with fail
   clear c0 c1 c2 c3 c4 f0 f1 f2 f3 f4 e0 e1 e2 e3 e4 el hWa hW8 hg8 a5;go_region_held3 (fun W=>W.cell? ⟨g8,0,none⟩ = some (iv td) ∧ W.cell? ⟨g8,1,none⟩ = some (iv h1) ∧ W.cell? ⟨g8,2,none⟩ = some (iv h2) ∧ W.cell? ⟨g8,3,none⟩ = some (iv v1) ∧ W.cell? ⟨g8,4,none⟩ = some (iv v2)) (first | exact HS8.out _ (belowDr (belowR _)) | (refine HS8.out _ ?_; assumption) | exact HS8.out _ (belowA hb1 _)) ((first | (go_at_call 91; ((with_reducible refine (K5.out _ (belowDr (belowR _))).mono ?_); rintro e wa ⟨rfl,hb1⟩)) | (go_at_call 129; ((with_reducible refine (K6.out _ hb1).mono ?_); rintro e wd ⟨rfl,hb3⟩))))
   have HB9:=Lq hb3;have HB29:=Lq (belowT HB8.out hb3);clear hb1 hb3 d0 d1 d2 d3 d4 K5 K6;obtain ⟨d0,d1,d2,d3,d4⟩:=HS8.out _ HB9.out;have a5:=HA.out _ HB29.out;cases k with
   | zero =>
    clear HPV;go_wp2_with fail
    go_quiet (fail)
    rename_i nq;have HQ : Hid (BW W2 (wd.drewN nq)):=Lq (belowN HB29.out _);generalize wd.drewN nq = w9 at HQ ⊢;go_wp2_with fail
    go_roundw
    case rel=>exact ⟨1,by omega,rfl,HQ⟩
    case measure=>simp [intOf]; omega
   | succ j =>
    obtain ⟨t',ht',hc'⟩:=HPV.out (by omega) _ HB9.out
    simp only [Nat.add_sub_cancel] at ht' hc';have hday:=HTO.out.2 (by omega) t' ht'
    obtain ⟨y,hy⟩:=ex t'.day;rw [hy] at hc' hday;have hkj : ((j + 1 : Nat) : Int) - 1 = (j : Int):=by omega
    have hkw : IntKind.i64.wrap (((j + 1 : Nat) : Int) - 1) = (j : Int):=by rw [IntKind.wrap_i64]; omega
    have hkw2 : IntKind.i64.wrap (((j + 1 : Nat) : Int) + 1) = ((j + 1 : Nat) : Int) + 1:=by rw [IntKind.wrap_i64]; omega
    have hj0 : (0 : Int) ≤ (j : Int):=by omega
    have hjn : (j : Int) < (ts.length : Int):=by omega
    have hkp : (0 : Int) < ((j + 1 : Nat) : Int):=by omega
    clear HPV ht' hy;go_wp2_with fail
    go_quiet (fail)
    rename_i nq;have HQ : Hid (BW W2 (wd.drewN nq)):=Lq (belowN HB29.out _);generalize wd.drewN nq = w9 at HQ ⊢;go_wp2_with fail
    go_roundw
    case rel=>exact ⟨j + 1 + 1,by omega,by go_num,HQ⟩
    case measure=>simp [intOf]; omega
  ·obtain rfl : k = ts.length:=by omega
   obtain ⟨s0,s1,s2⟩:=HS2.out _ HBR.out;go_wp2_with fail
   go_region_held3 (fun W=>W.cell? ⟨g3,0,none⟩ = some (iv dlo) ∧ W.cell? ⟨g3,1,none⟩ = some (iv dhi) ∧ W.cell? ⟨g3,2,none⟩ = some (iv sink)) (first | exact HS2.out _ (belowDr HBR.out) | (refine HS2.out _ ?_; assumption) | exact HS2.out _ (belowA hb1 _)) ((first | (go_at_call 91; ((with_reducible refine (K1.out _ _ (belowDr HBR.out)).mono ?_); rintro e wa ⟨rfl,hb1⟩)) | (go_at_call 129; ((with_reducible refine (K3.out _ hb1).mono ?_); rintro e wd ⟨rfl,hb3⟩))))
   have HB9:=Lq (belowT HB2.out hb3);clear hb1 hb3 s0 s1 s2 a5;go_wp2_with fail
   go_ret3
   exact ⟨rfl,HB9.out⟩
abbrev bchV (b : TdB) (s : TdS) (A : Option Addr) (n cap : Nat) : Value:=.agg #[iv b.slo,iv b.shi,iv b.mlo,iv b.mhi,iv b.bite,.slice A n cap,iv s.dlo,iv s.dhi,iv s.sink]
theorem at59_any (b : TdB) (s : TdS) (A : Option Addr) (n cap : Nat) (bal bite : Int) (w : World) : Calls Tryz.prog 59 #[bchV b s A n cap,iv bal,iv bite] w fun e w'=>∃ g5 g3 g4,e = .returned (atF g5 g3 g4) ∧ AtAt w' g5 g3 g4 s.sink bal bite ∧ BW w w':=by
 obtain ⟨W1,hW1⟩:=ex (w.alloc (.cells #[iv b.slo,iv b.shi,iv b.mlo,iv b.mhi,iv b.bite,.slice A n cap,iv s.dlo,iv s.dhi,iv s.sink] 119));obtain ⟨W2,hW2⟩:=ex (W1.alloc (.cells #[iv bal] 3));obtain ⟨W3,hW3⟩:=ex (W2.alloc (.cells #[iv bite] 3));have b1 : BW w W1:=by rw [← hW1]; exact belowA (belowR w) _
 have b2 : BW W1 W2:=by rw [← hW2]; exact belowA (belowR _) _
 have b3 : BW W2 W3:=by rw [← hW3]; exact belowA (belowR _) _
 have q1 : Blk W1 w.heap.size 119 #[iv b.slo,iv b.shi,iv b.mlo,iv b.mhi,iv b.bite,.slice A n cap,iv s.dlo,iv s.dhi,iv s.sink]:=by rw [← hW1]; exact Blk.new w 119 _
 have q2 : Blk W2 W1.heap.size 3 #[iv bal]:=by rw [← hW2]; exact Blk.new W1 3 _
 have q3 : Blk W3 W2.heap.size 3 #[iv bite]:=by rw [← hW3]; exact Blk.new W2 3 _
 have HA : Hid (AtAt W3 W2.heap.size w.heap.size W1.heap.size s.sink bal bite ∧ BW w W3):=Lq ⟨⟨q3.c 0,(q1.keep (belowT b2 b3)).c 8,(q2.keep b3).c 0⟩,belowT b1 (belowT b2 b3)⟩;clear b1 b2 b3 q1 q2 q3;obtain ⟨z1,hz1⟩:=ex w.heap.size;obtain ⟨z2,hz2⟩:=ex W1.heap.size;obtain ⟨z3,hz3⟩:=ex W2.heap.size;rw [hz1,hz2,hz3] at HA;go_enter Tryz.func59,Tryz.ntmps59
 go_wp2
 go_ret
 exact ⟨_,_,_,rfl,HA.out.1,HA.out.2⟩
noncomputable def ops57_1 : Array Oper:=opsOf (regionOf Tryz.f57 1)
theorem reg57_1 {Q : Exit → Act → World → Prop} {V : World} {g2 g4 bb off n cap k : Nat} {slo shi dlo dhi h1 h2 v1 v2 : Int} {z0 z3 z5 z6 z7 z8 z9 z10 z11 z12 z13 z14 z15 z16 z17 z18 z19 z20 z21 z22 z23 z24 z25 : Value} (hk0 : (0 : Int) ≤ (k : Int)) (hkn : (k : Int) < (n : Int)) (h4 : Blk V g4 127 #[iv 0,iv 0,iv 0,iv 0,iv 0,iv 0,iv 0,iv 0])
  (hS : ∀ W,BW V W → W.cell? ⟨g2,0,none⟩ = some (iv slo) ∧ W.cell? ⟨g2,1,none⟩ = some (iv shi) ∧ W.cell? ⟨g2,5,none⟩ = some (.slice (some ⟨bb,off,none⟩) n cap) ∧ W.cell? ⟨g2,6,none⟩ = some (iv dlo) ∧ W.cell? ⟨g2,7,none⟩ = some (iv dhi) ∧ W.cell? ⟨bb,off + k * 5 + 1,none⟩ = some (iv h1) ∧ W.cell? ⟨bb,off + k * 5 + 2,none⟩ = some (iv h2) ∧ W.cell? ⟨bb,off + k * 5 + 3,none⟩ = some (iv v1) ∧ W.cell? ⟨bb,off + k * 5 + 4,none⟩ = some (iv v2))
  (hQ : ∀ u5 u6 u7 u8 u9 u10 u11 u12 u13 u14 u15 u16 u17 u18 u19 u20 u21 u22 u23 u24 u25 W',BW V W' → Q .normal ⟨#[z0,iv k,.pointer (some ⟨g2,0,none⟩),z3,.pointer (some ⟨g4,0,none⟩),u5,u6,u7,u8,u9,u10,u11,u12,u13,u14,u15,u16,u17,u18,u19,u20,u21,u22,u23,u24,u25],[]⟩ ((((((((W'.setCell ⟨g4,0,none⟩ (iv slo)).setCell ⟨g4,1,none⟩ (iv shi)).setCell ⟨g4,2,none⟩ (iv dlo)).setCell ⟨g4,3,none⟩ (iv dhi)).setCell ⟨g4,4,none⟩ (iv h1)).setCell ⟨g4,5,none⟩ (iv h2)).setCell ⟨g4,6,none⟩ (iv v1)).setCell ⟨g4,7,none⟩ (iv v2))) :
  (regionOf Tryz.f57 1).wp Tryz.prog Q ⟨#[z0,iv k,.pointer (some ⟨g2,0,none⟩),z3,.pointer (some ⟨g4,0,none⟩),z5,z6,z7,z8,z9,z10,z11,z12,z13,z14,z15,z16,z17,z18,z19,z20,z21,z22,z23,z24,z25],[]⟩ V:=by
 have HS:=Lq hS;have HB0:=Lq (belowDq (belowR V));have HQ:=Lq hQ;have HG:=Lq h4;clear hS hQ h4;have e : regionOf Tryz.f57 1 = Code.region 1 ops57_1 true:=by kernel_rfl
 rw [e];refine wp_region_noPanic ?_;refine wp_region_late (S:=(fun W=>W.cell? ⟨g2,0,none⟩ = some (iv slo) ∧ W.cell? ⟨g2,1,none⟩ = some (iv shi) ∧ W.cell? ⟨g2,5,none⟩ = some (.slice (some ⟨bb,off,none⟩) n cap) ∧ W.cell? ⟨g2,6,none⟩ = some (iv dlo) ∧ W.cell? ⟨g2,7,none⟩ = some (iv dhi) ∧ W.cell? ⟨bb,off + k * 5 + 1,none⟩ = some (iv h1) ∧ W.cell? ⟨bb,off + k * 5 + 2,none⟩ = some (iv h2) ∧ W.cell? ⟨bb,off + k * 5 + 3,none⟩ = some (iv v1) ∧ W.cell? ⟨bb,off + k * 5 + 4,none⟩ = some (iv v2))) (late:=(fun k=>k == 21)) (by rfl) ?_
 have hHeld:=HS.out _ HB0.out;have hsz : ops57_1.size = 22:=by kernel_rfl
 have hrep : Array.replicate 22 false = #[false,false,false,false,false,false,false,false,false,false,false,false,false,false,false,false,false,false,false,false,false,false]:=by kernel_rfl
 rw [hsz,hrep];clear e hsz hrep;generalize V.drew = V0 at HB0 hHeld ⊢;refine tkL 0 (.pointer (some ⟨g2,0,none⟩)) ?_;refine tkL 1 (.pointer (some ⟨g2,0,none⟩)) ?_;refine tkL 2 (.agg #[iv slo,iv shi]) ?_;refine tkL 3 (.pointer (some ⟨g2,6,none⟩)) ?_;refine tkL 4 (.pointer (some ⟨g2,6,none⟩)) ?_;refine tkL 5 (.agg #[iv dlo,iv dhi]) ?_;refine tkL 6 (.pointer (some ⟨g2,0,none⟩)) ?_;refine tkL 7 (.pointer (some ⟨g2,5,none⟩)) ?_;refine tkL 8 (.slice (some ⟨bb,off,none⟩) n cap) ?_;refine tkL 9 (iv k) ?_;refine tkL 10 (.pointer (some ⟨bb,off + k * 5,none⟩)) ?_;refine tkL 11 (.pointer (some ⟨bb,off + k * 5 + 1,none⟩)) ?_;refine tkL 12 (.agg #[iv h1,iv h2]) ?_;refine tkL 13 (.pointer (some ⟨g2,0,none⟩)) ?_;refine tkL 14 (.pointer (some ⟨g2,5,none⟩)) ?_;refine tkL 15 (.slice (some ⟨bb,off,none⟩) n cap) ?_;refine tkL 16 (iv k) ?_;refine tkL 17 (.pointer (some ⟨bb,off + k * 5,none⟩)) ?_;refine tkL 18 (.pointer (some ⟨bb,off + k * 5 + 3,none⟩)) ?_;refine tkL 19 (.agg #[iv v1,iv v2]) ?_;refine tkL 20 (.agg #[iv slo,iv shi,iv dlo,iv dhi,iv h1,iv h2,iv v1,iv v2]) ?_;refine rdT 21 fun K' hK=>?_
 have bg:=HG.out.keep HB0.out;obtain ⟨x0,x1,x2,x3,x4,x5,x6,x7⟩:=bg.c8;obtain ⟨f0,f1,f2,f3,f4,f5,f6,f7⟩:=bg.f8;have lg:=bg.lt;clear bg;go_simp;refine hK.out _ _ ?_;clear lg x0 x1 x2 x3 x4 x5 x6 x7 f0 f1 f2 f3 f4 f5 f6 f7;clear hK;refine wpAny_of_held (S:=fun _=>True) _ _ _ _ ?_
 refine wpAnyH_done (by kernel_rfl) ?_ _
 exact NoPanic.normal (HQ.out _ _ _ _ _ _ _ _ _ _ _ _ _ _ _ _ _ _ _ _ _ _ HB0.out)
theorem box57_any (A : Option Addr) (ts : List TdT) (cap k : Nat) (t : TdT) (b : TdB) (s : TdS) (w : World) (H : TsRd w w.heap.size A cap ts) (hk : ts[k]? = some t) :
  Calls Tryz.prog 57 #[bchV b s A ts.length cap,iv k] w (Rt w (bxV (boxOf b s t))):=by
 have hkl:=(List.getElem?_eq_some_iff.1 hk).1;have hk0 : (0 : Int) ≤ (k : Int):=by omega
 have hkn : (k : Int) < (ts.length : Int):=by omega
 have hm9 : ts.length ≤ 9223372036854775807:=by have:=H.le; have:=H.max; simp only [maxLen] at this; omega
 obtain ⟨bb,off,rfl,_,c0,c1,c2,c3,c4⟩:=H.at hk;obtain ⟨slo,shi,mlo,mhi,bite⟩:=b;obtain ⟨dlo,dhi,sink⟩:=s;obtain ⟨td,h1,h2,v1,v2⟩:=t;simp only [bchV,bxV,boxOf] at c0 c1 c2 c3 c4 ⊢;obtain ⟨n,hn⟩:=ex ts.length;rw [hn] at hkn hm9 ⊢;obtain ⟨W1,hW1⟩:=ex (w.alloc (.cells #[iv slo,iv shi,iv mlo,iv mhi,iv bite,.slice (some ⟨bb,off,none⟩) n cap,iv dlo,iv dhi,iv sink] 119));obtain ⟨V,hV⟩:=ex (W1.alloc (.cells #[iv 0,iv 0,iv 0,iv 0,iv 0,iv 0,iv 0,iv 0] 127));have b1 : BW w W1:=by rw [← hW1]; exact belowA (belowR w) _
 have b2 : BW W1 V:=by rw [← hV]; exact belowA (belowR _) _
 have q1 : Blk W1 w.heap.size 119 #[iv slo,iv shi,iv mlo,iv mhi,iv bite,.slice (some ⟨bb,off,none⟩) n cap,iv dlo,iv dhi,iv sink]:=by rw [← hW1]; exact Blk.new w 119 _
 have q4 : Blk V W1.heap.size 127 #[iv 0,iv 0,iv 0,iv 0,iv 0,iv 0,iv 0,iv 0]:=by rw [← hV]; exact Blk.new W1 127 _
 have hbl : bb < w.heap.size:=lt_of_cell c0;obtain ⟨g2,hg2⟩:=ex w.heap.size;obtain ⟨g4,hg4⟩:=ex W1.heap.size;have hz : W1.heap.size = w.heap.size + 1:=by rw [← hW1]; simp
 rw [hg2] at q1;rw [hg4] at q4;have hne : g2 ≠ g4 ∧ bb ≠ g4:=by omega
 have hwg : w.heap.size ≤ g4:=by omega
 have q12:=q1.keep b2;have HS : Hid (∀ W,BW V W → W.cell? ⟨g2,0,none⟩ = some (iv slo) ∧ W.cell? ⟨g2,1,none⟩ = some (iv shi) ∧ W.cell? ⟨g2,5,none⟩ = some (.slice (some ⟨bb,off,none⟩) n cap) ∧ W.cell? ⟨g2,6,none⟩ = some (iv dlo) ∧ W.cell? ⟨g2,7,none⟩ = some (iv dhi) ∧ W.cell? ⟨bb,off + k * 5 + 1,none⟩ = some (iv h1) ∧ W.cell? ⟨bb,off + k * 5 + 2,none⟩ = some (iv h2) ∧ W.cell? ⟨bb,off + k * 5 + 3,none⟩ = some (iv v1) ∧ W.cell? ⟨bb,off + k * 5 + 4,none⟩ = some (iv v2)):=Lq fun W hb =>
  have kc : ∀ {o : Nat} {v : Value},w.cell? ⟨bb,o,none⟩ = some v → W.cell? ⟨bb,o,none⟩ = some v:=fun h=>keepC (belowT (belowT b1 b2) hb) h
  have kb:=q12.keep hb
  ⟨kb.c 0,kb.c 1,kb.c 5,kb.c 6,kb.c 7,kc c1,kc c2,kc c3,kc c4⟩
 have HQ4:=Lq q4;have HB:=Lq (belowT b1 b2);have HWG:=Lq hwg;clear H hk hkl c0 c1 c2 c3 c4 b1 b2 q1 q4 q12 hbl hz hne hwg hn;go_enter Tryz.func57,Tryz.ntmps57
 go_wp2_with fail
 clear hW1 hV hg2 hg4;go_upto_region 1 with fail
 refine reg57_1 hk0 hkn HQ4.out HS.out ?_;intro u5 u6 u7 u8 u9 u10 u11 u12 u13 u14 u15 u16 u17 u18 u19 u20 u21 u22 u23 u24 u25 w9 hb9;have hq:=HQ4.out.keep hb9;have HB9:=Lq (belowT HB.out hb9);obtain ⟨W9,hW9⟩:=ex (((((((((w9.setCell ⟨g4,0,none⟩ (iv slo)).setCell ⟨g4,1,none⟩ (iv shi)).setCell ⟨g4,2,none⟩ (iv dlo)).setCell ⟨g4,3,none⟩ (iv dhi)).setCell ⟨g4,4,none⟩ (iv h1)).setCell ⟨g4,5,none⟩ (iv h2)).setCell ⟨g4,6,none⟩ (iv v1)).setCell ⟨g4,7,none⟩ (iv v2)));have hq9 : Blk W9 g4 127 #[iv slo,iv shi,iv dlo,iv dhi,iv h1,iv h2,iv v1,iv v2]:=by
  rw [← hW9];have h:=((((((((hq.set_ 0 (iv slo)).set_ 1 (iv shi)).set_ 2 (iv dlo)).set_ 3 (iv dhi)).set_ 4 (iv h1)).set_ 5 (iv h2)).set_ 6 (iv v1)).set_ 7 (iv v2))
  simpa using h
 have HBX : Hid (BW w W9):=Lq (by
  rw [← hW9];exact (belowS (belowS (belowS (belowS (belowS (belowS (belowS (belowS HB9.out HWG.out _) HWG.out _) HWG.out _) HWG.out _) HWG.out _) HWG.out _) HWG.out _) HWG.out _))
 obtain ⟨d0,d1,d2,d3,d4,d5,d6,d7⟩:=hq9.c8;rw [hW9];clear hq hW9 hq9 hb9;go_wp2_with fail
 exact bodyPost_ret (v:=.agg #[iv slo,iv shi,iv dlo,iv dhi,iv h1,iv h2,iv v1,iv v2]) (by simp [results,Tryz.results57,go_sem,d0,d1,d2,d3,d4,d5,d6,d7]) rfl ⟨rfl,HBX.out⟩
end Go.Proofs.YtpgfldcoojfheaaGreatDoor
