/- The examples of layer 1 are as the document says: Awake (printed by mkHE8b.py). tide: the least ballast (printed by mkHT15.py). tide: Ashore, First (printed by mkHT16.py). tide: the last region of Misses (printed by mkHT17.py). -/
import Derived.Test.YtpgfldcoojfheaaGreatDoorM0
import Derived.Test.YtpgfldcoojfheaaGreatDoorM16
import Derived.Test.YtpgfldcoojfheaaGreatDoorM25
import Derived.Test.YtpgfldcoojfheaaGreatDoorM29
import Derived.Test.YtpgfldcoojfheaaGreatDoorM30
set_option maxRecDepth 1000000
set_option maxHeartbeats 16000000
namespace Go.Proofs.YtpgfldcoojfheaaGreatDoor
open Go.RowKit
theorem awake6_any (mm : Int) (w0 : World) (ht : PowTab w0) (hm : w0.cell? ⟨0,0,none⟩ = some (.int .i64 mm)) : Calls Tryz.prog 6 #[] w0 (Rt w0 (.bool true)):=by
 have PT:=Lq ht;have MC:=Lq hm;clear ht hm;go_enter Tryz.func6,Tryz.ntmps6
 go_wp2_with fail
 refine (plan22V 2 (by decide) w0).mono ?_
 rintro e w1 ⟨v1,rfl,hp,hb⟩;have B1 : Hid (BW w0 w1):=Lq hb;have Pv1:=Lq hp;clear hb hp;go_wp2_with fail
 refine (exc8 Pv1.out).mono ?_;rintro e w2 ⟨A1,c1,ms1,rfl,hps1,hsl1,hb⟩;have B2 : Hid (BW w1 w2):=Lq hb;have PS1:=Lq hps1;have SL1:=Lq hsl1;clear hb hps1 hsl1;obtain ⟨Wa3,w3,hWa,hWn,hbn,hqa,hba,hqn⟩:=oneMade w2 24 (.slice none 0 0) (.slice A1 ms1.length c1);obtain ⟨p1,hp1⟩:=ex w2.heap.size;rw [hp1] at hWn hqa hqn;have af0:=hqa.frozen 0;have ac0:=hqa.c 0;have al:=hqa.lt;have B3 : Hid (BW w2 w3):=Lq hbn;have Qp1:=Lq hqn;have Gp1 : Hid (w2.heap.size = p1):=Lq hp1;clear hbn hqa hba hqn;go_wp2_with fail
 clear af0 ac0 al hWa hWn hp1;refine (plan22V 0 (by decide) w3).mono ?_
 rintro e w4 ⟨v2,rfl,hp,hb⟩;have B4 : Hid (BW w3 w4):=Lq hb;have Pv2:=Lq hp;clear hb hp;go_wp2_with fail
 refine (exc10 Pv2.out).mono ?_;rintro e w5 ⟨rfl,hb⟩;have B5 : Hid (BW w4 w5):=Lq hb;clear hb;obtain ⟨Wa6,w6,hWa,hWn,hbn,hqa,hba,hqn⟩:=twoMade w5 29 (iv 0) (iv 0) (iv 5695) (iv 6440);obtain ⟨p3,hp3⟩:=ex w5.heap.size;rw [hp3] at hWn hqa hqn;have af0:=hqa.frozen 0;have ac0:=hqa.c 0;have af1:=hqa.frozen 1;have ac1:=hqa.c 1;have al:=hqa.lt;have B6 : Hid (BW w5 w6):=Lq hbn;have Qp3:=Lq hqn;have Gp3 : Hid (w5.heap.size = p3):=Lq hp3;clear hbn hqa hba hqn;go_wp2_with fail
 clear af0 ac0 af1 ac1 al hWa hWn hp3;refine (plan22V 2 (by decide) w6).mono ?_
 rintro e w7 ⟨v3,rfl,hp,hb⟩;have B7 : Hid (BW w6 w7):=Lq hb;have Pv3:=Lq hp;clear hb hp;go_wp2_with fail
 refine (exc9 Pv3.out).mono ?_;rintro e w8 ⟨A3,c3,rfl,hr3,hb⟩;have B8 : Hid (BW w7 w8):=Lq hb;have RD3:=Lq hr3;clear hb hr3;go_wp2_with fail
 refine (plan22V 2 (by decide) w8).mono ?_
 rintro e w9 ⟨v4,rfl,hp,hb⟩;have B9 : Hid (BW w8 w9):=Lq hb;have Pv4:=Lq hp;clear hb hp;go_wp2_with fail
 refine (plan22V 0 (by decide) w9).mono ?_
 rintro e w10 ⟨v5,rfl,hp,hb⟩;have B10 : Hid (BW w9 w10):=Lq hb;have Pv5:=Lq hp;clear hb hp;go_wp2_with fail
 refine (exc23 (Pv4.out.below B10.out) Pv5.out).mono ?_;rintro e w11 ⟨A4,c4,rfl,hr4,hb⟩;have B11 : Hid (BW w10 w11):=Lq hb;have RD4:=Lq hr4;clear hb hr4;go_wp2_with fail
 refine (both25_any w11).mono ?_;rintro e w12 ⟨v6,rfl,hv6,hb⟩;have B12 : Hid (BW w11 w12):=Lq hb;have Pv6:=Lq hv6;clear hb hv6;obtain ⟨w13,hwn⟩:=ex (w12.alloc (.cells #[.string ⟨#[116,97,110,107,49]⟩,iv 15,iv 4] 75));have hbn : BW w12 w13:=by rw [← hwn]; exact belowA (belowR _) _
 have hqn : Blk w13 w12.heap.size 75 #[.string ⟨#[116,97,110,107,49]⟩,iv 15,iv 4]:=by rw [← hwn]; exact Blk.new w12 75 _
 obtain ⟨p5,hp5⟩:=ex w12.heap.size;rw [hp5] at hqn;have B13 : Hid (BW w12 w13):=Lq hbn;have Qp5:=Lq hqn;clear hbn hqn;go_wp2_with fail
 clear hwn hp5;obtain ⟨bb6,pp6,qq6,hv6,ht6,hx6⟩:=Pv6.out;have PV6 : Hid (BothV w13 v6):=Lq ⟨bb6,pp6,qq6,hv6,ht6.below B13.out,hx6⟩;clear hv6 ht6 hx6;refine (exc24 PV6.out Qp5.out).mono ?_;rintro e w14 ⟨A5,c5,rfl,hr5,hb⟩;have B14 : Hid (BW w13 w14):=Lq hb;have RD5:=Lq hr5;clear hb hr5;go_upto_region 6 with fail
 exact f6_6 (mm:=mm) (by assumption) (belowT B1.out (belowT B2.out (belowT B3.out (belowT B4.out (belowT B5.out (belowT B6.out (belowT B7.out (belowT B8.out (belowT B9.out (belowT B10.out (belowT B11.out (belowT B12.out (belowT B13.out B14.out))))))))))))) PT.out MC.out (Qp1.out.keep (belowT B4.out (belowT B5.out (belowT B6.out (belowT B7.out (belowT B8.out (belowT B9.out (belowT B10.out (belowT B11.out (belowT B12.out (belowT B13.out B14.out))))))))))) (Qp3.out.keep (belowT B7.out (belowT B8.out (belowT B9.out (belowT B10.out (belowT B11.out (belowT B12.out (belowT B13.out B14.out)))))))) PS1.out ((SL1.out.below (belowT B3.out (belowT B4.out (belowT B5.out (belowT B6.out (belowT B7.out (belowT B8.out (belowT B9.out (belowT B10.out (belowT B11.out (belowT B12.out (belowT B13.out B14.out))))))))))) (Nat.le_refl _)).more ((belowT B3.out (belowT B4.out (belowT B5.out (belowT B6.out (belowT B7.out (belowT B8.out (belowT B9.out (belowT B10.out (belowT B11.out (belowT B12.out (belowT B13.out B14.out)))))))))))).size) ((RD3.out.below (belowT B9.out (belowT B10.out (belowT B11.out (belowT B12.out (belowT B13.out B14.out))))) (Nat.le_refl _)).more ((belowT B9.out (belowT B10.out (belowT B11.out (belowT B12.out (belowT B13.out B14.out)))))).size) ((RD4.out.below (belowT B12.out (belowT B13.out B14.out)) (Nat.le_refl _)).more ((belowT B12.out (belowT B13.out B14.out))).size) ((RD5.out.below (belowR w14) (Nat.le_refl _)).more ((belowR w14)).size)
abbrev voyV (b : TdB) (s : TdS) (A : Option Addr) (n cap k : Nat) : Value:=.agg #[iv b.slo,iv b.shi,iv b.mlo,iv b.mhi,iv b.bite,.slice A n cap,iv s.dlo,iv s.dhi,iv s.sink,iv k]
theorem does90_any (A : Option Addr) (ts : List TdT) (cap k : Nat) (t : TdT) (b : TdB) (s : TdS) (bal : Int) (w : World) (H : TsRd w w.heap.size A cap ts) (hb : BeachOk b ts) (hs : ShOk s) (ht : ts[k]? = some t) (hl : 0 ≤ bal ∧ bal ≤ 40) :
  Calls Tryz.prog 90 #[voyV b s A ts.length cap k,iv bal] w (Rt w (.bool (withinB b s (boxOf b s t) bal))):=by
 have h57 : Hid (∀ W,BW w W → Calls Tryz.prog 57 #[bchV b s A ts.length cap,iv k] W (Rt W (bxV (boxOf b s t)))):=Lq fun W hbW=>box57_any A ts cap k t b s W ((H.below hbW (Nat.le_refl _)).more hbW.size) ht
 have h88 : Hid (∀ W,BW w W → Calls Tryz.prog 88 #[bchV b s A ts.length cap,bxV (boxOf b s t),iv bal] W (Rt W (.bool (withinB b s (boxOf b s t) bal)))):=Lq fun W _=>within88_any b s A ts.length cap (boxOf b s t) bal W (boxOf_ok hb hs ht) ⟨hs.sink,hl,by omega⟩
 obtain ⟨r,hr⟩:=ex (withinB b s (boxOf b s t) bal);rw [hr] at h88 ⊢;obtain ⟨x,hxe⟩:=ex (boxOf b s t);rw [hxe] at h57 h88;obtain ⟨slo,shi,mlo,mhi,bite⟩:=b;obtain ⟨dlo,dhi,sink⟩:=s;obtain ⟨xa,xb,xc,xd,xe,xf,xg,xh⟩:=x;simp only [voyV,bchV,bxV] at h57 h88 ⊢;obtain ⟨n,hn⟩:=ex ts.length;rw [hn] at h57 h88 ⊢;obtain ⟨W1,hW1⟩:=ex (w.alloc (.cells #[iv slo,iv shi,iv mlo,iv mhi,iv bite,.slice A n cap,iv dlo,iv dhi,iv sink,iv k] 175));have b1 : BW w W1:=by rw [← hW1]; exact belowA (belowR w) _
 have q1 : Blk W1 w.heap.size 175 #[iv slo,iv shi,iv mlo,iv mhi,iv bite,.slice A n cap,iv dlo,iv dhi,iv sink,iv k]:=by rw [← hW1]; exact Blk.new w 175 _
 obtain ⟨g2,hg2⟩:=ex w.heap.size;rw [hg2] at q1;have HS : Hid (∀ W,BW W1 W → W.cell? ⟨g2,0,none⟩ = some (iv slo) ∧ W.cell? ⟨g2,1,none⟩ = some (iv shi) ∧ W.cell? ⟨g2,2,none⟩ = some (iv mlo) ∧ W.cell? ⟨g2,3,none⟩ = some (iv mhi) ∧ W.cell? ⟨g2,4,none⟩ = some (iv bite) ∧ W.cell? ⟨g2,5,none⟩ = some (.slice A n cap) ∧ W.cell? ⟨g2,6,none⟩ = some (iv dlo) ∧ W.cell? ⟨g2,7,none⟩ = some (iv dhi) ∧ W.cell? ⟨g2,8,none⟩ = some (iv sink) ∧ W.cell? ⟨g2,9,none⟩ = some (iv k)):=Lq fun W hb=>have k:=q1.keep hb; ⟨k.c 0,k.c 1,k.c 2,k.c 3,k.c 4,k.c 5,k.c 6,k.c 7,k.c 8,k.c 9⟩
 have HB1:=Lq b1;have K57 : Hid (∀ W,BW W1 W → Calls Tryz.prog 57 #[.agg #[iv slo,iv shi,iv mlo,iv mhi,iv bite,.slice A n cap,iv dlo,iv dhi,iv sink],iv k] W fun e w'=>e = .returned (.agg #[iv xa,iv xb,iv xc,iv xd,iv xe,iv xf,iv xg,iv xh]) ∧ BW W1 w'):=Lq fun W hbW=>(h57.out W (belowT b1 hbW)).mono fun _ _ h=>⟨h.1,belowT hbW h.2⟩
 have K88 : Hid (∀ W,BW W1 W → Calls Tryz.prog 88 #[.agg #[iv slo,iv shi,iv mlo,iv mhi,iv bite,.slice A n cap,iv dlo,iv dhi,iv sink],.agg #[iv xa,iv xb,iv xc,iv xd,iv xe,iv xf,iv xg,iv xh],iv bal] W fun e w'=>e = .returned (.bool r) ∧ BW W1 w'):=Lq fun W hbW=>(h88.out W (belowT b1 hbW)).mono fun _ _ h=>⟨h.1,belowT hbW h.2⟩
 obtain ⟨z0,z1,z2,z3,z4,z5,z6,z7,z8,z9⟩:=HS.out _ (belowR W1);clear H hb hs ht hl hr hxe hn b1 q1 h57 h88;go_enter Tryz.func90,Tryz.ntmps90
 go_wp2_with fail
 clear hW1 hg2 z0 z1 z2 z3 z4 z5 z6 z7 z8 z9;go_region_held3 (fun W=>W.cell? ⟨g2,0,none⟩ = some (iv slo) ∧ W.cell? ⟨g2,1,none⟩ = some (iv shi) ∧ W.cell? ⟨g2,2,none⟩ = some (iv mlo) ∧ W.cell? ⟨g2,3,none⟩ = some (iv mhi) ∧ W.cell? ⟨g2,4,none⟩ = some (iv bite) ∧ W.cell? ⟨g2,5,none⟩ = some (.slice A n cap) ∧ W.cell? ⟨g2,6,none⟩ = some (iv dlo) ∧ W.cell? ⟨g2,7,none⟩ = some (iv dhi) ∧ W.cell? ⟨g2,8,none⟩ = some (iv sink) ∧ W.cell? ⟨g2,9,none⟩ = some (iv k)) (first | with_reducible exact HS.out _ (belowDr (belowR _)) | (refine HS.out _ ?_; assumption)) ((first | (go_at_call 57; ((with_reducible refine (K57.out _ (belowDr (belowR _))).mono ?_); rintro e wa ⟨rfl,hb1⟩)) | (go_at_call 88; ((with_reducible refine (K88.out _ hb1).mono ?_); rintro e wb ⟨rfl,hb2⟩))))
 go_wp2_with fail
 go_ret
 exact ⟨rfl,belowT HB1.out hb2⟩
def leastV (f : Nat → Bool) : Int:=match (List.range 41).find? f with
 | some k=>k
 | none=>-1
theorem leastV_at {f : Nat → Bool} {k : Nat} (hk : k < 41) (h : f k = true) (hn : ∀ j,j < k → f j = false) : leastV f = k:=by
 unfold leastV;have : (List.range 41).find? f = some k:=by
  rw [List.find?_range_eq_some];refine ⟨h,List.mem_range.2 hk,fun j hj=>?_⟩
  rw [hn j hj];rfl
 rw [this]
theorem leastV_no {f : Nat → Bool} (hn : ∀ j,j < 41 → f j = false) : leastV f = -1:=by
 unfold leastV;have : (List.range 41).find? f = none:=by
  rw [List.find?_eq_none];intro j hj;rw [hn j (List.mem_range.1 hj)];simp
 rw [this]
theorem least89_any (f : Nat → Bool) (vv : Value) (w : World) (hf : ∀ (W : World) (j : Nat),BW w W → j < 41 → Calls Tryz.prog 90 #[vv,iv j] W (Rt W (.bool (f j)))) :
  Calls Tryz.prog 89 #[.func (.func 90) #[vv] #[]] w (Rt w (iv (leastV f))):=by
 have HF:=Lq hf;clear hf;go_enter Tryz.func89,Tryz.ntmps89
 go_wp2_with fail
 go_loopw [4] (fun i wr=>∃ k : Nat,k ≤ 41 ∧ i = iv k ∧ Hid (∀ j,j < k → f j = false) ∧ Hid (BW w wr)) (fun i _=>41 - (intOf i).toNat)
 case atStart=>exact ⟨0,by omega,rfl,Lq (fun j h=>absurd h (by omega)),Lq (belowR _)⟩
 case round =>
  obtain ⟨k,hk,rfl,HN,HBR⟩:=hrel;have hk0 : (0 : Int) ≤ (k : Int):=by omega
  by_cases hlt : k < 41
  ·have HC:=Lq (HF.out wr k HBR.out hlt);obtain ⟨r,hr⟩:=ex (f k);rw [hr] at HC;have HR:=Lq hr;clear hr;cases r
   ·go_wp2_with fail
    refine HC.out.mono ?_;rintro e w1 ⟨rfl,hb⟩;have HB1:=Lq (belowT HBR.out hb);clear hb HC;go_wp2_with fail
    go_roundw
    case rel=>exact ⟨k + 1,by omega,by go_num,Lq (fun j hj=>by
     rcases Nat.lt_or_ge j k with h | h
     ·exact HN.out j h
     ·obtain rfl : j = k:=by omega
      exact HR.out),HB1⟩
    case measure=>simp [intOf]; omega
   ·go_wp2_with fail
    refine HC.out.mono ?_;rintro e w1 ⟨rfl,hb⟩;have HB1:=Lq (belowT HBR.out hb);clear hb HC;go_wp2_with fail
    go_ret
    exact ⟨ret_int (leastV_at hlt HR.out HN.out).symm,HB1.out⟩
  ·obtain rfl : k = 41:=by omega
   go_wp2_with fail
   go_ret
   exact ⟨ret_int (leastV_no HN.out).symm,HBR.out⟩
def doesB (b : TdB) (s : TdS) (t : TdT) (j : Nat) : Bool:=withinB b s (boxOf b s t) j
theorem least_tide (A : Option Addr) (ts : List TdT) (cap k : Nat) (t : TdT) (b : TdB) (s : TdS) (w : World) (H : TsRd w w.heap.size A cap ts) (hb : BeachOk b ts) (hs : ShOk s) (ht : ts[k]? = some t) :
  Calls Tryz.prog 89 #[.func (.func 90) #[voyV b s A ts.length cap k] #[]] w (Rt w (iv (leastV (doesB b s t)))) :=
 least89_any (doesB b s t) _ w fun W j hbW hj=>does90_any A ts cap k t b s j W ((H.below hbW (Nat.le_refl _)).more hbW.size) hb hs ht ⟨by omega,by omega⟩
theorem least41_any (A : Option Addr) (ts : List TdT) (cap k : Nat) (t : TdT) (b : TdB) (s : TdS) (w : World) (H : TsRd w w.heap.size A cap ts) (hb : BeachOk b ts) (hs : ShOk s) (ht : ts[k]? = some t) (h0 : 0 ≤ leastV (doesB b s t)) :
  Calls Tryz.prog 41 #[bV b A ts.length cap,sV s,iv k] w (Rt w (.tuple #[iv (leastV (doesB b s t)),iv 0])):=by
 have hkl:=(List.getElem?_eq_some_iff.1 ht).1;have hop : Hid (∀ W,BW w W → Calls Tryz.prog 55 #[bV b A ts.length cap,sV s,iv k,iv 0] W (Rt W (.tuple #[bchV b s A ts.length cap,iv 0]))):=Lq fun W hbW=>open55_any A ts cap b s k 0 W ((H.below hbW (Nat.le_refl _)).more hbW.size) hb hs ⟨by omega,by omega⟩ (by omega)
 have hle : Hid (∀ W,BW w W → Calls Tryz.prog 89 #[.func (.func 90) #[voyV b s A ts.length cap k] #[]] W (Rt W (iv (leastV (doesB b s t))))):=Lq fun W hbW=>least_tide A ts cap k t b s W ((H.below hbW (Nat.le_refl _)).more hbW.size) hb hs ht
 obtain ⟨r,hr⟩:=ex (leastV (doesB b s t));rw [hr] at hle h0 ⊢;obtain ⟨slo,shi,mlo,mhi,bite⟩:=b;obtain ⟨dlo,dhi,sink⟩:=s;simp only [bV,sV,bchV,voyV] at hop hle ⊢;obtain ⟨n,hn⟩:=ex ts.length;rw [hn] at hop hle ⊢;obtain ⟨W1,hW1⟩:=ex (w.alloc (.cells #[iv slo,iv shi,iv mlo,iv mhi,iv bite,.slice A n cap] 32));obtain ⟨W2,hW2⟩:=ex (W1.alloc (.cells #[iv dlo,iv dhi,iv sink] 41));have b1 : BW w W1:=by rw [← hW1]; exact belowA (belowR w) _
 have b2 : BW W1 W2:=by rw [← hW2]; exact belowA (belowR _) _
 have q1 : Blk W1 w.heap.size 32 #[iv slo,iv shi,iv mlo,iv mhi,iv bite,.slice A n cap]:=by rw [← hW1]; exact Blk.new w 32 _
 have q2 : Blk W2 W1.heap.size 41 #[iv dlo,iv dhi,iv sink]:=by rw [← hW2]; exact Blk.new W1 41 _
 obtain ⟨g3,hg3⟩:=ex w.heap.size;obtain ⟨g4,hg4⟩:=ex W1.heap.size;rw [hg3] at q1;rw [hg4] at q2;have q13:=q1.keep b2;obtain ⟨x0,x1,x2,x3,x4,x5⟩:=q13.c6;obtain ⟨y0,y1,y2⟩:=q2.c3;have HB2:=Lq (belowT b1 b2);clear b1 b2 q1 q2 q13;clear H hb hs ht hkl hn hr;have hmf : ∀ (fn : Fn) (first cap : Array Value) (w : World),(Instr.makeFunc fn first cap).run Tryz.prog w = .ok (.func fn first cap) w:=fun _ _ _ _=>rfl
 go_enter Tryz.func41,Tryz.ntmps41
 go_wp2_with fail
 refine (hop.out _ HB2.out).mono ?_;rintro e w4 ⟨rfl,hb4⟩;have HB4:=Lq (belowT HB2.out hb4);clear x0 x1 x2 x3 x4 x5 y0 y1 y2 hW1 hW2 hg3 hg4 hb4;obtain ⟨Wa,w8,hWa,hW8,hb8,hqa,hba,hq8⟩:=nineMade w4 119 (iv 0) (iv 0) (iv 0) (iv 0) (iv 0) (.slice none 0 0) (iv 0) (iv 0) (iv 0) (iv slo) (iv shi) (iv mlo) (iv mhi) (iv bite) (.slice A n cap) (iv dlo) (iv dhi) (iv sink);obtain ⟨g10,hg10⟩:=ex w4.heap.size;rw [hg10] at hW8 hqa hq8;obtain ⟨af0,af1,af2,af3,af4,af5,af6,af7,af8⟩:=hqa.f9;obtain ⟨ac0,ac1,ac2,ac3,ac4,ac5,ac6,ac7,ac8⟩:=hqa.c9;have al:=hqa.lt;have HQ10:=Lq hq8;have HB8:=Lq (belowT HB4.out hb8);obtain ⟨z0,z1,z2,z3,z4,z5,z6,z7,z8⟩:=hq8.c9;clear hb8 hqa hba hq8;go_wp2_with fail
 refine (hle.out _ HB8.out).mono ?_;rintro e w9 ⟨rfl,hb9⟩;have HB9:=Lq (belowT HB8.out hb9);clear hb9;go_wp2_with fail
 go_ret2
 exact ⟨rfl,HB9.out⟩
def ashL (b : TdB) (s : TdS) (ts : List TdT) (bal : Nat) (k : Nat) : List Nat:=(List.range k).filter fun i=>match ts[i]? with
 | some t=>doesB b s t bal
 | none=>false
theorem ash_snoc {b : TdB} {s : TdS} {ts : List TdT} {bal k : Nat} {t : TdT} (h : ts[k]? = some t) : ashL b s ts bal (k + 1) = ashL b s ts bal k ++ (if doesB b s t bal then [k] else []):=by
 unfold ashL;rw [List.range_succ,List.filter_append];simp only [List.filter_cons,List.filter_nil,h]
theorem ash_len (b : TdB) (s : TdS) (ts : List TdT) (bal k : Nat) : (ashL b s ts bal k).length ≤ k:=by
 unfold ashL;exact Nat.le_trans (List.length_filter_le _ _) (by simp)
theorem ashore40_any (A : Option Addr) (ts : List TdT) (cap bal : Nat) (b : TdB) (s : TdS) (w : World) (H : TsRd w w.heap.size A cap ts) (hb : BeachOk b ts) (hs : ShOk s) (hl : bal ≤ 40) :
  Calls Tryz.prog 40 #[bV b A ts.length cap,sV s,iv bal] w fun e w'=>∃ (A' : Option Addr) (c : Nat),e = .returned (.tuple #[.slice A' (ashL b s ts bal ts.length).length c,iv 0]) ∧ Rd1 nv w' w'.heap.size A' (ashL b s ts bal ts.length) ∧ BW w w':=by
 have htl:=hb.ts.len;have hop : Hid (∀ W,BW w W → Calls Tryz.prog 55 #[bV b A ts.length cap,sV s,iv 0,iv bal] W (Rt W (.tuple #[bchV b s A ts.length cap,iv 0]))):=Lq fun W hbW=>open55_any A ts cap b s 0 bal W ((H.below hbW (Nat.le_refl _)).more hbW.size) hb hs ⟨by omega,by omega⟩ (by omega)
 have h57 : Hid (∀ W (k : Nat) t,BW w W → ts[k]? = some t → Calls Tryz.prog 57 #[bchV b s A ts.length cap,iv k] W (Rt W (bxV (boxOf b s t)))):=Lq fun W k t hbW ht=>box57_any A ts cap k t b s W ((H.below hbW (Nat.le_refl _)).more hbW.size) ht
 have h88 : Hid (∀ W (k : Nat) t,ts[k]? = some t → Calls Tryz.prog 88 #[bchV b s A ts.length cap,bxV (boxOf b s t),iv bal] W (Rt W (.bool (doesB b s t bal)))):=Lq fun W k t ht=>within88_any b s A ts.length cap (boxOf b s t) bal W (boxOf_ok hb hs ht) ⟨hs.sink,by omega,by omega⟩
 have HSN : Hid (∀ k t,ts[k]? = some t → ashL b s ts bal (k + 1) = ashL b s ts bal k ++ (if doesB b s t bal then [k] else [])):=Lq fun k t h=>ash_snoc h
 have HLN : Hid (∀ k,(ashL b s ts bal k).length ≤ k):=Lq (ash_len b s ts bal);have HA0 : Hid (ashL b s ts bal 0 = []):=Lq rfl;obtain ⟨AL,hAL⟩:=ex (ashL b s ts bal);obtain ⟨DB,hDB⟩:=ex (fun t=>doesB b s t bal)
 have hDB2 : ∀ t,doesB b s t bal = DB t:=fun t=>by rw [← hDB]
 simp only [hDB2] at h88 HSN;rw [hAL] at HSN HLN HA0 ⊢;obtain ⟨BX,hBX⟩:=ex (fun t=>boxOf b s t)
 have hBX2 : ∀ t,boxOf b s t = BX t:=fun t=>by rw [← hBX]
 simp only [hBX2] at h57 h88;obtain ⟨slo,shi,mlo,mhi,bite⟩:=b;obtain ⟨dlo,dhi,sink⟩:=s;simp only [bV,sV,bchV,bxV] at hop h57 h88 ⊢;have HTS : Hid (∀ k,k < ts.length → ∃ t,ts[k]? = some t):=Lq fun k hk=>⟨_,List.getElem?_eq_getElem hk⟩
 obtain ⟨n,hn⟩:=ex ts.length;have hn12 : n ≤ 12:=by omega
 rw [hn] at hop h57 h88 HTS ⊢;obtain ⟨W1,hW1⟩:=ex (w.alloc (.cells #[iv slo,iv shi,iv mlo,iv mhi,iv bite,.slice A n cap] 32));obtain ⟨W2,hW2⟩:=ex (W1.alloc (.cells #[iv dlo,iv dhi,iv sink] 41));have b1 : BW w W1:=by rw [← hW1]; exact belowA (belowR w) _
 have b2 : BW W1 W2:=by rw [← hW2]; exact belowA (belowR _) _
 have q1 : Blk W1 w.heap.size 32 #[iv slo,iv shi,iv mlo,iv mhi,iv bite,.slice A n cap]:=by rw [← hW1]; exact Blk.new w 32 _
 have q2 : Blk W2 W1.heap.size 41 #[iv dlo,iv dhi,iv sink]:=by rw [← hW2]; exact Blk.new W1 41 _
 obtain ⟨g3,hg3⟩:=ex w.heap.size;obtain ⟨g4,hg4⟩:=ex W1.heap.size;rw [hg3] at q1;rw [hg4] at q2;have q13:=q1.keep b2;obtain ⟨x0,x1,x2,x3,x4,x5⟩:=q13.c6;obtain ⟨y0,y1,y2⟩:=q2.c3;have HB2:=Lq (belowT b1 b2);clear b1 b2 q1 q2 q13;clear H hb hs hn htl hAL hDB hDB2 hBX hBX2;go_enter Tryz.func40,Tryz.ntmps40
 go_wp2_with fail
 refine (hop.out _ HB2.out).mono ?_;rintro e w4 ⟨rfl,hb4⟩;have HB4:=Lq (belowT HB2.out hb4);clear x0 x1 x2 x3 x4 x5 y0 y1 y2 hW1 hW2 hg3 hg4 hb4 hop;obtain ⟨Wa,w8,hWa,hW8,hb8,hqa,hba,hq8⟩:=nineMade w4 119 (iv 0) (iv 0) (iv 0) (iv 0) (iv 0) (.slice none 0 0) (iv 0) (iv 0) (iv 0) (iv slo) (iv shi) (iv mlo) (iv mhi) (iv bite) (.slice A n cap) (iv dlo) (iv dhi) (iv sink);obtain ⟨g10,hg10⟩:=ex w4.heap.size;rw [hg10] at hW8 hqa hq8;obtain ⟨af0,af1,af2,af3,af4,af5,af6,af7,af8⟩:=hqa.f9;obtain ⟨ac0,ac1,ac2,ac3,ac4,ac5,ac6,ac7,ac8⟩:=hqa.c9;have al:=hqa.lt;have HB8:=Lq (belowT HB4.out hb8);have HS : Hid (∀ W,BW w8 W → W.cell? ⟨g10,0,none⟩ = some (iv slo) ∧ W.cell? ⟨g10,1,none⟩ = some (iv shi) ∧ W.cell? ⟨g10,2,none⟩ = some (iv mlo) ∧ W.cell? ⟨g10,3,none⟩ = some (iv mhi) ∧ W.cell? ⟨g10,4,none⟩ = some (iv bite) ∧ W.cell? ⟨g10,5,none⟩ = some (.slice A n cap) ∧ W.cell? ⟨g10,6,none⟩ = some (iv dlo) ∧ W.cell? ⟨g10,7,none⟩ = some (iv dhi) ∧ W.cell? ⟨g10,8,none⟩ = some (iv sink)):=Lq fun W hb=>have k:=hq8.keep hb; ⟨k.c 0,k.c 1,k.c 2,k.c 3,k.c 4,k.c 5,k.c 6,k.c 7,k.c 8⟩
 have k5:=hq8.c 5;clear hb8 hqa hba hq8;go_wp2_with fail
 clear af0 ac0 af1 ac1 af2 ac2 af3 ac3 af4 ac4 af5 ac5 af6 ac6 af7 ac7 af8 ac8 al hWa hW8 hg10 k5;go_loopw [6,24] (fun v i wr=>∃ k : Nat,k ≤ n ∧ i = iv k ∧ Hid (wr.ownsRow w8.heap.size 3 1 v (AL k).length ((AL k).map nv)) ∧ Hid (BW w8 wr)) (fun _ i _=>n - (intOf i).toNat)
 case atStart =>
  refine ⟨0,by omega,rfl,Lq ?_,Lq (belowR _)⟩
  rw [HA0.out];exact World.ownsRow_nil _ _ _ _
 case round =>
  obtain ⟨k,hk,rfl,HRW,HBR⟩:=hrel;rename_i v;have hk0 : (0 : Int) ≤ (k : Int):=by omega
  by_cases hlt : k < n
  ·obtain ⟨t,ht⟩:=HTS.out k hlt;have hsn:=HSN.out k t ht;obtain ⟨r,hr⟩:=ex (DB t);have K88:=fun W=>h88.out W k t ht
   rw [hr] at hsn K88;obtain ⟨⟨xa,xb,xc,xd,xe,xf,xg,xh⟩,hxe⟩:=ex (BX t);have K57:=fun W hbW=>h57.out W k t hbW ht
   rw [hxe] at K57 K88;simp only at K57 K88;have L57 : Hid (∀ W,BW wr W → Calls Tryz.prog 57 #[.agg #[iv slo,iv shi,iv mlo,iv mhi,iv bite,.slice A n cap,iv dlo,iv dhi,iv sink],iv k] W fun e w'=>e = .returned (.agg #[iv xa,iv xb,iv xc,iv xd,iv xe,iv xf,iv xg,iv xh]) ∧ BW wr w'):=Lq fun W hbW=>(K57 W (belowT (belowT HB8.out HBR.out) hbW)).mono fun _ _ h=>⟨h.1,belowT hbW h.2⟩
   have L88 : Hid (∀ W,BW wr W → Calls Tryz.prog 88 #[.agg #[iv slo,iv shi,iv mlo,iv mhi,iv bite,.slice A n cap,iv dlo,iv dhi,iv sink],.agg #[iv xa,iv xb,iv xc,iv xd,iv xe,iv xf,iv xg,iv xh],iv bal] W fun e w'=>e = .returned (.bool r) ∧ BW wr w'):=Lq fun W hbW=>(K88 W).mono fun _ _ h=>⟨h.1,belowT hbW h.2⟩
   have HSNK:=Lq hsn;have HBD:=Lq (belowDr (belowR wr));have HS2 : Hid (∀ W,BW wr W → W.cell? ⟨g10,0,none⟩ = some (iv slo) ∧ W.cell? ⟨g10,1,none⟩ = some (iv shi) ∧ W.cell? ⟨g10,2,none⟩ = some (iv mlo) ∧ W.cell? ⟨g10,3,none⟩ = some (iv mhi) ∧ W.cell? ⟨g10,4,none⟩ = some (iv bite) ∧ W.cell? ⟨g10,5,none⟩ = some (.slice A n cap) ∧ W.cell? ⟨g10,6,none⟩ = some (iv dlo) ∧ W.cell? ⟨g10,7,none⟩ = some (iv dhi) ∧ W.cell? ⟨g10,8,none⟩ = some (iv sink)):=Lq fun W hb=>HS.out W (belowT HBR.out hb)
   obtain ⟨z0,z1,z2,z3,z4,z5,z6,z7,z8⟩:=HS.out _ HBR.out;clear hsn K57 K88 ht hr hxe;go_wp2_with fail
   go_region_held3 (fun W=>W.cell? ⟨g10,0,none⟩ = some (iv slo) ∧ W.cell? ⟨g10,1,none⟩ = some (iv shi) ∧ W.cell? ⟨g10,2,none⟩ = some (iv mlo) ∧ W.cell? ⟨g10,3,none⟩ = some (iv mhi) ∧ W.cell? ⟨g10,4,none⟩ = some (iv bite) ∧ W.cell? ⟨g10,5,none⟩ = some (.slice A n cap) ∧ W.cell? ⟨g10,6,none⟩ = some (iv dlo) ∧ W.cell? ⟨g10,7,none⟩ = some (iv dhi) ∧ W.cell? ⟨g10,8,none⟩ = some (iv sink)) (first | with_reducible exact HS2.out _ HBD.out | (refine HS2.out _ ?_; assumption)) ((first | (go_at_call 57; ((with_reducible refine (L57.out _ HBD.out).mono ?_); rintro e wa ⟨rfl,hb1⟩)) | (go_at_call 88; ((with_reducible refine (L88.out _ hb1).mono ?_); rintro e wb ⟨rfl,hb2⟩))))
   have HBK:=Lq (belowT HBR.out hb2);have HRK:=Lq (own_below HRW.out hb2);clear hb1 hb2 z0 z1 z2 z3 z4 z5 z6 z7 z8 L57 L88 HRW HBR HBD HS2;cases r with
   | false =>
    go_wp2_with fail
    go_roundw
    case measure=>simp [intOf]; omega
    case rel =>
     refine ⟨k + 1,by omega,by go_num,Lq ?_,HBK⟩
     rw [HSNK.out]
     simpa using HRK.out
   | true =>
    obtain ⟨i3,hi3,hz30,hz31,hz32⟩:=info_parts Tryz.info3;have HAL:=Lq (HRK.out.alloc (.cells #[iv k] 3));have hlen:=HLN.out k;go_wp2_with (at_builtin; refine wpList_append_own _ rfl _ _ 69 rfl w8.heap.size 3 i3 (.int .i64 0) 1 8 Tryz.underlying69 hi3 hz30 hz31 hz32 rfl (by decide) _ _ _ rfl HAL.out ⟨wb.heap.size,0,none⟩ 1 1 [iv k] rfl rfl (one_new _ _ _) ?f2 ?f3 ?f4 ?f5 ?_)
    case f2=>simp [Value.oneCell']
    case f3=>unfold maxLen; omega
    case f4=>omega
    case f5=>have:=HBK.out.size; (try simp only [World.size_alloc]); omega
    intro v9 w9 hown9 hg9 _;have HB9:=Lq (grownB HAL.out hg9 (Nat.le_refl _) (belowA HBK.out _));have HO9:=Lq hown9;clear hown9 hg9;go_wp2_with fail
    go_roundw
    case measure=>simp [intOf]; omega
    case rel =>
     refine ⟨k + 1,by omega,by go_num,Lq ?_,HB9⟩
     rw [HSNK.out]
     simpa using HO9.out
  ·obtain rfl : k = n:=by omega
   obtain ⟨A',c',rfl,hrd,_⟩:=own1_rd HRW.out;have HRD:=Lq hrd;clear hrd;go_wp2_with fail
   go_ret2
   exact ⟨A',c',rfl,HRD.out,belowT HB8.out HBR.out⟩
structure FirstAt (b : TdB) (s : TdS) (ts : List TdT) (day : Int) (i : Nat) (t : TdT) : Prop where
 at' : ts[i]? = some t
 ok : day ≤ t.day
 l : 0 ≤ leastV (doesB b s t)
 early : ∀ j u,j < i → ts[j]? = some u → u.day < day
theorem first42_any (A : Option Addr) (ts : List TdT) (cap i0 : Nat) (t0 : TdT) (b : TdB) (s : TdS) (day : Int) (w : World) (H : TsRd w w.heap.size A cap ts) (hb : BeachOk b ts) (hs : ShOk s) (hd : 0 ≤ day ∧ day ≤ 40000) (hF : FirstAt b s ts day i0 t0) :
  Calls Tryz.prog 42 #[bV b A ts.length cap,sV s,iv day] w (Rt w (.tuple #[iv i0,iv (leastV (doesB b s t0)),iv 0])):=by
 have htl:=hb.ts.len;have hop : Hid (∀ W,BW w W → Calls Tryz.prog 55 #[bV b A ts.length cap,sV s,iv 0,iv 0] W (Rt W (.tuple #[bchV b s A ts.length cap,iv 0]))):=Lq fun W hbW=>open55_any A ts cap b s 0 0 W ((H.below hbW (Nat.le_refl _)).more hbW.size) hb hs ⟨by omega,by omega⟩ (by omega)
 have hle : Hid (∀ W,BW w W → Calls Tryz.prog 89 #[.func (.func 90) #[voyV b s A ts.length cap i0] #[]] W (Rt W (iv (leastV (doesB b s t0))))):=Lq fun W hbW=>least_tide A ts cap i0 t0 b s W ((H.below hbW (Nat.le_refl _)).more hbW.size) hb hs hF.at'
 have HTS : Hid (∀ W,BW w W → TsRd W W.heap.size A cap ts):=Lq fun W hbW=>(H.below hbW (Nat.le_refl _)).more hbW.size
 obtain ⟨r,hr⟩:=ex (leastV (doesB b s t0));have hr0:=hF.l;rw [hr] at hle hr0 ⊢;have HF:=Lq (show ts[i0]? = some t0 ∧ day ≤ t0.day ∧ ∀ (j : Nat) u,j < i0 → ts[j]? = some u → u.day < day from ⟨hF.at',hF.ok,hF.early⟩)
 have hi0:=(List.getElem?_eq_some_iff.1 hF.at').1;obtain ⟨slo,shi,mlo,mhi,bite⟩:=b;obtain ⟨dlo,dhi,sink⟩:=s;simp only [bV,sV,bchV,voyV] at hop hle ⊢;obtain ⟨h1,h2⟩:=hd;have HEX : Hid (∀ k,k < ts.length → ∃ t,ts[k]? = some t):=Lq fun k hk=>⟨_,List.getElem?_eq_getElem hk⟩
 obtain ⟨n,hn⟩:=ex ts.length;have hn12 : n ≤ 12:=by omega
 rw [hn] at hop hle HEX hi0 ⊢;obtain ⟨W1,hW1⟩:=ex (w.alloc (.cells #[iv slo,iv shi,iv mlo,iv mhi,iv bite,.slice A n cap] 32));obtain ⟨W2,hW2⟩:=ex (W1.alloc (.cells #[iv dlo,iv dhi,iv sink] 41));have b1 : BW w W1:=by rw [← hW1]; exact belowA (belowR w) _
 have b2 : BW W1 W2:=by rw [← hW2]; exact belowA (belowR _) _
 have q1 : Blk W1 w.heap.size 32 #[iv slo,iv shi,iv mlo,iv mhi,iv bite,.slice A n cap]:=by rw [← hW1]; exact Blk.new w 32 _
 have q2 : Blk W2 W1.heap.size 41 #[iv dlo,iv dhi,iv sink]:=by rw [← hW2]; exact Blk.new W1 41 _
 obtain ⟨g3,hg3⟩:=ex w.heap.size;obtain ⟨g4,hg4⟩:=ex W1.heap.size;rw [hg3] at q1;rw [hg4] at q2;have q13:=q1.keep b2;obtain ⟨x0,x1,x2,x3,x4,x5⟩:=q13.c6;obtain ⟨y0,y1,y2⟩:=q2.c3;have HB2:=Lq (belowT b1 b2);clear b1 b2 q1 q2 q13;have HNN:=Lq hn;clear H hb hs hn htl hr hF;have hmf : ∀ (fn : Fn) (first cap : Array Value) (w : World),(Instr.makeFunc fn first cap).run Tryz.prog w = .ok (.func fn first cap) w:=fun _ _ _ _=>rfl
 go_enter Tryz.func42,Tryz.ntmps42
 go_wp2_with fail
 refine (hop.out _ HB2.out).mono ?_;rintro e w4 ⟨rfl,hb4⟩;have HB4:=Lq (belowT HB2.out hb4);clear x0 x1 x2 x3 x4 x5 y0 y1 y2 hW1 hW2 hg3 hg4 hb4 hop;obtain ⟨Wa,w8,hWa,hW8,hb8,hqa,hba,hq8⟩:=nineMade w4 119 (iv 0) (iv 0) (iv 0) (iv 0) (iv 0) (.slice none 0 0) (iv 0) (iv 0) (iv 0) (iv slo) (iv shi) (iv mlo) (iv mhi) (iv bite) (.slice A n cap) (iv dlo) (iv dhi) (iv sink);obtain ⟨g10,hg10⟩:=ex w4.heap.size;rw [hg10] at hW8 hqa hq8;obtain ⟨af0,af1,af2,af3,af4,af5,af6,af7,af8⟩:=hqa.f9;obtain ⟨ac0,ac1,ac2,ac3,ac4,ac5,ac6,ac7,ac8⟩:=hqa.c9;have al:=hqa.lt;have HB8:=Lq (belowT HB4.out hb8);have HS : Hid (∀ W,BW w8 W → W.cell? ⟨g10,0,none⟩ = some (iv slo) ∧ W.cell? ⟨g10,1,none⟩ = some (iv shi) ∧ W.cell? ⟨g10,2,none⟩ = some (iv mlo) ∧ W.cell? ⟨g10,3,none⟩ = some (iv mhi) ∧ W.cell? ⟨g10,4,none⟩ = some (iv bite) ∧ W.cell? ⟨g10,5,none⟩ = some (.slice A n cap) ∧ W.cell? ⟨g10,6,none⟩ = some (iv dlo) ∧ W.cell? ⟨g10,7,none⟩ = some (iv dhi) ∧ W.cell? ⟨g10,8,none⟩ = some (iv sink)):=Lq fun W hb=>have k:=hq8.keep hb; ⟨k.c 0,k.c 1,k.c 2,k.c 3,k.c 4,k.c 5,k.c 6,k.c 7,k.c 8⟩
 have k5:=hq8.c 5;clear hb8 hqa hba hq8;go_wp2_with fail
 clear af0 ac0 af1 ac1 af2 ac2 af3 ac3 af4 ac4 af5 ac5 af6 ac6 af7 ac7 af8 ac8 al hWa hW8 hg10 k5;go_loopw [34] (fun i wr=>∃ k : Nat,k ≤ i0 ∧ i = iv k ∧ Hid (BW w8 wr)) (fun i _=>n - (intOf i).toNat)
 case atStart=>exact ⟨0,by omega,rfl,Lq (belowR _)⟩
 case round =>
  obtain ⟨k,hk,rfl,HBR⟩:=hrel;have hk0 : (0 : Int) ≤ (k : Int):=by omega
  have hlt : k < n:=by omega
  obtain ⟨t,ht⟩:=HEX.out k hlt;obtain ⟨bb,off,hA,hbb,c0,c1,c2,c3,c4⟩:=(HTS.out wr (belowT HB8.out HBR.out)).at ht;have HTK:=Lq ht;obtain ⟨td,t1,t2,t3,t4⟩:=t;simp only at c0 c1 c2 c3 c4;subst hA;obtain ⟨Wx,w5,hWx,hW5,hb5,hqx,hbx,hq5⟩:=fiveMade wr 141 (iv 0) (iv 0) (iv 0) (iv 0) (iv 0) (iv td) (iv t1) (iv t2) (iv t3) (iv t4);obtain ⟨g11,hg11⟩:=ex wr.heap.size;rw [hg11] at hW5 hqx hq5;have hbn : bb ≠ g11:=by omega
  have HB5:=Lq (belowT HBR.out hb5);obtain ⟨f0,f1,f2,f3,f4⟩:=hqx.f5;obtain ⟨e0,e1,e2,e3,e4⟩:=hqx.c5;have el:=hqx.lt;have d0:=hq5.c 0;obtain ⟨z0,z1,z2,z3,z4,z5,z6,z7,z8⟩:=HS.out _ HB5.out;clear hb5 hqx hbx hq5 ht;by_cases hki : k < i0
  ·have htd : td < day:=HF.out.2.2 k _ hki HTK.out;go_wp2_with fail
   clear c0 c1 c2 c3 c4 f0 f1 f2 f3 f4 e0 e1 e2 e3 e4 el d0 hWx hW5 hg11 z0 z1 z2 z3 z4 z5 z6 z7 z8;go_roundw
   case measure=>simp [intOf]; omega
   case rel=>exact ⟨k + 1,by omega,by go_num,HB5⟩
  ·obtain rfl : k = i0:=by omega
   have htd : ¬ td < day:=by
    have h:=HF.out.1;rw [HTK.out] at h;injection h with h
    have h2:=HF.out.2.1;rw [← h] at h2;simp only at h2;omega
   go_wp2_with fail
   clear c0 c1 c2 c3 c4 f0 f1 f2 f3 f4 e0 e1 e2 e3 e4 el d0 hWx hW5 hg11 z0 z1 z2 z3 z4 z5 z6 z7 z8;refine (hle.out _ (belowT HB8.out HB5.out)).mono ?_;rintro e w9 ⟨rfl,hb9⟩;have HB9:=Lq (belowT (belowT HB8.out HB5.out) hb9);clear hb9;go_wp2_with fail
   go_ret3
   exact ⟨rfl,HB9.out⟩
noncomputable def ops43_18 : Array Oper:=opsOf (regionOf Tryz.f43 18)
theorem reg43_18 {Q : Exit → Act → World → Prop} {V : World} {T0 : Array Value} {g8 g11 g13 n cap : Nat} {A : Option Addr} {slo shi mlo mhi bite dlo dhi sink bal n0 n1 n2 n3 r : Int}
  (HS : Hid (∀ W,OnlyAt V W g8 → W.cell? ⟨g11,0,none⟩ = some (iv slo) ∧ W.cell? ⟨g11,1,none⟩ = some (iv shi) ∧ W.cell? ⟨g11,2,none⟩ = some (iv mlo) ∧ W.cell? ⟨g11,3,none⟩ = some (iv mhi) ∧ W.cell? ⟨g11,4,none⟩ = some (iv bite) ∧ W.cell? ⟨g11,5,none⟩ = some (.slice A n cap) ∧ W.cell? ⟨g11,6,none⟩ = some (iv dlo) ∧ W.cell? ⟨g11,7,none⟩ = some (iv dhi) ∧ W.cell? ⟨g11,8,none⟩ = some (iv sink) ∧ W.cell? ⟨g13,0,none⟩ = some (iv n0) ∧ W.cell? ⟨g13,1,none⟩ = some (iv n1) ∧ W.cell? ⟨g13,2,none⟩ = some (iv n2) ∧ W.cell? ⟨g13,3,none⟩ = some (iv n3))) (Q8 : Hid (Blk V g8 100 #[iv 0,iv 0,iv 0,iv 0])) (H104 : Hid (∀ W (ga gb gc : Nat),AtAt W ga gb gc sink bal 0 → Calls Tryz.prog 104 #[.agg #[iv n0,iv n1,iv n2,iv n3],.pointer (some ⟨ga,0,none⟩),.pointer (some ⟨gb,0,none⟩),.pointer (some ⟨gc,0,none⟩)] W fun e w'=>∃ v,e = .returned v ∧ v = iv r ∧ BW W w'))
  (HT : Has 77 T0 [(3,iv bal),(8,.pointer (some ⟨g8,0,none⟩)),(11,.pointer (some ⟨g11,0,none⟩)),(13,.pointer (some ⟨g13,0,none⟩))])
  (HQ : Hid (∀ T W',OnlyAt V W' g8 → Blk W' g8 100 #[iv n0,iv n1,iv n2,iv n3] → Has 77 T [(8,.pointer (some ⟨g8,0,none⟩)),(9,iv r),(10,iv 0)] → Q .normal ⟨T,[]⟩ W')) :
  (regionOf Tryz.f43 18).wp Tryz.prog Q ⟨T0,[]⟩ V:=by
 refine ge0 (S:=fun W=>W.cell? ⟨g11,0,none⟩ = some (iv slo) ∧ W.cell? ⟨g11,1,none⟩ = some (iv shi) ∧ W.cell? ⟨g11,2,none⟩ = some (iv mlo) ∧ W.cell? ⟨g11,3,none⟩ = some (iv mhi) ∧ W.cell? ⟨g11,4,none⟩ = some (iv bite) ∧ W.cell? ⟨g11,5,none⟩ = some (.slice A n cap) ∧ W.cell? ⟨g11,6,none⟩ = some (iv dlo) ∧ W.cell? ⟨g11,7,none⟩ = some (iv dhi) ∧ W.cell? ⟨g11,8,none⟩ = some (iv sink) ∧ W.cell? ⟨g13,0,none⟩ = some (iv n0) ∧ W.cell? ⟨g13,1,none⟩ = some (iv n1) ∧ W.cell? ⟨g13,2,none⟩ = some (iv n2) ∧ W.cell? ⟨g13,3,none⟩ = some (iv n3)) (r:=18) (m:=17) (ops:=ops43_18) (listed:=bm 17 0) (fun W hb=>HS.out W (OnlyAt.of_below hb g8)) fun V0 hb0 hS0=>?_
 have B0:=Lq (OnlyAt.of_below hb0 g8);have G8_0:=Lq (Q8.out.keep hb0);have H0:=HT;clear hb0 HT;have x13:=H0.g 13;refine geTake 0 63 (.pointer (some ⟨g13,0,none⟩)) H0 ?_ (l1:=bm 17 1);intro T1 H1;clear H0 x13;have x63:=H1.g 63;refine geTake 1 64 (iv n0) H1 ?_ (l1:=bm 17 3);intro T2 H2;clear H1 x63;have x13:=H2.g 13;refine geTake 2 65 (.pointer (some ⟨g13,1,none⟩)) H2 ?_ (l1:=bm 17 7);intro T3 H3;clear H2 x13;have x65:=H3.g 65;refine geTake 3 66 (iv n1) H3 ?_ (l1:=bm 17 15);intro T4 H4;clear H3 x65;have x13:=H4.g 13;refine geTake 4 67 (.pointer (some ⟨g13,2,none⟩)) H4 ?_ (l1:=bm 17 31);intro T5 H5;clear H4 x13;have x67:=H5.g 67;refine geTake 5 68 (iv n2) H5 ?_ (l1:=bm 17 63);intro T6 H6;clear H5 x67;have x13:=H6.g 13;refine geTake 6 69 (.pointer (some ⟨g13,3,none⟩)) H6 ?_ (l1:=bm 17 127);intro T7 H7;clear H6 x13;have x69:=H7.g 69;refine geTake 7 70 (iv n3) H7 ?_ (l1:=bm 17 255);intro T8 H8;clear H7 x69;have x64:=H8.g 64;have x66:=H8.g 66;have x68:=H8.g 68;have x70:=H8.g 70;refine geTake 8 71 (.agg #[iv n0,iv n1,iv n2,iv n3]) H8 ?_ (l1:=bm 17 511);intro T9 H9;clear H8 x64 x66 x68 x70;have x11:=H9.g 11;refine geTake 9 72 (.agg #[iv slo,iv shi,iv mlo,iv mhi,iv bite,.slice A n cap,iv dlo,iv dhi,iv sink]) H9 ?_ (l1:=bm 17 1023);intro T10 H10;clear H9 x11;have x3:=H10.g 3;refine geTake 10 73 (iv bal) H10 ?_ (l1:=bm 17 2047);intro T11 H11;clear H10 x3;have x13:=H11.g 13;refine geTake 12 75 (.agg #[iv n0,iv n1,iv n2,iv n3]) H11 ?_ (l1:=bm 17 6143);intro T12 H12;clear H11 x13;refine geOne 11 ?_ (l1:=bm 17 8191);have x72:=H12.g 72;have x73:=H12.g 73;refine geCall 74 59 #[.agg #[iv slo,iv shi,iv mlo,iv mhi,iv bite,.slice A n cap,iv dlo,iv dhi,iv sink],iv bal,iv 0] H12 (gdC4 HS.out (fun _ hb=>(onlyAt_trans B0.out (OnlyAt.of_below hb g8))) (at59_blk ⟨slo,shi,mlo,mhi,bite⟩ ⟨dlo,dhi,sink⟩ A n cap bal 0 V0)) ?_
 rintro v w13 T13 hS13 ⟨⟨ga13,gb13,gc13,rfl,hat13⟩,hb13⟩ H13;clear H12 x72 x73 hS0;have B13:=Lq (onlyAt_trans B0.out (OnlyAt.of_below hb13 g8));have G8_13:=Lq (G8_0.out.keep hb13);have AT_13:=Lq hat13;clear hat13;clear hb13;refine geOne 13 ?_ (l1:=bm 17 16383);have x74:=H13.g 74;have x75:=H13.g 75;refine geCall 76 104 #[.agg #[iv n0,iv n1,iv n2,iv n3],.pointer (some ⟨ga13,0,none⟩),.pointer (some ⟨gb13,0,none⟩),.pointer (some ⟨gc13,0,none⟩)] H13 (gdC4 HS.out (fun _ hb=>(onlyAt_trans B13.out (OnlyAt.of_below hb g8))) (H104.out _ _ _ _ AT_13.out)) ?_
 rintro v w14 T14 hS14 ⟨rfl,hb14⟩ H14;clear H13 x74 x75 hS13;have B14:=Lq (onlyAt_trans B13.out (OnlyAt.of_below hb14 g8));have G8_14:=Lq (G8_13.out.keep hb14);have AT_14:=Lq (AT_13.out.below hb14);clear hb14;refine geOne 14 ?_ (l1:=bm 17 32767);have x8:=H14.g 8;have x71:=H14.g 71;have hb15 : OnlyAt V ((((w14.setCell ⟨g8,0,none⟩ (iv n0)).setCell ⟨g8,1,none⟩ (iv n1)).setCell ⟨g8,2,none⟩ (iv n2)).setCell ⟨g8,3,none⟩ (iv n3)) g8:=((((B14.out.set 0 _).set 1 _).set 2 _).set 3 _);have hq15:=((((G8_14.out.set_ 0 (iv n0)).set_ 1 (iv n1)).set_ 2 (iv n2)).set_ 3 (iv n3));simp only [List.setIfInBounds_toArray,List.set_cons_zero,List.set_cons_succ] at hq15;have HSS15:=Lq (HS.out _ hb15);have B15b:=Lq hb15;have Q15:=Lq hq15;clear hb15 hq15;have q0:=G8_14.out.c 0;have f0:=G8_14.out.frozen 0;have q1:=G8_14.out.c 1;have f1:=G8_14.out.frozen 1;have q2:=G8_14.out.c 2;have f2:=G8_14.out.frozen 2;have q3:=G8_14.out.c 3;have f3:=G8_14.out.frozen 3;have ql:=G8_14.out.lt;refine geStore ((((w14.setCell ⟨g8,0,none⟩ (iv n0)).setCell ⟨g8,1,none⟩ (iv n1)).setCell ⟨g8,2,none⟩ (iv n2)).setCell ⟨g8,3,none⟩ (iv n3)) H14 ?_ HSS15.out;intro T15 H15;clear H14 x8 x71 q0 f0 q1 f1 q2 f2 q3 f3 ql hS14;have hS15:=HSS15.out;have x76:=H15.g 76;refine geTake 15 9 (iv r) H15 ?_ (l1:=bm 17 65535);intro T16 H16;clear H15 x76;refine geTake 16 10 (iv 0) H16 ?_ (l1:=bm 17 131071);intro T17 H17;clear H16 ;refine wpAnyH_done (by kernel_rfl) ?_ _
 exact NoPanic.normal (HQ.out _ _ B15b.out Q15.out ((Has.cons (H17.get 8 _) (Has.cons (H17.get 9 _) (Has.cons (H17.get 10 _) (Has.nil H17.1))))))
end Go.Proofs.YtpgfldcoojfheaaGreatDoor
