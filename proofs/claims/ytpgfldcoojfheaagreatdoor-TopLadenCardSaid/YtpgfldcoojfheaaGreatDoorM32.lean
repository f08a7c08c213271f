/- tide: Misses (printed by mkHT18.py). -/
import Derived.Test.YtpgfldcoojfheaaGreatDoorM0
import Derived.Test.YtpgfldcoojfheaaGreatDoorM7
import Derived.Test.YtpgfldcoojfheaaGreatDoorM31
set_option maxRecDepth 1000000
set_option maxHeartbeats 16000000
namespace Go.Proofs.YtpgfldcoojfheaaGreatDoor
open Go.RowKit
theorem eightMade (wr : World) (t : TypeId) (a0 a1 a2 a3 a4 a5 a6 a7 b0 b1 b2 b3 b4 b5 b6 b7 : Value) : ∃ Wa W2,wr.alloc (.cells #[a0,a1,a2,a3,a4,a5,a6,a7] t) = Wa ∧ ((((((((Wa.setCell ⟨wr.heap.size,0,none⟩ b0).setCell ⟨wr.heap.size,1,none⟩ b1).setCell ⟨wr.heap.size,2,none⟩ b2).setCell ⟨wr.heap.size,3,none⟩ b3).setCell ⟨wr.heap.size,4,none⟩ b4).setCell ⟨wr.heap.size,5,none⟩ b5).setCell ⟨wr.heap.size,6,none⟩ b6).setCell ⟨wr.heap.size,7,none⟩ b7) = W2 ∧ BW wr W2 ∧ Blk Wa wr.heap.size t #[a0,a1,a2,a3,a4,a5,a6,a7] ∧ BW wr Wa ∧ Blk W2 wr.heap.size t #[b0,b1,b2,b3,b4,b5,b6,b7]:=by
 refine ⟨_,_,rfl,rfl, ?_,Blk.new wr t _,belowA (belowR _) _, ?_⟩
 ·exact (((((((((OnlyAt.of_below (belowR _) wr.heap.size).set 0 _).set 1 _).set 2 _).set 3 _).set 4 _).set 5 _).set 6 _).set 7 _).below (belowA (belowR _) _) (Nat.le_refl _)
 ·have h:=(((((((((Blk.new wr t #[a0,a1,a2,a3,a4,a5,a6,a7]).set_ 0 b0).set_ 1 b1).set_ 2 b2).set_ 3 b3).set_ 4 b4).set_ 5 b5).set_ 6 b6).set_ 7 b7)
  simpa using h
structure MissOk (W : BxT → Bool) (x : BxT) (n0 n1 n2 n3 : Int) : Prop where
 w : W x = false
 m0 : (x.slo ≤ n0 ∧ n0 ≤ x.shi) ∧ (∀ m,x.slo ≤ m → m < n0 → W ⟨m,m,x.dlo,x.dhi,x.hlo,x.hhi,x.wlo,x.whi⟩ = true) ∧ W ⟨n0,n0,x.dlo,x.dhi,x.hlo,x.hhi,x.wlo,x.whi⟩ = false
 m1 : (x.dlo ≤ n1 ∧ n1 ≤ x.dhi) ∧ (∀ m,x.dlo ≤ m → m < n1 → W ⟨n0,n0,m,m,x.hlo,x.hhi,x.wlo,x.whi⟩ = true) ∧ W ⟨n0,n0,n1,n1,x.hlo,x.hhi,x.wlo,x.whi⟩ = false
 m2 : (x.hlo ≤ n2 ∧ n2 ≤ x.hhi) ∧ (∀ m,x.hlo ≤ m → m < n2 → W ⟨n0,n0,n1,n1,m,m,x.wlo,x.whi⟩ = true) ∧ W ⟨n0,n0,n1,n1,n2,n2,x.wlo,x.whi⟩ = false
 m3 : (x.wlo ≤ n3 ∧ n3 ≤ x.whi) ∧ (∀ m,x.wlo ≤ m → m < n3 → W ⟨n0,n0,n1,n1,n2,n2,m,m⟩ = true) ∧ W ⟨n0,n0,n1,n1,n2,n2,n3,n3⟩ = false
def misB (xa xb xc xd xe xf xg xh n0 n1 n2 n3 : Int) : Nat → Array Value
 | 0=>#[iv xa,iv xb,iv xc,iv xd,iv xe,iv xf,iv xg,iv xh]
 | 1=>#[iv n0,iv n0,iv xc,iv xd,iv xe,iv xf,iv xg,iv xh]
 | 2=>#[iv n0,iv n0,iv n1,iv n1,iv xe,iv xf,iv xg,iv xh]
 | 3=>#[iv n0,iv n0,iv n1,iv n1,iv n2,iv n2,iv xg,iv xh]
 | _=>#[iv n0,iv n0,iv n1,iv n1,iv n2,iv n2,iv n3,iv n3]
def misF (n0 n1 n2 n3 : Int) : Nat → Array Value
 | 0=>#[iv 0,iv 0,iv 0,iv 0]
 | 1=>#[iv n0,iv 0,iv 0,iv 0]
 | 2=>#[iv n0,iv n1,iv 0,iv 0]
 | 3=>#[iv n0,iv n1,iv n2,iv 0]
 | _=>#[iv n0,iv n1,iv n2,iv n3]
theorem misses43_any (A : Option Addr) (ts : List TdT) (cap k : Nat) (t : TdT) (b : TdB) (s : TdS) (bal n0 n1 n2 n3 : Int) (w : World) (H : TsRd w w.heap.size A cap ts) (hb : BeachOk b ts) (hs : ShOk s) (ht : ts[k]? = some t) (hl : 0 ≤ bal ∧ bal ≤ 40) (hM : MissOk (fun x=>withinB b s x bal) (boxOf b s t) n0 n1 n2 n3) :
  Calls Tryz.prog 43 #[bV b A ts.length cap,sV s,iv k,iv bal] w (Rt w (.tuple #[.agg #[iv n0,iv n1,iv n2,iv n3],iv (atV s.sink bal 0 ⟨n0,n1,n2,n3⟩),iv 0])):=by
 have hkl:=(List.getElem?_eq_some_iff.1 ht).1;have hop : Hid (∀ W,BW w W → Calls Tryz.prog 55 #[bV b A ts.length cap,sV s,iv k,iv bal] W (Rt W (.tuple #[bchV b s A ts.length cap,iv 0]))):=Lq fun W hbW=>open55_any A ts cap b s k bal W ((H.below hbW (Nat.le_refl _)).more hbW.size) hb hs ⟨by omega,by omega⟩ hl
 have h57 : Hid (∀ W,BW w W → Calls Tryz.prog 57 #[bchV b s A ts.length cap,iv k] W (Rt W (bxV (boxOf b s t)))):=Lq fun W hbW=>box57_any A ts cap k t b s W ((H.below hbW (Nat.le_refl _)).more hbW.size) ht
 have HWI : Hid (∀ W x,BxOk x → Calls Tryz.prog 88 #[bchV b s A ts.length cap,bxV x,iv bal] W (Rt W (.bool (withinB b s x bal)))):=Lq fun W x hx=>within88_any b s A ts.length cap x bal W hx ⟨hs.sink,hl,by omega⟩
 have hx:=boxOf_ok hb hs ht;have hk2 : SbOk s.sink bal 0:=⟨hs.sink,hl,by omega⟩
 obtain ⟨WB,hWB⟩:=ex (fun x=>withinB b s x bal)
 have hWB2 : ∀ x,withinB b s x bal = WB x:=fun x=>by rw [← hWB]
 rw [hWB] at hM;simp only [hWB2] at HWI;obtain ⟨r,hr⟩:=ex (atV s.sink bal 0 ⟨n0,n1,n2,n3⟩);obtain ⟨x,hxe⟩:=ex (boxOf b s t);rw [hxe] at h57 hx hM;obtain ⟨xa,xb,xc,xd,xe,xf,xg,xh⟩:=x;obtain ⟨hMw,hM0,hM1,hM2,hM3⟩:=hM;simp only at hMw hM0 hM1 hM2 hM3;have hx1:=hx.s;have hx2:=hx.d;have hx3:=hx.h;have hx4:=hx.w;simp only at hx1 hx2 hx3 hx4;have HOKB0 : Hid (∀ m,xa ≤ m → m ≤ xb → BxOk ⟨m,m,xc,xd,xe,xf,xg,xh⟩):=Lq fun m h1 h2=>⟨by simp only; omega,hx2,hx3,hx4⟩
 have HOKB1 : Hid (∀ m,xc ≤ m → m ≤ xd → BxOk ⟨n0,n0,m,m,xe,xf,xg,xh⟩):=Lq fun m h1 h2=>⟨by simp only; omega,by simp only; omega,hx3,hx4⟩
 have HOKB2 : Hid (∀ m,xe ≤ m → m ≤ xf → BxOk ⟨n0,n0,n1,n1,m,m,xg,xh⟩):=Lq fun m h1 h2=>⟨by simp only; omega,by simp only; omega,by simp only; omega,hx4⟩
 have HOKB3 : Hid (∀ m,xg ≤ m → m ≤ xh → BxOk ⟨n0,n0,n1,n1,n2,n2,m,m⟩):=Lq fun m h1 h2=>⟨by simp only; omega,by simp only; omega,by simp only; omega,by simp only; omega⟩
 have HXO : Hid ((-9000 ≤ xa ∧ xb ≤ 9000) ∧ (-9000 ≤ xc ∧ xd ≤ 9000) ∧ (-9000 ≤ xe ∧ xf ≤ 9000) ∧ (-9000 ≤ xg ∧ xh ≤ 9000)):=Lq (by omega)
 have h104 : Hid (∀ W (ga gb gc : Nat),AtAt W ga gb gc s.sink bal 0 → Calls Tryz.prog 104 #[.agg #[iv n0,iv n1,iv n2,iv n3],.pointer (some ⟨ga,0,none⟩),.pointer (some ⟨gb,0,none⟩),.pointer (some ⟨gc,0,none⟩)] W fun e w'=>∃ v,e = .returned v ∧ v = iv r ∧ BW W w'):=Lq fun W ga gb gc h=>(at104_any ga gb gc ⟨n0,n1,n2,n3⟩ s.sink bal 0 W h ⟨by simp only; omega,by simp only; omega,by simp only; omega,by simp only; omega⟩ hk2).mono fun _ _ h=>⟨_,h.1,by rw [← hr],h.2⟩
 have h88x:=fun W=>HWI.out W _ hx
 rw [hMw] at h88x;have HM0:=Lq hM0;have HM1:=Lq hM1;have HM2:=Lq hM2;have HM3:=Lq hM3;have H88X:=Lq h88x;rw [hr];obtain ⟨slo,shi,mlo,mhi,bite⟩:=b;obtain ⟨dlo,dhi,sink⟩:=s;simp only [bV,sV,bchV,bxV] at hop h57 HWI H88X h104 ⊢;obtain ⟨n,hn⟩:=ex ts.length;rw [hn] at hop h57 HWI H88X ⊢;obtain ⟨W1,hW1⟩:=ex (w.alloc (.cells #[iv slo,iv shi,iv mlo,iv mhi,iv bite,.slice A n cap] 32));obtain ⟨W2,hW2⟩:=ex (W1.alloc (.cells #[iv dlo,iv dhi,iv sink] 41));obtain ⟨W3,hW3⟩:=ex (W2.alloc (.cells #[iv 0,iv 0,iv 0,iv 0] 100));have b1 : BW w W1:=by rw [← hW1]; exact belowA (belowR w) _
 have b2 : BW W1 W2:=by rw [← hW2]; exact belowA (belowR _) _
 have b3 : BW W2 W3:=by rw [← hW3]; exact belowA (belowR _) _
 have q1 : Blk W1 w.heap.size 32 #[iv slo,iv shi,iv mlo,iv mhi,iv bite,.slice A n cap]:=by rw [← hW1]; exact Blk.new w 32 _
 have q2 : Blk W2 W1.heap.size 41 #[iv dlo,iv dhi,iv sink]:=by rw [← hW2]; exact Blk.new W1 41 _
 have q3 : Blk W3 W2.heap.size 100 #[iv 0,iv 0,iv 0,iv 0]:=by rw [← hW3]; exact Blk.new W2 100 _
 obtain ⟨g4,hg4⟩:=ex w.heap.size;obtain ⟨g5,hg5⟩:=ex W1.heap.size;obtain ⟨g8,hg8⟩:=ex W2.heap.size;rw [hg4] at q1;rw [hg5] at q2;rw [hg8] at q3;have q13:=q1.keep (belowT b2 b3);have q23:=q2.keep b3;obtain ⟨x0,x1,x2,x3,x4,x5⟩:=q13.c6;obtain ⟨y0,y1,y2⟩:=q23.c3;have HB3:=Lq (belowT b1 (belowT b2 b3));have HQ3:=Lq q3;have HG8 : Hid (w.heap.size ≤ g8):=Lq (by have:=b1.size; have:=b2.size; omega)
 clear b1 b2 b3 q1 q2 q3 q13 q23 H hb hs ht hkl hn hx hxe hr hx1 hx2 hx3 hx4 hM0 hM1 hM2 hM3 h88x hMw hWB hWB2 hk2 hl;go_enter Tryz.func43,Tryz.ntmps43
 go_wp2_with fail
 refine wp_scope_straight ?_;go_wp2_with fail
 refine (hop.out _ HB3.out).mono ?_;rintro e w4 ⟨rfl,hb4⟩;have HB4:=Lq (belowT HB3.out hb4);have HQ34:=Lq (HQ3.out.keep hb4);clear x0 x1 x2 x3 x4 x5 y0 y1 y2 hW1 hW2 hW3 hg4 hg5 hg8 hb4 hop;obtain ⟨Wa,w8,hWa,hW8,hb8,hqa,hba,hq8⟩:=nineMade w4 119 (iv 0) (iv 0) (iv 0) (iv 0) (iv 0) (.slice none 0 0) (iv 0) (iv 0) (iv 0) (iv slo) (iv shi) (iv mlo) (iv mhi) (iv bite) (.slice A n cap) (iv dlo) (iv dhi) (iv sink);obtain ⟨g11,hg11⟩:=ex w4.heap.size;rw [hg11] at hW8 hqa hq8;obtain ⟨af0,af1,af2,af3,af4,af5,af6,af7,af8⟩:=hqa.f9;obtain ⟨ac0,ac1,ac2,ac3,ac4,ac5,ac6,ac7,ac8⟩:=hqa.c9;have al:=hqa.lt;have HB8:=Lq (belowT HB4.out hb8);have HQ38:=Lq (HQ34.out.keep hb8);have HQ11:=Lq hq8;have HN8 : Hid (g8 < g11):=Lq (by have:=HQ34.out.lt; omega)
 obtain ⟨z0,z1,z2,z3,z4,z5,z6,z7,z8⟩:=hq8.c9;clear hb8 hqa hba hq8;go_wp2_with fail
 clear af0 ac0 af1 ac1 af2 ac2 af3 ac3 af4 ac4 af5 ac5 af6 ac6 af7 ac7 af8 ac8 al hWa hW8 hg11;refine (h57.out _ HB8.out).mono ?_;rintro e w9 ⟨rfl,hb9⟩;have HB9:=Lq (belowT HB8.out hb9);have HQ39:=Lq (HQ38.out.keep hb9);have HQ119:=Lq (HQ11.out.keep hb9);clear hb9 z0 z1 z2 z3 z4 z5 z6 z7 z8;obtain ⟨Wx,wx,hWx,hWX,hbx,hqx,hby,hqX⟩:=eightMade w9 127 (iv 0) (iv 0) (iv 0) (iv 0) (iv 0) (iv 0) (iv 0) (iv 0) (iv xa) (iv xb) (iv xc) (iv xd) (iv xe) (iv xf) (iv xg) (iv xh);obtain ⟨g12,hg12⟩:=ex w9.heap.size;rw [hg12] at hWX hqx hqX;obtain ⟨af0,af1,af2,af3,af4,af5,af6,af7⟩:=hqx.f8;obtain ⟨ac0,ac1,ac2,ac3,ac4,ac5,ac6,ac7⟩:=hqx.c8;have al:=hqx.lt;have HBX:=Lq (belowT HB9.out hbx);have HQ3X:=Lq (HQ39.out.keep hbx);have hq11x:=HQ119.out.keep hbx;have HQ11X:=Lq hq11x;have HQ12:=Lq hqX;have HN12 : Hid (g11 < g12):=Lq (by have:=HQ119.out.lt; omega)
 obtain ⟨z0,z1,z2,z3,z4,z5,z6,z7,z8⟩:=hq11x.c9;obtain ⟨t0,t1,t2,t3,t4,t5,t6,t7⟩:=hqX.c8;clear hbx hqx hby hqX hq11x;go_wp2_with fail
 clear af0 ac0 af1 ac1 af2 ac2 af3 ac3 af4 ac4 af5 ac5 af6 ac6 af7 ac7 al hWx hWX hg12;refine (H88X.out _).mono ?_;rintro e wa ⟨rfl,hba⟩;have HQ3a:=Lq (HQ3X.out.keep hba);have HQ11a:=Lq (HQ11X.out.keep hba);have hq12a:=HQ12.out.keep hba;have HBa:=Lq (belowT HBX.out hba);clear hba z0 z1 z2 z3 z4 z5 z6 z7 z8 t0 t1 t2 t3 t4 t5 t6 t7;obtain ⟨w0,hw0⟩:=ex (wa.alloc (.cells #[iv 0,iv 0,iv 0,iv 0] 123));have hb0 : BW wa w0:=by rw [← hw0]; exact belowA (belowR _) _
 have hq13 : Blk w0 wa.heap.size 123 #[iv 0,iv 0,iv 0,iv 0]:=by rw [← hw0]; exact Blk.new wa 123 _
 obtain ⟨g13,hg13⟩:=ex wa.heap.size;rw [hg13] at hq13;have HQ30:=Lq (HQ3a.out.keep hb0);have HQ110:=Lq (HQ11a.out.keep hb0);have hq120:=hq12a.keep hb0;have HB0:=Lq (belowT HBa.out hb0);have HNE : Hid (g12 ≠ g13 ∧ g13 ≠ g12):=Lq (by have:=hq12a.lt; omega)
 have HNE2 : Hid (g8 < g11 ∧ g11 < g12 ∧ g12 < g13):=Lq ⟨HN8.out,HN12.out,by have:=hq12a.lt; omega⟩
 have HX0:=Lq hq120;have HF0:=Lq hq13;have HSB : Hid (∀ W,Two g12 g13 w0 W → W.cell? ⟨g11,0,none⟩ = some (iv slo) ∧ W.cell? ⟨g11,1,none⟩ = some (iv shi) ∧ W.cell? ⟨g11,2,none⟩ = some (iv mlo) ∧ W.cell? ⟨g11,3,none⟩ = some (iv mhi) ∧ W.cell? ⟨g11,4,none⟩ = some (iv bite) ∧ W.cell? ⟨g11,5,none⟩ = some (.slice A n cap) ∧ W.cell? ⟨g11,6,none⟩ = some (iv dlo) ∧ W.cell? ⟨g11,7,none⟩ = some (iv dhi) ∧ W.cell? ⟨g11,8,none⟩ = some (iv sink)):=Lq fun W ht=>have k:=ht.blk HQ110.out (by have:=HNE2.out; omega) (by have:=HNE2.out; omega); ⟨k.c 0,k.c 1,k.c 2,k.c 3,k.c 4,k.c 5,k.c 6,k.c 7,k.c 8⟩
 obtain ⟨t0,t1,t2,t3,t4,t5,t6,t7⟩:=hq120.c8;clear hb0 hq13 hq12a hq120;go_wp2_with fail
 refine wp_label ?_;go_wp2_with fail
 clear t0 t1 t2 t3 t4 t5 t6 t7 hw0 hg13;go_loopw [38] (fun i wr=>∃ k : Nat,k ≤ 4 ∧ i = iv k ∧ Hid (Blk wr g12 127 (misB xa xb xc xd xe xf xg xh n0 n1 n2 n3 k)) ∧ Hid (Blk wr g13 123 (misF n0 n1 n2 n3 k)) ∧ Hid (Two g12 g13 w0 wr)) (fun i _=>4 - (intOf i).toNat)
 case atStart=>exact ⟨0,by omega,rfl,HX0,HF0,Lq (Two.of_below (belowR _))⟩
 case round =>
  obtain ⟨k,hk,rfl,HBX,HFD,HTWO⟩:=hrel;by_cases hlt4 : k < 4
  ·have hk4 : k = 0 ∨ k = 1 ∨ k = 2 ∨ k = 3:=by omega
   rcases hk4 with rfl | rfl | rfl | rfl
   ·have hbx : Blk wr g12 127 #[iv xa,iv xb,iv xc,iv xd,iv xe,iv xf,iv xg,iv xh]:=HBX.out;have hfd : Blk wr g13 123 #[iv 0,iv 0,iv 0,iv 0]:=HFD.out;have hix:=(idx127 xa xb xc xd xe xf xg xh wr).1;obtain ⟨Wa,w3,hWa,hW3,hb3,hqa,hba,hq3⟩:=twoMade wr 29 (iv 0) (iv 0) (iv xa) (iv xb);obtain ⟨g15,hg15⟩:=ex wr.heap.size;rw [hg15] at hW3 hqa hq3;have f0:=hqa.frozen 0;have f1:=hqa.frozen 1;have e0:=hqa.c 0;have e1:=hqa.c 1;have el:=hqa.lt;have d0:=hq3.c 0;have d1:=hq3.c 1;have HQ3:=Lq hq3;have HX3 : Hid (Blk w3 g12 127 #[iv xa,iv xb,iv xc,iv xd,iv xe,iv xf,iv xg,iv xh]):=Lq (hbx.keep hb3);have HF3 : Hid (Blk w3 g13 123 #[iv 0,iv 0,iv 0,iv 0]):=Lq (hfd.keep hb3);have HTW : Hid (Two g12 g13 w0 w3):=Lq (HTWO.out.trans (Two.of_below hb3));have HNE3 : Hid (g12 < g15 ∧ g13 < g15):=Lq (by have:=hbx.lt; have:=hfd.lt; omega)
    obtain ⟨⟨hl1,hl2⟩,hin,hout⟩:=HM0.out;have HIN:=Lq hin;have HOU:=Lq hout;clear hb3 hqa hba hq3 hbx hfd hin hout;go_wp2_with fail
    clear f0 f1 e0 e1 el d0 d1 hWa hW3 hg15 hix;go_loopw [16] (fun i wr=>∃ (m p q : Int),xa ≤ m ∧ m ≤ n0 ∧ i = iv m ∧ Hid (Blk wr g15 29 #[iv xa,iv xb]) ∧ Hid (Blk wr g12 127 #[iv p,iv q,iv xc,iv xd,iv xe,iv xf,iv xg,iv xh]) ∧ Hid (Blk wr g13 123 #[iv 0,iv 0,iv 0,iv 0]) ∧ Hid (Two g12 g13 w0 wr)) (fun i _=>(n0 + 1 - intOf i).toNat)
    case atStart=>exact ⟨xa,xa,xb,Int.le_refl _,hl1,rfl,HQ3,HX3,HF3,HTW⟩
    case round =>
     clear HQ3 HX3 HF3 HTW;obtain ⟨m,p,q,hm1,hm2,rfl,HQ3,HX3,HF3,HTW⟩:=hrel;have hmh : m ≤ xb:=by omega
     have d1:=HQ3.out.c 1;have h91:=Lq (one91_any m wr);have hmw : IntKind.i64.wrap (m + 1) = m + 1:=by rw [IntKind.wrap_i64]; have:=HXO.out; omega
     have hww : wrap64 (m + 1) = m + 1:=by unfold wrap64; have:=HXO.out; omega
     go_wp2_with fail
     refine h91.out.mono ?_;rintro e w4 ⟨rfl,hb4⟩;have hx4:=HX3.out.keep hb4;have v0:=hx4.c 0;have v1:=hx4.c 1;have vf0:=hx4.frozen 0;have vf1:=hx4.frozen 1;have vl:=hx4.lt;obtain ⟨w5,hw5⟩:=ex ((w4.setCell ⟨g12,0,none⟩ (iv m)).setCell ⟨g12,1,none⟩ (iv m));have o5 : OnlyAt w4 w5 g12:=by rw [← hw5]; exact ((OnlyAt.of_below (belowR w4) g12).set 0 _).set 1 _
     have hx5 : Blk w5 g12 127 #[iv m,iv m,iv xc,iv xd,iv xe,iv xf,iv xg,iv xh]:=by
      rw [← hw5];have h:=(hx4.set_ 0 (iv m)).set_ 1 (iv m)
      simpa using h
     have hf4:=HF3.out.keep hb4;have hf5:=hf4.same (o5.block g13 hf4.lt HNE.out.2);have hq4:=HQ3.out.keep hb4;have hq5:=hq4.same (o5.block g15 hq4.lt (by have:=HNE3.out; omega))
     have htw5 : Two g12 g13 w0 w5:=(HTW.out.trans (Two.of_below hb4)).trans (Two.of_only o5);obtain ⟨z0,z1,z2,z3,z4,z5,z6,z7,z8⟩:=HSB.out w5 htw5;obtain ⟨t0,t1,t2,t3,t4,t5,t6,t7⟩:=hx5.c8;have HX5:=Lq hx5;have HF5:=Lq hf5;have HQ5:=Lq hq5;have HT5:=Lq htw5;clear hb4 hx4 o5 hx5 hf4 hf5 hq4 hq5 htw5 d1 h91 HX3 HF3 HQ3 HTW;by_cases hmn : m < n0
     ·have h88:=Lq (HWI.out w5 ⟨m,m,xc,xd,xe,xf,xg,xh⟩ (HOKB0.out m hm1 hmh));rw [HIN.out m hm1 hmn] at h88;simp only at h88;go_wp2_with fail
      refine h88.out.mono ?_;rintro e w6 ⟨rfl,hb6⟩;have HX6:=Lq (HX5.out.keep hb6);have HF6:=Lq (HF5.out.keep hb6);have HQ6:=Lq (HQ5.out.keep hb6);have HT6:=Lq (HT5.out.trans (Two.of_below hb6));clear hb6 v0 v1 vf0 vf1 vl hw5 z0 z1 z2 z3 z4 z5 z6 z7 z8 t0 t1 t2 t3 t4 t5 t6 t7 h88 HX5 HF5 HQ5 HT5;go_wp2_with fail
      go_roundw
      case measure=>simp [intOf]; omega
      case rel =>
       refine ⟨_,_,_,_,_,_,_,_,_,_,_,_,_,_,_,_,_,_,_,⟨m + 1,m,m,by omega,by omega, ?_,HQ6,HX6,HF6,HT6⟩,rfl⟩
       go_num
     ·obtain rfl : n0 = m:=by omega
      have h88:=Lq (HWI.out w5 ⟨n0,n0,xc,xd,xe,xf,xg,xh⟩ (HOKB0.out n0 hm1 hmh));rw [HOU.out] at h88;simp only at h88;go_wp2_with fail
      refine h88.out.mono ?_;rintro e w6 ⟨rfl,hb6⟩;have HX6:=Lq (HX5.out.keep hb6);have hf6:=HF5.out.keep hb6;have c0:=hf6.c 0;have cf:=hf6.frozen 0;have cl:=hf6.lt;have HF6:=Lq hf6;have HT6:=Lq (HT5.out.trans (Two.of_below hb6));clear hb6 v0 v1 vf0 vf1 vl hw5 z0 z1 z2 z3 z4 z5 z6 z7 z8 t0 t1 t2 t3 t4 t5 t6 t7 h88 HX5 HF5 HQ5 HT5 hf6;go_wp2_with fail
      clear c0 cf cl;go_roundw
      case measure=>simp [intOf]
      case rel =>
       have o6 : OnlyAt w6 (w6.setCell ⟨g13,0,none⟩ (iv n0)) g13:=OnlyAt.of_set (belowR w6) g13 0 _;refine ⟨1,by omega,rfl,Lq ?_,Lq ?_,Lq (HT6.out.trans (Two.of_only2 o6))⟩
       ·show Blk _ g12 127 #[iv n0,iv n0,iv xc,iv xd,iv xe,iv xf,iv xg,iv xh]
        exact HX6.out.same (o6.block g12 HX6.out.lt HNE.out.1)
       ·show Blk _ g13 123 #[iv n0,iv 0,iv 0,iv 0]
        have h:=HF6.out.set_ 0 (iv n0)
        simpa using h
   ·have hbx : Blk wr g12 127 #[iv n0,iv n0,iv xc,iv xd,iv xe,iv xf,iv xg,iv xh]:=HBX.out;have hfd : Blk wr g13 123 #[iv n0,iv 0,iv 0,iv 0]:=HFD.out;have hix:=(idx127 xa xb xc xd xe xf xg xh wr).2.1;obtain ⟨Wa,w3,hWa,hW3,hb3,hqa,hba,hq3⟩:=twoMade wr 29 (iv 0) (iv 0) (iv xc) (iv xd);obtain ⟨g15,hg15⟩:=ex wr.heap.size;rw [hg15] at hW3 hqa hq3;have f0:=hqa.frozen 0;have f1:=hqa.frozen 1;have e0:=hqa.c 0;have e1:=hqa.c 1;have el:=hqa.lt;have d0:=hq3.c 0;have d1:=hq3.c 1;have HQ3:=Lq hq3;have HX3 : Hid (Blk w3 g12 127 #[iv n0,iv n0,iv xc,iv xd,iv xe,iv xf,iv xg,iv xh]):=Lq (hbx.keep hb3);have HF3 : Hid (Blk w3 g13 123 #[iv n0,iv 0,iv 0,iv 0]):=Lq (hfd.keep hb3);have HTW : Hid (Two g12 g13 w0 w3):=Lq (HTWO.out.trans (Two.of_below hb3));have HNE3 : Hid (g12 < g15 ∧ g13 < g15):=Lq (by have:=hbx.lt; have:=hfd.lt; omega)
    obtain ⟨⟨hl1,hl2⟩,hin,hout⟩:=HM1.out;have HIN:=Lq hin;have HOU:=Lq hout;clear hb3 hqa hba hq3 hbx hfd hin hout;go_wp2_with fail
    clear f0 f1 e0 e1 el d0 d1 hWa hW3 hg15 hix;go_loopw [16] (fun i wr=>∃ (m p q : Int),xc ≤ m ∧ m ≤ n1 ∧ i = iv m ∧ Hid (Blk wr g15 29 #[iv xc,iv xd]) ∧ Hid (Blk wr g12 127 #[iv n0,iv n0,iv p,iv q,iv xe,iv xf,iv xg,iv xh]) ∧ Hid (Blk wr g13 123 #[iv n0,iv 0,iv 0,iv 0]) ∧ Hid (Two g12 g13 w0 wr)) (fun i _=>(n1 + 1 - intOf i).toNat)
    case atStart=>exact ⟨xc,xc,xd,Int.le_refl _,hl1,rfl,HQ3,HX3,HF3,HTW⟩
    case round =>
     clear HQ3 HX3 HF3 HTW;obtain ⟨m,p,q,hm1,hm2,rfl,HQ3,HX3,HF3,HTW⟩:=hrel;have hmh : m ≤ xd:=by omega
     have d1:=HQ3.out.c 1;have h91:=Lq (one91_any m wr);have hmw : IntKind.i64.wrap (m + 1) = m + 1:=by rw [IntKind.wrap_i64]; have:=HXO.out; omega
     have hww : wrap64 (m + 1) = m + 1:=by unfold wrap64; have:=HXO.out; omega
     go_wp2_with fail
     refine h91.out.mono ?_;rintro e w4 ⟨rfl,hb4⟩;have hx4:=HX3.out.keep hb4;have v0:=hx4.c 2;have v1:=hx4.c 3;have vf0:=hx4.frozen 2;have vf1:=hx4.frozen 3;have vl:=hx4.lt;obtain ⟨w5,hw5⟩:=ex ((w4.setCell ⟨g12,2,none⟩ (iv m)).setCell ⟨g12,3,none⟩ (iv m));have o5 : OnlyAt w4 w5 g12:=by rw [← hw5]; exact ((OnlyAt.of_below (belowR w4) g12).set 2 _).set 3 _
     have hx5 : Blk w5 g12 127 #[iv n0,iv n0,iv m,iv m,iv xe,iv xf,iv xg,iv xh]:=by
      rw [← hw5];have h:=(hx4.set_ 2 (iv m)).set_ 3 (iv m)
      simpa using h
     have hf4:=HF3.out.keep hb4;have hf5:=hf4.same (o5.block g13 hf4.lt HNE.out.2);have hq4:=HQ3.out.keep hb4;have hq5:=hq4.same (o5.block g15 hq4.lt (by have:=HNE3.out; omega))
     have htw5 : Two g12 g13 w0 w5:=(HTW.out.trans (Two.of_below hb4)).trans (Two.of_only o5);obtain ⟨z0,z1,z2,z3,z4,z5,z6,z7,z8⟩:=HSB.out w5 htw5;obtain ⟨t0,t1,t2,t3,t4,t5,t6,t7⟩:=hx5.c8;have HX5:=Lq hx5;have HF5:=Lq hf5;have HQ5:=Lq hq5;have HT5:=Lq htw5;clear hb4 hx4 o5 hx5 hf4 hf5 hq4 hq5 htw5 d1 h91 HX3 HF3 HQ3 HTW;by_cases hmn : m < n1
     ·have h88:=Lq (HWI.out w5 ⟨n0,n0,m,m,xe,xf,xg,xh⟩ (HOKB1.out m hm1 hmh));rw [HIN.out m hm1 hmn] at h88;simp only at h88;go_wp2_with fail
      refine h88.out.mono ?_;rintro e w6 ⟨rfl,hb6⟩;have HX6:=Lq (HX5.out.keep hb6);have HF6:=Lq (HF5.out.keep hb6);have HQ6:=Lq (HQ5.out.keep hb6);have HT6:=Lq (HT5.out.trans (Two.of_below hb6));clear hb6 v0 v1 vf0 vf1 vl hw5 z0 z1 z2 z3 z4 z5 z6 z7 z8 t0 t1 t2 t3 t4 t5 t6 t7 h88 HX5 HF5 HQ5 HT5;go_wp2_with fail
      go_roundw
      case measure=>simp [intOf]; omega
      case rel =>
       refine ⟨_,_,_,_,_,_,_,_,_,_,_,_,_,_,_,_,_,_,_,⟨m + 1,m,m,by omega,by omega, ?_,HQ6,HX6,HF6,HT6⟩,rfl⟩
       go_num
     ·obtain rfl : n1 = m:=by omega
      have h88:=Lq (HWI.out w5 ⟨n0,n0,n1,n1,xe,xf,xg,xh⟩ (HOKB1.out n1 hm1 hmh));rw [HOU.out] at h88;simp only at h88;go_wp2_with fail
      refine h88.out.mono ?_;rintro e w6 ⟨rfl,hb6⟩;have HX6:=Lq (HX5.out.keep hb6);have hf6:=HF5.out.keep hb6;have c1:=hf6.c 1;have cf:=hf6.frozen 1;have cl:=hf6.lt;have HF6:=Lq hf6;have HT6:=Lq (HT5.out.trans (Two.of_below hb6));clear hb6 v0 v1 vf0 vf1 vl hw5 z0 z1 z2 z3 z4 z5 z6 z7 z8 t0 t1 t2 t3 t4 t5 t6 t7 h88 HX5 HF5 HQ5 HT5 hf6;go_wp2_with fail
      clear c1 cf cl;go_roundw
      case measure=>simp [intOf]
      case rel =>
       have o6 : OnlyAt w6 (w6.setCell ⟨g13,1,none⟩ (iv n1)) g13:=OnlyAt.of_set (belowR w6) g13 1 _;refine ⟨2,by omega,rfl,Lq ?_,Lq ?_,Lq (HT6.out.trans (Two.of_only2 o6))⟩
       ·show Blk _ g12 127 #[iv n0,iv n0,iv n1,iv n1,iv xe,iv xf,iv xg,iv xh]
        exact HX6.out.same (o6.block g12 HX6.out.lt HNE.out.1)
       ·show Blk _ g13 123 #[iv n0,iv n1,iv 0,iv 0]
        have h:=HF6.out.set_ 1 (iv n1)
        simpa using h
   ·have hbx : Blk wr g12 127 #[iv n0,iv n0,iv n1,iv n1,iv xe,iv xf,iv xg,iv xh]:=HBX.out;have hfd : Blk wr g13 123 #[iv n0,iv n1,iv 0,iv 0]:=HFD.out;have hix:=(idx127 xa xb xc xd xe xf xg xh wr).2.2.1;obtain ⟨Wa,w3,hWa,hW3,hb3,hqa,hba,hq3⟩:=twoMade wr 29 (iv 0) (iv 0) (iv xe) (iv xf);obtain ⟨g15,hg15⟩:=ex wr.heap.size;rw [hg15] at hW3 hqa hq3;have f0:=hqa.frozen 0;have f1:=hqa.frozen 1;have e0:=hqa.c 0;have e1:=hqa.c 1;have el:=hqa.lt;have d0:=hq3.c 0;have d1:=hq3.c 1;have HQ3:=Lq hq3;have HX3 : Hid (Blk w3 g12 127 #[iv n0,iv n0,iv n1,iv n1,iv xe,iv xf,iv xg,iv xh]):=Lq (hbx.keep hb3);have HF3 : Hid (Blk w3 g13 123 #[iv n0,iv n1,iv 0,iv 0]):=Lq (hfd.keep hb3);have HTW : Hid (Two g12 g13 w0 w3):=Lq (HTWO.out.trans (Two.of_below hb3));have HNE3 : Hid (g12 < g15 ∧ g13 < g15):=Lq (by have:=hbx.lt; have:=hfd.lt; omega)
    obtain ⟨⟨hl1,hl2⟩,hin,hout⟩:=HM2.out;have HIN:=Lq hin;have HOU:=Lq hout;clear hb3 hqa hba hq3 hbx hfd hin hout;go_wp2_with fail
    clear f0 f1 e0 e1 el d0 d1 hWa hW3 hg15 hix;go_loopw [16] (fun i wr=>∃ (m p q : Int),xe ≤ m ∧ m ≤ n2 ∧ i = iv m ∧ Hid (Blk wr g15 29 #[iv xe,iv xf]) ∧ Hid (Blk wr g12 127 #[iv n0,iv n0,iv n1,iv n1,iv p,iv q,iv xg,iv xh]) ∧ Hid (Blk wr g13 123 #[iv n0,iv n1,iv 0,iv 0]) ∧ Hid (Two g12 g13 w0 wr)) (fun i _=>(n2 + 1 - intOf i).toNat)
    case atStart=>exact ⟨xe,xe,xf,Int.le_refl _,hl1,rfl,HQ3,HX3,HF3,HTW⟩
    case round =>
     clear HQ3 HX3 HF3 HTW;obtain ⟨m,p,q,hm1,hm2,rfl,HQ3,HX3,HF3,HTW⟩:=hrel;have hmh : m ≤ xf:=by omega
     have d1:=HQ3.out.c 1;have h91:=Lq (one91_any m wr);have hmw : IntKind.i64.wrap (m + 1) = m + 1:=by rw [IntKind.wrap_i64]; have:=HXO.out; omega
     have hww : wrap64 (m + 1) = m + 1:=by unfold wrap64; have:=HXO.out; omega
     go_wp2_with fail
     refine h91.out.mono ?_;rintro e w4 ⟨rfl,hb4⟩;have hx4:=HX3.out.keep hb4;have v0:=hx4.c 4;have v1:=hx4.c 5;have vf0:=hx4.frozen 4;have vf1:=hx4.frozen 5;have vl:=hx4.lt;obtain ⟨w5,hw5⟩:=ex ((w4.setCell ⟨g12,4,none⟩ (iv m)).setCell ⟨g12,5,none⟩ (iv m));have o5 : OnlyAt w4 w5 g12:=by rw [← hw5]; exact ((OnlyAt.of_below (belowR w4) g12).set 4 _).set 5 _
     have hx5 : Blk w5 g12 127 #[iv n0,iv n0,iv n1,iv n1,iv m,iv m,iv xg,iv xh]:=by
      rw [← hw5];have h:=(hx4.set_ 4 (iv m)).set_ 5 (iv m)
      simpa using h
     have hf4:=HF3.out.keep hb4;have hf5:=hf4.same (o5.block g13 hf4.lt HNE.out.2);have hq4:=HQ3.out.keep hb4;have hq5:=hq4.same (o5.block g15 hq4.lt (by have:=HNE3.out; omega))
     have htw5 : Two g12 g13 w0 w5:=(HTW.out.trans (Two.of_below hb4)).trans (Two.of_only o5);obtain ⟨z0,z1,z2,z3,z4,z5,z6,z7,z8⟩:=HSB.out w5 htw5;obtain ⟨t0,t1,t2,t3,t4,t5,t6,t7⟩:=hx5.c8;have HX5:=Lq hx5;have HF5:=Lq hf5;have HQ5:=Lq hq5;have HT5:=Lq htw5;clear hb4 hx4 o5 hx5 hf4 hf5 hq4 hq5 htw5 d1 h91 HX3 HF3 HQ3 HTW;by_cases hmn : m < n2
     ·have h88:=Lq (HWI.out w5 ⟨n0,n0,n1,n1,m,m,xg,xh⟩ (HOKB2.out m hm1 hmh));rw [HIN.out m hm1 hmn] at h88;simp only at h88;go_wp2_with fail
      refine h88.out.mono ?_;rintro e w6 ⟨rfl,hb6⟩;have HX6:=Lq (HX5.out.keep hb6);have HF6:=Lq (HF5.out.keep hb6);have HQ6:=Lq (HQ5.out.keep hb6);have HT6:=Lq (HT5.out.trans (Two.of_below hb6));clear hb6 v0 v1 vf0 vf1 vl hw5 z0 z1 z2 z3 z4 z5 z6 z7 z8 t0 t1 t2 t3 t4 t5 t6 t7 h88 HX5 HF5 HQ5 HT5;go_wp2_with fail
      go_roundw
      case measure=>simp [intOf]; omega
      case rel =>
       refine ⟨_,_,_,_,_,_,_,_,_,_,_,_,_,_,_,_,_,_,_,⟨m + 1,m,m,by omega,by omega, ?_,HQ6,HX6,HF6,HT6⟩,rfl⟩
       go_num
     ·obtain rfl : n2 = m:=by omega
      have h88:=Lq (HWI.out w5 ⟨n0,n0,n1,n1,n2,n2,xg,xh⟩ (HOKB2.out n2 hm1 hmh));rw [HOU.out] at h88;simp only at h88;go_wp2_with fail
      refine h88.out.mono ?_;rintro e w6 ⟨rfl,hb6⟩;have HX6:=Lq (HX5.out.keep hb6);have hf6:=HF5.out.keep hb6;have c2:=hf6.c 2;have cf:=hf6.frozen 2;have cl:=hf6.lt;have HF6:=Lq hf6;have HT6:=Lq (HT5.out.trans (Two.of_below hb6));clear hb6 v0 v1 vf0 vf1 vl hw5 z0 z1 z2 z3 z4 z5 z6 z7 z8 t0 t1 t2 t3 t4 t5 t6 t7 h88 HX5 HF5 HQ5 HT5 hf6;go_wp2_with fail
      clear c2 cf cl;go_roundw
      case measure=>simp [intOf]
      case rel =>
       have o6 : OnlyAt w6 (w6.setCell ⟨g13,2,none⟩ (iv n2)) g13:=OnlyAt.of_set (belowR w6) g13 2 _;refine ⟨3,by omega,rfl,Lq ?_,Lq ?_,Lq (HT6.out.trans (Two.of_only2 o6))⟩
       ·show Blk _ g12 127 #[iv n0,iv n0,iv n1,iv n1,iv n2,iv n2,iv xg,iv xh]
        exact HX6.out.same (o6.block g12 HX6.out.lt HNE.out.1)
       ·show Blk _ g13 123 #[iv n0,iv n1,iv n2,iv 0]
        have h:=HF6.out.set_ 2 (iv n2)
        simpa using h
   ·have hbx : Blk wr g12 127 #[iv n0,iv n0,iv n1,iv n1,iv n2,iv n2,iv xg,iv xh]:=HBX.out;have hfd : Blk wr g13 123 #[iv n0,iv n1,iv n2,iv 0]:=HFD.out;have hix:=(idx127 xa xb xc xd xe xf xg xh wr).2.2.2;obtain ⟨Wa,w3,hWa,hW3,hb3,hqa,hba,hq3⟩:=twoMade wr 29 (iv 0) (iv 0) (iv xg) (iv xh);obtain ⟨g15,hg15⟩:=ex wr.heap.size;rw [hg15] at hW3 hqa hq3;have f0:=hqa.frozen 0;have f1:=hqa.frozen 1;have e0:=hqa.c 0;have e1:=hqa.c 1;have el:=hqa.lt;have d0:=hq3.c 0;have d1:=hq3.c 1;have HQ3:=Lq hq3;have HX3 : Hid (Blk w3 g12 127 #[iv n0,iv n0,iv n1,iv n1,iv n2,iv n2,iv xg,iv xh]):=Lq (hbx.keep hb3);have HF3 : Hid (Blk w3 g13 123 #[iv n0,iv n1,iv n2,iv 0]):=Lq (hfd.keep hb3);have HTW : Hid (Two g12 g13 w0 w3):=Lq (HTWO.out.trans (Two.of_below hb3));have HNE3 : Hid (g12 < g15 ∧ g13 < g15):=Lq (by have:=hbx.lt; have:=hfd.lt; omega)
    obtain ⟨⟨hl1,hl2⟩,hin,hout⟩:=HM3.out;have HIN:=Lq hin;have HOU:=Lq hout;clear hb3 hqa hba hq3 hbx hfd hin hout;go_wp2_with fail
    clear f0 f1 e0 e1 el d0 d1 hWa hW3 hg15 hix;go_loopw [16] (fun i wr=>∃ (m p q : Int),xg ≤ m ∧ m ≤ n3 ∧ i = iv m ∧ Hid (Blk wr g15 29 #[iv xg,iv xh]) ∧ Hid (Blk wr g12 127 #[iv n0,iv n0,iv n1,iv n1,iv n2,iv n2,iv p,iv q]) ∧ Hid (Blk wr g13 123 #[iv n0,iv n1,iv n2,iv 0]) ∧ Hid (Two g12 g13 w0 wr)) (fun i _=>(n3 + 1 - intOf i).toNat)
    case atStart=>exact ⟨xg,xg,xh,Int.le_refl _,hl1,rfl,HQ3,HX3,HF3,HTW⟩
    case round =>
     clear HQ3 HX3 HF3 HTW;obtain ⟨m,p,q,hm1,hm2,rfl,HQ3,HX3,HF3,HTW⟩:=hrel;have hmh : m ≤ xh:=by omega
     have d1:=HQ3.out.c 1;have h91:=Lq (one91_any m wr);have hmw : IntKind.i64.wrap (m + 1) = m + 1:=by rw [IntKind.wrap_i64]; have:=HXO.out; omega
     have hww : wrap64 (m + 1) = m + 1:=by unfold wrap64; have:=HXO.out; omega
     go_wp2_with fail
     refine h91.out.mono ?_;rintro e w4 ⟨rfl,hb4⟩;have hx4:=HX3.out.keep hb4;have v0:=hx4.c 6;have v1:=hx4.c 7;have vf0:=hx4.frozen 6;have vf1:=hx4.frozen 7;have vl:=hx4.lt;obtain ⟨w5,hw5⟩:=ex ((w4.setCell ⟨g12,6,none⟩ (iv m)).setCell ⟨g12,7,none⟩ (iv m));have o5 : OnlyAt w4 w5 g12:=by rw [← hw5]; exact ((OnlyAt.of_below (belowR w4) g12).set 6 _).set 7 _
     have hx5 : Blk w5 g12 127 #[iv n0,iv n0,iv n1,iv n1,iv n2,iv n2,iv m,iv m]:=by
      rw [← hw5];have h:=(hx4.set_ 6 (iv m)).set_ 7 (iv m)
      simpa using h
     have hf4:=HF3.out.keep hb4;have hf5:=hf4.same (o5.block g13 hf4.lt HNE.out.2);have hq4:=HQ3.out.keep hb4;have hq5:=hq4.same (o5.block g15 hq4.lt (by have:=HNE3.out; omega))
     have htw5 : Two g12 g13 w0 w5:=(HTW.out.trans (Two.of_below hb4)).trans (Two.of_only o5);obtain ⟨z0,z1,z2,z3,z4,z5,z6,z7,z8⟩:=HSB.out w5 htw5;obtain ⟨t0,t1,t2,t3,t4,t5,t6,t7⟩:=hx5.c8;have HX5:=Lq hx5;have HF5:=Lq hf5;have HQ5:=Lq hq5;have HT5:=Lq htw5;clear hb4 hx4 o5 hx5 hf4 hf5 hq4 hq5 htw5 d1 h91 HX3 HF3 HQ3 HTW;by_cases hmn : m < n3
     ·have h88:=Lq (HWI.out w5 ⟨n0,n0,n1,n1,n2,n2,m,m⟩ (HOKB3.out m hm1 hmh));rw [HIN.out m hm1 hmn] at h88;simp only at h88;go_wp2_with fail
      refine h88.out.mono ?_;rintro e w6 ⟨rfl,hb6⟩;have HX6:=Lq (HX5.out.keep hb6);have HF6:=Lq (HF5.out.keep hb6);have HQ6:=Lq (HQ5.out.keep hb6);have HT6:=Lq (HT5.out.trans (Two.of_below hb6));clear hb6 v0 v1 vf0 vf1 vl hw5 z0 z1 z2 z3 z4 z5 z6 z7 z8 t0 t1 t2 t3 t4 t5 t6 t7 h88 HX5 HF5 HQ5 HT5;go_wp2_with fail
      go_roundw
      case measure=>simp [intOf]; omega
      case rel =>
       refine ⟨_,_,_,_,_,_,_,_,_,_,_,_,_,_,_,_,_,_,_,⟨m + 1,m,m,by omega,by omega, ?_,HQ6,HX6,HF6,HT6⟩,rfl⟩
       go_num
     ·obtain rfl : n3 = m:=by omega
      have h88:=Lq (HWI.out w5 ⟨n0,n0,n1,n1,n2,n2,n3,n3⟩ (HOKB3.out n3 hm1 hmh));rw [HOU.out] at h88;simp only at h88;go_wp2_with fail
      refine h88.out.mono ?_;rintro e w6 ⟨rfl,hb6⟩;have HX6:=Lq (HX5.out.keep hb6);have hf6:=HF5.out.keep hb6;have c3:=hf6.c 3;have cf:=hf6.frozen 3;have cl:=hf6.lt;have HF6:=Lq hf6;have HT6:=Lq (HT5.out.trans (Two.of_below hb6));clear hb6 v0 v1 vf0 vf1 vl hw5 z0 z1 z2 z3 z4 z5 z6 z7 z8 t0 t1 t2 t3 t4 t5 t6 t7 h88 HX5 HF5 HQ5 HT5 hf6;go_wp2_with fail
      clear c3 cf cl;go_roundw
      case measure=>simp [intOf]
      case rel =>
       have o6 : OnlyAt w6 (w6.setCell ⟨g13,3,none⟩ (iv n3)) g13:=OnlyAt.of_set (belowR w6) g13 3 _;refine ⟨4,by omega,rfl,Lq ?_,Lq ?_,Lq (HT6.out.trans (Two.of_only2 o6))⟩
       ·show Blk _ g12 127 #[iv n0,iv n0,iv n1,iv n1,iv n2,iv n2,iv n3,iv n3]
        exact HX6.out.same (o6.block g12 HX6.out.lt HNE.out.1)
       ·show Blk _ g13 123 #[iv n0,iv n1,iv n2,iv n3]
        have h:=HF6.out.set_ 3 (iv n3)
        simpa using h
  ·obtain rfl : k = 4:=by omega
   have hf4 : Blk wr g13 123 #[iv n0,iv n1,iv n2,iv n3]:=HFD.out;have k11:=HTWO.out.blk HQ110.out (by have:=HNE2.out; omega) (by have:=HNE2.out; omega)
   have k8:=HTWO.out.blk HQ30.out (by have:=HNE2.out; omega) (by have:=HNE2.out; omega)
   have HBW : Hid (BW w wr):=Lq (HTWO.out.below HB0.out (by have:=HNE2.out; have:=HG8.out; omega) (by have:=HNE2.out; have:=HG8.out; omega))
   have HS18 : Hid (∀ W,OnlyAt wr W g8 → W.cell? ⟨g11,0,none⟩ = some (iv slo) ∧ W.cell? ⟨g11,1,none⟩ = some (iv shi) ∧ W.cell? ⟨g11,2,none⟩ = some (iv mlo) ∧ W.cell? ⟨g11,3,none⟩ = some (iv mhi) ∧ W.cell? ⟨g11,4,none⟩ = some (iv bite) ∧ W.cell? ⟨g11,5,none⟩ = some (.slice A n cap) ∧ W.cell? ⟨g11,6,none⟩ = some (iv dlo) ∧ W.cell? ⟨g11,7,none⟩ = some (iv dhi) ∧ W.cell? ⟨g11,8,none⟩ = some (iv sink) ∧ W.cell? ⟨g13,0,none⟩ = some (iv n0) ∧ W.cell? ⟨g13,1,none⟩ = some (iv n1) ∧ W.cell? ⟨g13,2,none⟩ = some (iv n2) ∧ W.cell? ⟨g13,3,none⟩ = some (iv n3)):=Lq fun W ho=>have k:=k11.same (ho.block g11 k11.lt (by have:=HNE2.out; omega)); have j:=hf4.same (ho.block g13 hf4.lt (by have:=HNE2.out; omega)); ⟨k.c 0,k.c 1,k.c 2,k.c 3,k.c 4,k.c 5,k.c 6,k.c 7,k.c 8,j.c 0,j.c 1,j.c 2,j.c 3⟩
   have K8:=Lq k8;clear hf4 k11 k8 HBX HFD HTWO;go_wp2_with fail
   go_upto_region 18 with fail
   refine reg43_18 HS18 K8 h104 (Has.cons rfl (Has.cons rfl (Has.cons rfl (Has.cons rfl (Has.nil rfl))))) (Lq ?_);intro T W' ho hq HT;have e:=lit_eq HT.1;rw [show litOf 77 T = #[T[0]?.getD undef,T[1]?.getD undef,T[2]?.getD undef,T[3]?.getD undef,T[4]?.getD undef,T[5]?.getD undef,T[6]?.getD undef,T[7]?.getD undef,T[8]?.getD undef,T[9]?.getD undef,T[10]?.getD undef,T[11]?.getD undef,T[12]?.getD undef,T[13]?.getD undef,T[14]?.getD undef,T[15]?.getD undef,T[16]?.getD undef,T[17]?.getD undef,T[18]?.getD undef,T[19]?.getD undef,T[20]?.getD undef,T[21]?.getD undef,T[22]?.getD undef,T[23]?.getD undef,T[24]?.getD undef,T[25]?.getD undef,T[26]?.getD undef,T[27]?.getD undef,T[28]?.getD undef,T[29]?.getD undef,T[30]?.getD undef,T[31]?.getD undef,T[32]?.getD undef,T[33]?.getD undef,T[34]?.getD undef,T[35]?.getD undef,T[36]?.getD undef,T[37]?.getD undef,T[38]?.getD undef,T[39]?.getD undef,T[40]?.getD undef,T[41]?.getD undef,T[42]?.getD undef,T[43]?.getD undef,T[44]?.getD undef,T[45]?.getD undef,T[46]?.getD undef,T[47]?.getD undef,T[48]?.getD undef,T[49]?.getD undef,T[50]?.getD undef,T[51]?.getD undef,T[52]?.getD undef,T[53]?.getD undef,T[54]?.getD undef,T[55]?.getD undef,T[56]?.getD undef,T[57]?.getD undef,T[58]?.getD undef,T[59]?.getD undef,T[60]?.getD undef,T[61]?.getD undef,T[62]?.getD undef,T[63]?.getD undef,T[64]?.getD undef,T[65]?.getD undef,T[66]?.getD undef,T[67]?.getD undef,T[68]?.getD undef,T[69]?.getD undef,T[70]?.getD undef,T[71]?.getD undef,T[72]?.getD undef,T[73]?.getD undef,T[74]?.getD undef,T[75]?.getD undef,T[76]?.getD undef] from rfl] at e
   have x8:=HT.g 8;have x9:=HT.g 9;have x10:=HT.g 10;simp only [x8,x9,x10,Option.getD_some] at e;clear HT x8 x9 x10;generalize T[0]?.getD undef = y0,T[1]?.getD undef = y1,T[2]?.getD undef = y2,T[3]?.getD undef = y3,T[4]?.getD undef = y4,T[5]?.getD undef = y5,T[6]?.getD undef = y6,T[7]?.getD undef = y7,T[11]?.getD undef = y11,T[12]?.getD undef = y12,T[13]?.getD undef = y13,T[14]?.getD undef = y14,T[15]?.getD undef = y15,T[16]?.getD undef = y16,T[17]?.getD undef = y17,T[18]?.getD undef = y18,T[19]?.getD undef = y19,T[20]?.getD undef = y20,T[21]?.getD undef = y21,T[22]?.getD undef = y22,T[23]?.getD undef = y23,T[24]?.getD undef = y24,T[25]?.getD undef = y25,T[26]?.getD undef = y26,T[27]?.getD undef = y27,T[28]?.getD undef = y28,T[29]?.getD undef = y29,T[30]?.getD undef = y30,T[31]?.getD undef = y31,T[32]?.getD undef = y32,T[33]?.getD undef = y33,T[34]?.getD undef = y34,T[35]?.getD undef = y35,T[36]?.getD undef = y36,T[37]?.getD undef = y37,T[38]?.getD undef = y38,T[39]?.getD undef = y39,T[40]?.getD undef = y40,T[41]?.getD undef = y41,T[42]?.getD undef = y42,T[43]?.getD undef = y43,T[44]?.getD undef = y44,T[45]?.getD undef = y45,T[46]?.getD undef = y46,T[47]?.getD undef = y47,T[48]?.getD undef = y48,T[49]?.getD undef = y49,T[50]?.getD undef = y50,T[51]?.getD undef = y51,T[52]?.getD undef = y52,T[53]?.getD undef = y53,T[54]?.getD undef = y54,T[55]?.getD undef = y55,T[56]?.getD undef = y56,T[57]?.getD undef = y57,T[58]?.getD undef = y58,T[59]?.getD undef = y59,T[60]?.getD undef = y60,T[61]?.getD undef = y61,T[62]?.getD undef = y62,T[63]?.getD undef = y63,T[64]?.getD undef = y64,T[65]?.getD undef = y65,T[66]?.getD undef = y66,T[67]?.getD undef = y67,T[68]?.getD undef = y68,T[69]?.getD undef = y69,T[70]?.getD undef = y70,T[71]?.getD undef = y71,T[72]?.getD undef = y72,T[73]?.getD undef = y73,T[74]?.getD undef = y74,T[75]?.getD undef = y75,T[76]?.getD undef = y76 at e;subst e;have HBX : Hid (BW w W'):=Lq (ho.below HBW.out HG8.out);obtain ⟨d0,d1,d2,d3⟩:=hq.c4;clear ho hq HS18;go_wp2_with fail
   exact bodyPost_ret (v:=.tuple #[.agg #[iv n0,iv n1,iv n2,iv n3],iv r,iv 0]) (by simp [results,Tryz.results43,go_sem,d0,d1,d2,d3]) rfl ⟨rfl,HBX.out⟩
end Go.Proofs.YtpgfldcoojfheaaGreatDoor
