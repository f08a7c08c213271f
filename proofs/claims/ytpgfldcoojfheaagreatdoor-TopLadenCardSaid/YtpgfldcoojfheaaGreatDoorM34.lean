/- tide: Lies, Later; the beach and the ship of the examples (printed by mkHT21.py). The examples of layer 2 (printed by mkHT22.py). The examples of layer 2 are as the document says: Awake (printed by mkHT23.py). -/
import Derived.Test.YtpgfldcoojfheaaGreatDoorM0
import Derived.Test.YtpgfldcoojfheaaGreatDoorM16
import Derived.Test.YtpgfldcoojfheaaGreatDoorM23
import Derived.Test.YtpgfldcoojfheaaGreatDoorM28
import Derived.Test.YtpgfldcoojfheaaGreatDoorM29
import Derived.Test.YtpgfldcoojfheaaGreatDoorM33
set_option maxRecDepth 1000000
set_option maxHeartbeats 16000000
namespace Go.Proofs.YtpgfldcoojfheaaGreatDoor
open Go.RowKit
section
variable {n : Nat}
def laterB (b : TdB) (s : TdS) (ts : List TdT) (run : Nat × Int) (target : Int) (i : Nat) : Bool:=decide (target ≤ lowLie b (pullLo b s ts run [(i,0)]))
def laterV (b : TdB) (s : TdS) (ts : List TdT) (run : Nat × Int) (target : Int) : Int × Int:=match (List.range ts.length).find? fun i=>decide (run.1 < i) && laterB b s ts run target i with
 | some i=>(i,0)
 | none=>(0,9)
theorem field29_0 (a b : Int) (V : World) : (Instr.field 29 (.agg #[iv a,iv b]) 0).run Tryz.prog V = .ok (iv a) V:=by kernel_rfl
theorem later_at {f : Nat → Bool} {k : Nat} (hk : k < n) (h : f k = true) (hn : ∀ j,j < k → f j = false) : (List.range n).find? f = some k:=by
 rw [List.find?_range_eq_some];refine ⟨h,List.mem_range.2 hk,fun j hj=>?_⟩
 rw [hn j hj];rfl
theorem later_no {f : Nat → Bool} (hn : ∀ j,j < n → f j = false) : (List.range n).find? f = none:=by
 rw [List.find?_eq_none];intro j hj;rw [hn j (List.mem_range.1 hj)];simp
theorem later45_any (A : Option Addr) (ts : List TdT) (cap k0 : Nat) (b0 target : Int) (b : TdB) (s : TdS) (w : World) (H : TsRd w w.heap.size A cap ts) (hb : BeachOk b ts) (hs : ShOk s) (h0 : PullOk ts (k0,b0)) :
  Calls Tryz.prog 45 #[bV b A ts.length cap,sV s,.agg #[iv k0,iv b0],iv target] w (Rt w (.tuple #[iv (laterV b s ts (k0,b0) target).1,iv (laterV b s ts (k0,b0) target).2])):=by
 have htl:=hb.ts.len;have hop : Hid (∀ W,BW w W → Calls Tryz.prog 55 #[bV b A ts.length cap,sV s,iv k0,iv b0] W (Rt W (.tuple #[bchV b s A ts.length cap,iv 0]))):=Lq fun W hbW=>open55_any A ts cap b s k0 b0 W ((H.below hbW (Nat.le_refl _)).more hbW.size) hb hs ⟨by omega,by have : k0 < ts.length:=h0.1; omega⟩ h0.2
 have hli : Hid (∀ W (i : Nat),BW w W → i < ts.length → Calls Tryz.prog 93 #[bchV b s A ts.length cap,.agg #[iv k0,iv b0],.slice (some ⟨W.heap.size,0,none⟩) 1 1] (W.alloc (.cells #[iv i,iv 0] 105)) fun e w'=>∃ hi,e = .returned (.agg #[iv (lowLie b (pullLo b s ts (k0,b0) [(i,0)])),iv hi]) ∧ BW W w'):=Lq fun W i hbW hi=>by
  have hbA:=belowA (belowR W) (.cells #[iv i,iv 0] 105);have hbA2:=belowA hbW (.cells #[iv i,iv 0] 105);refine (lies93_any A (some ⟨W.heap.size,0,none⟩) ts [(i,0)] cap 1 k0 b0 b s _ ((H.below hbA2 (Nat.le_refl _)).more hbA2.size) hb hs (Blk.rdN encPu_len (xs:=[(i,(0 : Int))]) (Blk.new W 105 _)) (by simp) (fun p hp=>?_) h0).mono fun _ _ h=>⟨_,h.1,belowT hbA h.2⟩
  rw [List.mem_singleton.1 hp];exact ⟨hi,by simp only; omega⟩
 have HLB : Hid (∀ i,laterB b s ts (k0,b0) target i = decide (target ≤ lowLie b (pullLo b s ts (k0,b0) [(i,0)]))):=Lq fun i=>rfl
 have HLV : Hid (laterV b s ts (k0,b0) target = match (List.range ts.length).find? fun i=>decide (k0 < i) && laterB b s ts (k0,b0) target i with
  | some i=>((i : Int),(0 : Int))
  | none=>(0,9)):=Lq rfl
 obtain ⟨LV,hLV⟩:=ex (laterV b s ts (k0,b0) target);rw [hLV] at HLV ⊢;obtain ⟨LB,hLB⟩:=ex (laterB b s ts (k0,b0) target);rw [hLB] at HLB HLV;obtain ⟨LI,hLI⟩:=ex (fun i=>lowLie b (pullLo b s ts (k0,b0) [(i,0)]))
 have hLI2 : ∀ i,lowLie b (pullLo b s ts (k0,b0) [(i,0)]) = LI i:=fun i=>by rw [← hLI]
 simp only [hLI2] at HLB hli;have hkn : k0 < ts.length:=h0.1;obtain ⟨slo,shi,mlo,mhi,bite⟩:=b;obtain ⟨dlo,dhi,sink⟩:=s;simp only [bV,sV,bchV] at hop hli ⊢;obtain ⟨n,hn⟩:=ex ts.length;have hn12 : n ≤ 12:=by omega
 rw [hn] at hop hli hkn HLV ⊢;obtain ⟨W1,hW1⟩:=ex (w.alloc (.cells #[iv slo,iv shi,iv mlo,iv mhi,iv bite,.slice A n cap] 32));obtain ⟨W2,hW2⟩:=ex (W1.alloc (.cells #[iv dlo,iv dhi,iv sink] 41));obtain ⟨W3,hW3⟩:=ex (W2.alloc (.cells #[iv k0,iv b0] 105));have b1 : BW w W1:=by rw [← hW1]; exact belowA (belowR w) _
 have b2 : BW W1 W2:=by rw [← hW2]; exact belowA (belowR _) _
 have b3 : BW W2 W3:=by rw [← hW3]; exact belowA (belowR _) _
 have q1 : Blk W1 w.heap.size 32 #[iv slo,iv shi,iv mlo,iv mhi,iv bite,.slice A n cap]:=by rw [← hW1]; exact Blk.new w 32 _
 have q2 : Blk W2 W1.heap.size 41 #[iv dlo,iv dhi,iv sink]:=by rw [← hW2]; exact Blk.new W1 41 _
 have q3 : Blk W3 W2.heap.size 105 #[iv k0,iv b0]:=by rw [← hW3]; exact Blk.new W2 105 _
 obtain ⟨g4,hg4⟩:=ex w.heap.size;obtain ⟨g5,hg5⟩:=ex W1.heap.size;obtain ⟨g6,hg6⟩:=ex W2.heap.size;rw [hg4] at q1;rw [hg5] at q2;rw [hg6] at q3;have q13:=q1.keep (belowT b2 b3);have q23:=q2.keep b3;have q33:=q3;obtain ⟨x0,x1,x2,x3,x4,x5⟩:=q13.c6;obtain ⟨y0,y1,y2⟩:=q23.c3;obtain ⟨u0,u1⟩:=q33.c2;have HB3:=Lq (belowT b1 (belowT b2 b3));have HQ6:=Lq q3;clear H hb hs hn htl hLV hLB hLI hLI2 h0 b1 b2 b3 q1 q2 q3 q13 q23 q33;go_enter Tryz.func45,Tryz.ntmps45
 go_wp2_with fail
 refine (hop.out _ HB3.out).mono ?_;rintro e w4 ⟨rfl,hb4⟩;have HB4:=Lq (belowT HB3.out hb4);have HQ64:=Lq (HQ6.out.keep hb4);clear x0 x1 x2 x3 x4 x5 y0 y1 y2 u0 u1 hW1 hW2 hW3 hg4 hg5 hg6 hb4 hop;obtain ⟨Wa,w8,hWa,hW8,hb8,hqa,hba,hq8⟩:=nineMade w4 119 (iv 0) (iv 0) (iv 0) (iv 0) (iv 0) (.slice none 0 0) (iv 0) (iv 0) (iv 0) (iv slo) (iv shi) (iv mlo) (iv mhi) (iv bite) (.slice A n cap) (iv dlo) (iv dhi) (iv sink);obtain ⟨g10,hg10⟩:=ex w4.heap.size;rw [hg10] at hW8 hqa hq8;obtain ⟨af0,af1,af2,af3,af4,af5,af6,af7,af8⟩:=hqa.f9;obtain ⟨ac0,ac1,ac2,ac3,ac4,ac5,ac6,ac7,ac8⟩:=hqa.c9;have al:=hqa.lt;have HB8:=Lq (belowT HB4.out hb8);have hq68:=HQ64.out.keep hb8;have HS : Hid (∀ W,BW w8 W → (W.cell? ⟨g10,0,none⟩ = some (iv slo) ∧ W.cell? ⟨g10,1,none⟩ = some (iv shi) ∧ W.cell? ⟨g10,2,none⟩ = some (iv mlo) ∧ W.cell? ⟨g10,3,none⟩ = some (iv mhi) ∧ W.cell? ⟨g10,4,none⟩ = some (iv bite) ∧ W.cell? ⟨g10,5,none⟩ = some (.slice A n cap) ∧ W.cell? ⟨g10,6,none⟩ = some (iv dlo) ∧ W.cell? ⟨g10,7,none⟩ = some (iv dhi) ∧ W.cell? ⟨g10,8,none⟩ = some (iv sink)) ∧ W.cell? ⟨g6,0,none⟩ = some (iv k0) ∧ W.cell? ⟨g6,1,none⟩ = some (iv b0)):=Lq fun W hb=>have k:=hq8.keep hb; have j:=hq68.keep hb; ⟨⟨k.c 0,k.c 1,k.c 2,k.c 3,k.c 4,k.c 5,k.c 6,k.c 7,k.c 8⟩,j.c 0,j.c 1⟩
 have u0:=hq68.c 0;have u1:=hq68.c 1;clear hb8 hqa hba hq8 hq68;have hkw : IntKind.i64.wrap ((k0 : Int) + 1) = ((k0 + 1 : Nat) : Int):=by rw [IntKind.wrap_i64]; omega
 go_wp2_with fail
 clear af0 ac0 af1 ac1 af2 ac2 af3 ac3 af4 ac4 af5 ac5 af6 ac6 af7 ac7 af8 ac8 al hWa hW8 hg10 u0 u1 hkw;go_loopw [12] (fun i wr=>∃ k : Nat,k0 + 1 ≤ k ∧ k ≤ n ∧ i = iv k ∧ Hid (∀ j,k0 < j → j < k → LB j = false) ∧ Hid (BW w8 wr)) (fun i _=>n - (intOf i).toNat)
 case atStart=>exact ⟨k0 + 1,by omega,by omega,by go_num,Lq (fun j h1 h2=>absurd h2 (by omega)),Lq (belowR _)⟩
 case round =>
  obtain ⟨k,hk1,hk,rfl,HN,HBR⟩:=hrel;have hk0 : (0 : Int) ≤ (k : Int):=by omega
  obtain ⟨⟨z0,z1,z2,z3,z4,z5,z6,z7,z8⟩,u0,u1⟩:=HS.out wr HBR.out;by_cases hlt : k < n
  ·have hfd:=fun (hi : Int) V=>field29_0 (LI k) hi V
   have HC:=Lq (hli.out wr k (belowT HB8.out HBR.out) hlt);have hlb:=HLB.out k;obtain ⟨li,hli2⟩:=ex (LI k);rw [hli2] at HC hlb hfd;have HLK:=Lq hlb;clear hlb hli2;by_cases ht : target ≤ li
   ·have hnt : ¬ li < target:=by omega
    go_wp2_with fail
    refine HC.out.mono ?_;rintro e w5 ⟨hi,rfl,hb5⟩;have HB5:=Lq (belowT HBR.out hb5);clear z0 z1 z2 z3 z4 z5 z6 z7 z8 u0 u1 hb5 HC;go_wp2_with fail
    go_ret2
    refine ⟨?_,belowT HB8.out HB5.out⟩;have hf : (List.range n).find? (fun i=>decide (k0 < i) && LB i) = some k:=later_at hlt (by rw [HLK.out]; simp; omega) (fun j hj=>by
     by_cases hjk : k0 < j
     ·rw [HN.out j hjk hj]; simp
     ·simp [hjk])
    have hv : LV = ((k : Int),0):=by rw [HLV.out,hf]
    rw [hv];rfl
   ·have hnt : li < target:=by omega
    go_wp2_with fail
    refine HC.out.mono ?_;rintro e w5 ⟨hi,rfl,hb5⟩;have HB5:=Lq (belowT HBR.out hb5);clear z0 z1 z2 z3 z4 z5 z6 z7 z8 u0 u1 hb5 HC;go_wp2_with fail
    go_roundw
    case measure=>simp [intOf]; omega
    case rel=>exact ⟨k + 1,by omega,by omega,by go_num,Lq (fun j h1 h2=>by
     rcases Nat.lt_or_ge j k with h | h
     ·exact HN.out j h1 h
     ·obtain rfl : j = k:=by omega
      rw [HLK.out];simp;omega),HB5⟩
  ·obtain rfl : k = n:=by omega
   go_wp2_with fail
   go_ret2
   refine ⟨?_,belowT HB8.out HBR.out⟩;have hf : (List.range k).find? (fun i=>decide (k0 < i) && LB i) = none:=later_no (fun j hj=>by
    by_cases hjk : k0 < j
    ·rw [HN.out j hjk hj]; simp
    ·simp [hjk])
   have hv : LV = (0,9):=by rw [HLV.out,hf]
   rw [hv];rfl
def ChainOk (k0 : Nat) (ps : List (Nat × Int)) : Prop:=∀ i p,ps[i]? = some p → (if i = 0 then k0 else match ps[i - 1]? with
 | some q=>q.1
 | none=>0) < p.1
def lastT (k0 : Nat) (ps : List (Nat × Int)) (k : Nat) : Nat:=if k = 0 then k0 else match ps[k - 1]? with
 | some q=>q.1
 | none=>0
theorem lies44_any (A Ap : Option Addr) (ts : List TdT) (ps : List (Nat × Int)) (cap cp k0 : Nat) (b0 : Int) (b : TdB) (s : TdS) (w : World) (H : TsRd w w.heap.size A cap ts) (hb : BeachOk b ts) (hs : ShOk s) (HP : RdN 2 encPu w w.heap.size Ap ps) (hpm : ps.length ≤ 6) (hp : ∀ p ∈ ps,PullOk ts p) (h0 : PullOk ts (k0,b0)) (hch : ChainOk k0 ps) :
  Calls Tryz.prog 44 #[bV b A ts.length cap,sV s,.agg #[iv k0,iv b0],.slice Ap ps.length cp] w (Rt w (.tuple #[.agg #[iv (lowLie b (pullLo b s ts (k0,b0) ps)),iv (highLie b (pullHi b s ts (k0,b0) ps))],iv 0])):=by
 have hop : Hid (∀ W,BW w W → Calls Tryz.prog 55 #[bV b A ts.length cap,sV s,iv k0,iv b0] W (Rt W (.tuple #[bchV b s A ts.length cap,iv 0]))):=Lq fun W hbW=>open55_any A ts cap b s k0 b0 W ((H.below hbW (Nat.le_refl _)).more hbW.size) hb hs ⟨by omega,by have : k0 < ts.length:=h0.1; omega⟩ h0.2
 have hli : Hid (∀ W,BW w W → Calls Tryz.prog 93 #[bchV b s A ts.length cap,.agg #[iv k0,iv b0],.slice Ap ps.length cp] W (Rt W (.agg #[iv (lowLie b (pullLo b s ts (k0,b0) ps)),iv (highLie b (pullHi b s ts (k0,b0) ps))]))):=Lq fun W hbW=>lies93_any A Ap ts ps cap cp k0 b0 b s W ((H.below hbW (Nat.le_refl _)).more hbW.size) hb hs ((HP.below hbW (Nat.le_refl _)).more hbW.size) hpm hp h0
 have her : Hid (∀ W (p : Nat × Int),PullOk ts p → Calls Tryz.prog 92 #[bchV b s A ts.length cap,iv p.1,iv p.2] W fun e w'=>e = .returned (iv 0) ∧ BW W w'):=Lq fun W p hp=>(error92_any b s A ts.length cap p.1 p.2 W ⟨by omega,by have:=hp.1; omega⟩ hp.2).mono fun _ _ ⟨_,h1,h2,h3⟩=>⟨by rw [h1,h2],h3⟩
 obtain ⟨rl,hrl⟩:=ex (lowLie b (pullLo b s ts (k0,b0) ps));obtain ⟨rh,hrh⟩:=ex (highLie b (pullHi b s ts (k0,b0) ps));rw [hrl,hrh] at hli ⊢;have HPR : Hid (∀ W,BW w W → RdN 2 encPu W W.heap.size Ap ps):=Lq fun W hbW=>(HP.below hbW (Nat.le_refl _)).more hbW.size
 have HPO : Hid (∀ k p,ps[k]? = some p → PullOk ts p ∧ p.1 ≤ 100 ∧ lastT k0 ps k < p.1 ∧ lastT k0 ps (k + 1) = p.1):=Lq fun k p h=>⟨hp p (List.mem_iff_getElem?.2 ⟨k,h⟩),by have:=(hp p (List.mem_iff_getElem?.2 ⟨k,h⟩)).1; have:=hb.ts.len; omega,hch k p h,by unfold lastT; rw [if_neg (by omega),Nat.add_sub_cancel,h]⟩
 have HZ : Hid (lastT k0 ps 0 = k0):=Lq rfl;obtain ⟨LT,hLT⟩:=ex (lastT k0 ps);rw [hLT] at HPO HZ;have HEX : Hid (∀ k,k < ps.length → ∃ p,ps[k]? = some p):=Lq fun k hk=>⟨_,List.getElem?_eq_getElem hk⟩
 obtain ⟨slo,shi,mlo,mhi,bite⟩:=b;obtain ⟨dlo,dhi,sink⟩:=s;simp only [bV,sV,bchV] at hop hli her ⊢;obtain ⟨n,hn⟩:=ex ts.length;rw [hn] at hop hli her ⊢;obtain ⟨np,hnp⟩:=ex ps.length;rw [hnp] at hpm HEX hli ⊢;obtain ⟨W1,hW1⟩:=ex (w.alloc (.cells #[iv slo,iv shi,iv mlo,iv mhi,iv bite,.slice A n cap] 32));obtain ⟨W2,hW2⟩:=ex (W1.alloc (.cells #[iv dlo,iv dhi,iv sink] 41));obtain ⟨W3,hW3⟩:=ex (W2.alloc (.cells #[iv k0,iv b0] 105));have b1 : BW w W1:=by rw [← hW1]; exact belowA (belowR w) _
 have b2 : BW W1 W2:=by rw [← hW2]; exact belowA (belowR _) _
 have b3 : BW W2 W3:=by rw [← hW3]; exact belowA (belowR _) _
 have q1 : Blk W1 w.heap.size 32 #[iv slo,iv shi,iv mlo,iv mhi,iv bite,.slice A n cap]:=by rw [← hW1]; exact Blk.new w 32 _
 have q2 : Blk W2 W1.heap.size 41 #[iv dlo,iv dhi,iv sink]:=by rw [← hW2]; exact Blk.new W1 41 _
 have q3 : Blk W3 W2.heap.size 105 #[iv k0,iv b0]:=by rw [← hW3]; exact Blk.new W2 105 _
 obtain ⟨g4,hg4⟩:=ex w.heap.size;obtain ⟨g5,hg5⟩:=ex W1.heap.size;obtain ⟨g6,hg6⟩:=ex W2.heap.size;rw [hg4] at q1;rw [hg5] at q2;rw [hg6] at q3;have q13:=q1.keep (belowT b2 b3);have q23:=q2.keep b3;have q33:=q3;obtain ⟨x0,x1,x2,x3,x4,x5⟩:=q13.c6;obtain ⟨y0,y1,y2⟩:=q23.c3;obtain ⟨u0,u1⟩:=q33.c2;obtain ⟨W4,hW4⟩:=ex (W3.alloc (.cells #[iv 0,iv 0] 29));have b4 : BW W3 W4:=by rw [← hW4]; exact belowA (belowR _) _
 have q4 : Blk W4 W3.heap.size 29 #[iv 0,iv 0]:=by rw [← hW4]; exact Blk.new W3 29 _
 obtain ⟨g8,hg8⟩:=ex W3.heap.size;rw [hg8] at q4;have z1 : W1.heap.size = w.heap.size + 1:=by rw [← hW1]; simp
 have z2 : W2.heap.size = W1.heap.size + 1:=by rw [← hW2]; simp
 have z3 : W3.heap.size = W2.heap.size + 1:=by rw [← hW3]; simp
 have q13':=q13.keep b4;have q23':=q23.keep b4;have q33':=q33.keep b4;clear x0 x1 x2 x3 x4 x5 y0 y1 y2 u0 u1;obtain ⟨x0,x1,x2,x3,x4,x5⟩ : _ ∧ _ ∧ _ ∧ _ ∧ _ ∧ _:=⟨q13'.c 0,q13'.c 1,q13'.c 2,q13'.c 3,q13'.c 4,q13'.c 5⟩;obtain ⟨y0,y1,y2⟩ : _ ∧ _ ∧ _:=⟨q23'.c 0,q23'.c 1,q23'.c 2⟩;obtain ⟨u0,u1⟩ : _ ∧ _:=⟨q33'.c 0,q33'.c 1⟩;have HB3:=Lq (belowT b1 (belowT b2 (belowT b3 b4)));have HQ6:=Lq q33';have HQ8:=Lq q4;have HG8 : Hid (w.heap.size ≤ g8 ∧ g6 < g8):=Lq (by omega)
 clear H hb hs hn hnp hLT HP hp h0 hch hrl hrh b1 b2 b3 b4 q1 q2 q3 q4 q13 q23 q33 q13' q23' q33' z1 z2 z3;go_enter Tryz.func44,Tryz.ntmps44
 go_wp2_with fail
 refine (hop.out _ HB3.out).mono ?_;rintro e w4 ⟨rfl,hb4⟩;have HB4:=Lq (belowT HB3.out hb4);have HQ64:=Lq (HQ6.out.keep hb4);have HQ84:=Lq (HQ8.out.keep hb4);clear x0 x1 x2 x3 x4 x5 y0 y1 y2 u0 u1 hW1 hW2 hW3 hW4 hg4 hg5 hg6 hg8 hb4 hop;obtain ⟨Wa,w8,hWa,hW8,hb8,hqa,hba,hq8⟩:=nineMade w4 119 (iv 0) (iv 0) (iv 0) (iv 0) (iv 0) (.slice none 0 0) (iv 0) (iv 0) (iv 0) (iv slo) (iv shi) (iv mlo) (iv mhi) (iv bite) (.slice A n cap) (iv dlo) (iv dhi) (iv sink);obtain ⟨g10,hg10⟩:=ex w4.heap.size;rw [hg10] at hW8 hqa hq8;obtain ⟨af0,af1,af2,af3,af4,af5,af6,af7,af8⟩:=hqa.f9;obtain ⟨ac0,ac1,ac2,ac3,ac4,ac5,ac6,ac7,ac8⟩:=hqa.c9;have al:=hqa.lt;have HB8:=Lq (belowT HB4.out hb8);have hq68:=HQ64.out.keep hb8;have HQ88:=Lq (HQ84.out.keep hb8);have HS : Hid (∀ W,BW w8 W → (W.cell? ⟨g10,0,none⟩ = some (iv slo) ∧ W.cell? ⟨g10,1,none⟩ = some (iv shi) ∧ W.cell? ⟨g10,2,none⟩ = some (iv mlo) ∧ W.cell? ⟨g10,3,none⟩ = some (iv mhi) ∧ W.cell? ⟨g10,4,none⟩ = some (iv bite) ∧ W.cell? ⟨g10,5,none⟩ = some (.slice A n cap) ∧ W.cell? ⟨g10,6,none⟩ = some (iv dlo) ∧ W.cell? ⟨g10,7,none⟩ = some (iv dhi) ∧ W.cell? ⟨g10,8,none⟩ = some (iv sink)) ∧ W.cell? ⟨g6,0,none⟩ = some (iv k0) ∧ W.cell? ⟨g6,1,none⟩ = some (iv b0)):=Lq fun W hb=>have k:=hq8.keep hb; have j:=hq68.keep hb; ⟨⟨k.c 0,k.c 1,k.c 2,k.c 3,k.c 4,k.c 5,k.c 6,k.c 7,k.c 8⟩,j.c 0,j.c 1⟩
 have u0:=hq68.c 0;have u1:=hq68.c 1;clear hb8 hqa hba hq8 hq68;go_wp2_with fail
 clear af0 ac0 af1 ac1 af2 ac2 af3 ac3 af4 ac4 af5 ac5 af6 ac6 af7 ac7 af8 ac8 al hWa hW8 hg10 u0 u1;go_loopw [12,39] (fun l i wr=>∃ k : Nat,k ≤ np ∧ i = iv k ∧ l = iv (LT k) ∧ Hid (BW w8 wr)) (fun _ i _=>np - (intOf i).toNat)
 case atStart=>exact ⟨0,by omega,rfl,by rw [HZ.out],Lq (belowR _)⟩
 case round =>
  obtain ⟨k,hk,rfl,rfl,HBR⟩:=hrel;have hk0 : (0 : Int) ≤ (k : Int):=by omega
  by_cases hlt : k < np
  ·obtain ⟨⟨pk,pb⟩,hpk⟩:=HEX.out k hlt;obtain ⟨bb,off,hA,hbb,hc⟩:=(HPR.out wr (belowT HB8.out HBR.out)) k _ hpk;have c0:=hc 0 _ rfl;have c1:=hc 1 _ rfl;simp only [Nat.add_zero] at c0 c1;subst hA;obtain ⟨hok,hp1,hlt1,hlt2⟩:=HPO.out k _ hpk;obtain ⟨lk,hlk⟩:=ex (LT k);rw [hlk] at hlt1 ⊢;simp only at hp1 hlt1 hlt2;have HL2:=Lq hlt2;have h92:=fun W=>her.out W _ hok
   simp only at h92;have H92:=Lq h92;clear hc hpk hok h92 hlt2 hlk;obtain ⟨Wa,wz,hWa,hW8,hb8,hqa,hba,hq8⟩:=twoMade wr 105 (iv 0) (iv 0) (iv pk) (iv pb);obtain ⟨g14,hg14⟩:=ex wr.heap.size;rw [hg14] at hW8 hqa hq8;have af0:=hqa.frozen 0;have af1:=hqa.frozen 1;have ac0:=hqa.c 0;have ac1:=hqa.c 1;have al:=hqa.lt;have hbn : bb ≠ g14:=by omega
   have HB14:=Lq (belowT HBR.out hb8);obtain ⟨⟨z0,z1,z2,z3,z4,z5,z6,z7,z8⟩,u0,u1⟩:=HS.out wz HB14.out;have d0:=hq8.c 0;have d1:=hq8.c 1;have HQ14:=Lq hq8;have hle : ¬ (pk : Int) ≤ (lk : Int):=by omega
   clear hb8 hqa hba hq8;go_wp2_with fail
   refine (H92.out _).mono ?_;rintro e w5 ⟨rfl,hb5⟩;have HB5:=Lq (belowT HB14.out hb5);clear af0 af1 ac0 ac1 al hWa hW8 hg14 d0 d1 c0 c1 z0 z1 z2 z3 z4 z5 z6 z7 z8 u0 u1;have d0:=(HQ14.out.keep hb5).c 0;clear hb5;go_wp2_with fail
   go_roundw
   case measure=>simp [intOf]; omega
   case rel=>exact ⟨k + 1,by omega,by go_num,by rw [HL2.out],HB5⟩
  ·obtain rfl : k = np:=by omega
   obtain ⟨⟨z0,z1,z2,z3,z4,z5,z6,z7,z8⟩,u0,u1⟩:=HS.out wr HBR.out;have HB9:=Lq (belowT HB8.out HBR.out);have HQ8R:=Lq (HQ88.out.keep HBR.out);go_wp2_with fail
   refine (hli.out _ HB9.out).mono ?_;rintro e w9 ⟨rfl,hb9⟩;have hq8:=HQ8R.out.keep hb9;have v0:=hq8.c 0;have v1:=hq8.c 1;have vf0:=hq8.frozen 0;have vf1:=hq8.frozen 1;have vl:=hq8.lt;obtain ⟨W9,hW9⟩:=ex ((w9.setCell ⟨g8,0,none⟩ (iv rl)).setCell ⟨g8,1,none⟩ (iv rh));have d0 : W9.cell? ⟨g8,0,none⟩ = some (iv rl):=by rw [← hW9]; exact ((hq8.set_ 0 _).set_ 1 _).cell 0
   have d1 : W9.cell? ⟨g8,1,none⟩ = some (iv rh):=by rw [← hW9]; exact ((hq8.set_ 0 _).set_ 1 _).cell 1
   have HBX : Hid (BW w W9):=by rw [← hW9]; exact Lq (belowS (belowS (belowT HB9.out hb9) HG8.out.1 _) HG8.out.1 _)
   clear hb9 hq8 z0 z1 z2 z3 z4 z5 z6 z7 z8 u0 u1;go_wp2_with fail
   exact bodyPost_ret (v:=.tuple #[.agg #[iv rl,iv rh],iv 0]) (by simp [results,Tryz.results44,go_sem,d0,d1]) rfl ⟨rfl,HBX.out⟩
end
def exB : TdB:=⟨20,25,6000,12000,50⟩
def exS : TdS:=⟨300,310,5⟩
def exT0 : TdT:=⟨3,500,520, -10,20⟩
def exT1 : TdT:=⟨17,560,590, -10,20⟩
def exTs : List TdT:=[exT0,exT1]
theorem exB_ok : BeachOk exB exTs:=⟨by decide,by decide,by decide,⟨by decide,fun i t h=>by
 match i,h with
 | 0,h=>injection h with h; subst h; exact ⟨⟨by decide,by decide,by decide⟩,fun h=>absurd h (by decide)⟩
 | 1,h=>injection h with h; subst h; exact ⟨⟨by decide,by decide,by decide⟩,fun _ t' h'=>by injection h' with h'; subst h'; decide⟩
 | n + 2,h=>cases h⟩⟩
theorem exS_ok : ShOk exS:=⟨by decide,by decide⟩
def BchV (W : World) (v : Value) : Prop:=∃ g,v = bV exB (some ⟨g,0,none⟩) 2 2 ∧ TsRd W W.heap.size (some ⟨g,0,none⟩) 2 exTs
theorem BchV.below {W V : World} {v : Value} (h : BchV W v) (hb : BW W V) : BchV V v:=by
 obtain ⟨g,e,h1⟩:=h;exact ⟨g,e,(h1.below hb (Nat.le_refl _)).more hb.size⟩
theorem beach38_any (w : World) : Calls Tryz.prog 38 #[] w fun e w'=>∃ v,e = .returned v ∧ BchV w' v ∧ BW w w':=by
 obtain ⟨W1,hW1⟩:=ex (w.alloc (.cells #[iv 0,iv 0,iv 0,iv 0,iv 0,.slice none 0 0] 32));have b1 : BW w W1:=by rw [← hW1]; exact belowA (belowR w) _
 have q1 : Blk W1 w.heap.size 32 #[iv 0,iv 0,iv 0,iv 0,iv 0,.slice none 0 0]:=by rw [← hW1]; exact Blk.new w 32 _
 obtain ⟨g0,hg0⟩:=ex w.heap.size;rw [hg0] at q1;have HB1:=Lq b1;have HQ1:=Lq q1;have HG0 : Hid (w.heap.size ≤ g0):=Lq (Nat.le_of_eq hg0);clear b1 q1;go_enter Tryz.func38,Tryz.ntmps38
 go_wp2_with fail
 refine (span46_any (20) (25) W1).mono ?_;rintro e w2 ⟨rfl,hb2⟩;have HB2:=Lq (belowT HB1.out hb2);have HQ2:=Lq (HQ1.out.keep hb2);clear hb2 hW1 hg0;go_wp2_with fail
 refine (span46_any (6000) (12000) w2).mono ?_;rintro e w3 ⟨rfl,hb3⟩;have HB3:=Lq (belowT HB2.out hb3);have HQ3:=Lq (HQ2.out.keep hb3);clear hb3;go_wp2_with fail
 refine (span46_any (500) (520) w3).mono ?_;rintro e w4 ⟨rfl,hb4⟩;have HB4:=Lq (belowT HB3.out hb4);have HQ4:=Lq (HQ3.out.keep hb4);clear hb4;go_wp2_with fail
 refine (span46_any (-10) (20) w4).mono ?_;rintro e w5 ⟨rfl,hb5⟩;have HB5:=Lq (belowT HB4.out hb5);have HQ5:=Lq (HQ4.out.keep hb5);clear hb5;go_wp2_with fail
 refine (span46_any (560) (590) w5).mono ?_;rintro e w6 ⟨rfl,hb6⟩;have HB6:=Lq (belowT HB5.out hb6);have HQ6:=Lq (HQ5.out.keep hb6);clear hb6;go_wp2_with fail
 refine (span46_any (-10) (20) w6).mono ?_;rintro e w7 ⟨rfl,hb7⟩;have HB7:=Lq (belowT HB6.out hb7);have HQ7:=Lq (HQ6.out.keep hb7);clear hb7;obtain ⟨w8,hw8⟩:=ex (w7.alloc (.cells #[iv 3,iv 500,iv 520,iv (-10),iv 20,iv 17,iv 560,iv 590,iv (-10),iv 20] 141));have hb8 : BW w7 w8:=by rw [← hw8]; exact belowA (belowR _) _
 have hq9 : Blk w8 w7.heap.size 141 (exTs.flatMap encT).toArray:=by rw [← hw8]; exact Blk.new w7 141 _
 obtain ⟨g9,hg9⟩:=ex w7.heap.size;rw [hg9] at hq9;have hq8:=HQ7.out.keep hb8;have hne : g9 ≠ g0:=by have:=HQ7.out.lt; omega
 obtain ⟨c0,c1,c2,c3,c4,c5⟩:=hq8.c6;obtain ⟨f0,f1,f2,f3,f4,f5⟩:=hq8.f6;have fl:=hq8.lt;obtain ⟨W9,hW9⟩:=ex ((((((w8.setCell ⟨g0,0,none⟩ (iv 20)).setCell ⟨g0,1,none⟩ (iv 25)).setCell ⟨g0,2,none⟩ (iv 6000)).setCell ⟨g0,3,none⟩ (iv 12000)).setCell ⟨g0,4,none⟩ (iv 50)).setCell ⟨g0,5,none⟩ (.slice (some ⟨g9,0,none⟩) 2 2));have hq0 : Blk W9 g0 32 #[iv 20,iv 25,iv 6000,iv 12000,iv 50,.slice (some ⟨g9,0,none⟩) 2 2]:=by
  rw [← hW9];have h:=((((((hq8.set_ 0 (iv 20)).set_ 1 (iv 25)).set_ 2 (iv 6000)).set_ 3 (iv 12000)).set_ 4 (iv 50)).set_ 5 (.slice (some ⟨g9,0,none⟩) 2 2))
  simpa using h
 have o9 : OnlyAt w8 W9 g0:=by rw [← hW9]; exact (((((((OnlyAt.of_below (belowR w8) g0).set 0 _).set 1 _).set 2 _).set 3 _).set 4 _).set 5 _)
 have HT9 : Hid (TsRd W9 W9.heap.size (some ⟨g9,0,none⟩) 2 exTs):=Lq ⟨Blk.rdN encT_len (hq9.same (o9.block g9 hq9.lt hne)),Nat.le_refl _,by unfold maxLen; omega⟩
 have HBX : Hid (BW w W9):=by rw [← hW9]; exact Lq (belowS (belowS (belowS (belowS (belowS (belowS (belowT HB7.out hb8) HG0.out _) HG0.out _) HG0.out _) HG0.out _) HG0.out _) HG0.out _)
 obtain ⟨d0,d1,d2,d3,d4,d5⟩:=hq0.c6;clear hb8 hq9 hq8 hne hq0 o9;go_wp2_with fail
 exact bodyPost_ret (v:=.agg #[iv 20,iv 25,iv 6000,iv 12000,iv 50,.slice (some ⟨g9,0,none⟩) 2 2]) (by simp [results,Tryz.results38,go_sem,d0,d1,d2,d3,d4,d5]) rfl ⟨_,rfl,⟨g9,rfl,HT9.out⟩,HBX.out⟩
theorem ship39_any (w : World) : Calls Tryz.prog 39 #[] w (Rt w (sV exS)):=by
 obtain ⟨W1,hW1⟩:=ex (w.alloc (.cells #[iv 0,iv 0,iv 0] 41));have b1 : BW w W1:=by rw [← hW1]; exact belowA (belowR w) _
 have q1 : Blk W1 w.heap.size 41 #[iv 0,iv 0,iv 0]:=by rw [← hW1]; exact Blk.new w 41 _
 obtain ⟨g0,hg0⟩:=ex w.heap.size;rw [hg0] at q1;have HB1:=Lq b1;have HQ1:=Lq q1;have HG0 : Hid (w.heap.size ≤ g0):=Lq (Nat.le_of_eq hg0);clear b1 q1;go_enter Tryz.func39,Tryz.ntmps39
 go_wp2_with fail
 refine (span46_any 300 310 W1).mono ?_;rintro e w2 ⟨rfl,hb2⟩;have hq2:=HQ1.out.keep hb2;obtain ⟨c0,c1,c2⟩:=hq2.c3;obtain ⟨f0,f1,f2⟩:=hq2.f3;have fl:=hq2.lt;obtain ⟨W9,hW9⟩:=ex (((w2.setCell ⟨g0,0,none⟩ (iv 300)).setCell ⟨g0,1,none⟩ (iv 310)).setCell ⟨g0,2,none⟩ (iv 5));have hq0 : Blk W9 g0 41 #[iv 300,iv 310,iv 5]:=by
  rw [← hW9];have h:=((hq2.set_ 0 (iv 300)).set_ 1 (iv 310)).set_ 2 (iv 5)
  simpa using h
 have HBX : Hid (BW w W9):=by rw [← hW9]; exact Lq (belowS (belowS (belowS (belowT HB1.out hb2) HG0.out _) HG0.out _) HG0.out _)
 obtain ⟨d0,d1,d2⟩:=hq0.c3;clear hb2 hq2 hq0 hW1 hg0;go_wp2_with fail
 exact bodyPost_ret (v:=.agg #[iv 300,iv 310,iv 5]) (by simp [results,Tryz.results39,go_sem,d0,d1,d2]) rfl ⟨rfl,HBX.out⟩
section
variable {W : World} {v : Value}
theorem tx11 (h : BchV W v) : Calls Tryz.prog 11 #[v,sV exS,iv 0,iv 4] W (Rt W (.tuple #[.agg #[iv 6400,iv 11000],iv 0])):=by
 obtain ⟨g,rfl,ht⟩:=h;have:=stops11_any (some ⟨g,0,none⟩) exTs 2 0 exT0 exB exS 4 W ht exB_ok exS_ok rfl (by decide)
 rw [show stopLo exS.sink 4 (boxOf exB exS exT0) = 6400 by kernel_rfl,show stopHi exS.sink 4 (boxOf exB exS exT0) = 11000 by kernel_rfl] at this
 exact this
theorem tx40 (h : BchV W v) : Calls Tryz.prog 40 #[v,sV exS,iv 14] W fun e w'=>∃ (A : Option Addr) (c : Nat),e = .returned (.tuple #[.slice A 1 c,iv 0]) ∧ Rd1 iv w' w'.heap.size A [1] ∧ BW W w':=by
 obtain ⟨g,rfl,ht⟩:=h;refine (ashore40_any (some ⟨g,0,none⟩) exTs 2 14 exB exS W ht exB_ok exS_ok (by decide)).mono ?_
 rintro e w' ⟨A,c,he,hr,hb⟩;rw [show ashL exB exS exTs 14 exTs.length = [1] by kernel_rfl] at he hr
 exact ⟨A,c,he,fun i x hx=>by
  match i,hx with
  | 0,hx =>
   injection hx with hx
   subst hx;exact hr 0 1 rfl,hb⟩
theorem ex_least : leastV (doesB exB exS exT1) = 14:=by kernel_rfl
theorem tx41 (h : BchV W v) : Calls Tryz.prog 41 #[v,sV exS,iv 1] W (Rt W (.tuple #[iv 14,iv 0])):=by
 obtain ⟨g,rfl,ht⟩:=h;have:=least41_any (some ⟨g,0,none⟩) exTs 2 1 exT1 exB exS W ht exB_ok exS_ok rfl (by rw [ex_least]; decide)
 rw [ex_least] at this;exact this
theorem tx42 (h : BchV W v) : Calls Tryz.prog 42 #[v,sV exS,iv 4] W (Rt W (.tuple #[iv 1,iv 14,iv 0])):=by
 obtain ⟨g,rfl,ht⟩:=h;have:=first42_any (some ⟨g,0,none⟩) exTs 2 1 exT1 exB exS 4 W ht exB_ok exS_ok (by decide) ⟨rfl,by decide,by rw [ex_least]; decide,fun j u hj hu=>by
  obtain rfl : j = 0:=by omega
  injection hu with hu
  subst hu;decide⟩
 rw [ex_least] at this;exact this
theorem ex_miss : MissOk (fun x=>withinB exB exS x 7) (boxOf exB exS exT0) 25 306 500 (-10) :=
 ⟨by kernel_rfl,⟨by decide,fun m h1 h2=>by
  have h : m = 20 ∨ m = 21 ∨ m = 22 ∨ m = 23 ∨ m = 24:=by
   simp only [boxOf,exB,exS,exT0] at h1;omega
  rcases h with rfl | rfl | rfl | rfl | rfl <;> (show withinB _ _ _ _ = true; kernel_rfl),by kernel_rfl⟩,⟨by decide,fun m h1 h2=>by
  have h : m = 300 ∨ m = 301 ∨ m = 302 ∨ m = 303 ∨ m = 304 ∨ m = 305:=by
   simp only [boxOf,exB,exS,exT0] at h1;omega
  rcases h with rfl | rfl | rfl | rfl | rfl | rfl <;> (show withinB _ _ _ _ = true; kernel_rfl),by kernel_rfl⟩,⟨by decide,fun m h1 h2=>absurd h2 (by simp only [boxOf,exB,exS,exT0] at h1 ⊢; omega),by kernel_rfl⟩,⟨by decide,fun m h1 h2=>absurd h2 (by simp only [boxOf,exB,exS,exT0] at h1 ⊢; omega),by kernel_rfl⟩⟩
theorem tx43 (h : BchV W v) : Calls Tryz.prog 43 #[v,sV exS,iv 0,iv 7] W (Rt W (.tuple #[.agg #[iv 25,iv 306,iv 500,iv (-10)],iv 5960,iv 0])):=by
 obtain ⟨g,rfl,ht⟩:=h;have:=misses43_any (some ⟨g,0,none⟩) exTs 2 0 exT0 exB exS 7 25 306 500 (-10) W ht exB_ok exS_ok rfl (by decide) ex_miss
 rw [show atV exS.sink 7 0 ⟨25,306,500, -10⟩ = 5960 by kernel_rfl] at this
 exact this
theorem tx44 {g : Nat} (h : BchV W v) (hg : Blk W g 105 #[iv 1,iv 20]) : Calls Tryz.prog 44 #[v,sV exS,.agg #[iv 0,iv 0],.slice (some ⟨g,0,none⟩) 1 1] W (Rt W (.tuple #[.agg #[iv 7600,iv 13000],iv 0])):=by
 obtain ⟨g',rfl,ht⟩:=h;have:=lies44_any (some ⟨g',0,none⟩) (some ⟨g,0,none⟩) exTs [(1,20)] 2 1 0 0 exB exS W ht exB_ok exS_ok (Blk.rdN encPu_len (xs:=[(1,(20 : Int))]) hg) (by decide) (fun p hp=>by rw [List.mem_singleton.1 hp]; exact ⟨by decide,by decide⟩) ⟨by decide,by decide⟩ (fun i p hp=>by
  match i,hp with
  | 0,hp =>
   injection hp with hp
   subst hp;decide)
 rw [show lowLie exB (pullLo exB exS exTs (0,0) [(1,20)]) = 7600 by kernel_rfl,show highLie exB (pullHi exB exS exTs (0,0) [(1,20)]) = 13000 by kernel_rfl] at this
 exact this
theorem tx45 (h : BchV W v) : Calls Tryz.prog 45 #[v,sV exS,.agg #[iv 0,iv 0],iv 11600] W (Rt W (.tuple #[iv 1,iv 0])):=by
 obtain ⟨g',rfl,ht⟩:=h;have:=later45_any (some ⟨g',0,none⟩) exTs 2 0 0 11600 exB exS W ht exB_ok exS_ok ⟨by decide,by decide⟩
 rw [show laterV exB exS exTs (0,0) 11600 = (1,0) by kernel_rfl] at this
 exact this
theorem tx45b (h : BchV W v) : Calls Tryz.prog 45 #[v,sV exS,.agg #[iv 0,iv 0],iv 11601] W (Rt W (.tuple #[iv 0,iv 9])):=by
 obtain ⟨g',rfl,ht⟩:=h;have:=later45_any (some ⟨g',0,none⟩) exTs 2 0 0 11601 exB exS W ht exB_ok exS_ok ⟨by decide,by decide⟩
 rw [show laterV exB exS exTs (0,0) 11601 = (0,9) by kernel_rfl] at this
 exact this
end
section
variable {V V0 : World} {T0 : Array Value} {c3 p1 p10 p13 : Nat} {Q : Exit → Act → World → Prop} {A3 : Option Addr}
noncomputable def ops7_9 : Array Oper:=opsOf (regionOf Tryz.f7 9)
abbrev hHT231 (V : World) (p1 p10 p13 : Nat) : Prop:=∀ W,BW V W → W.cell? ⟨p1,0,none⟩ = some (iv 6400) ∧ W.cell? ⟨p1,1,none⟩ = some (iv 11000) ∧ W.cell? ⟨p10,0,none⟩ = some (iv 25) ∧ W.cell? ⟨p10,1,none⟩ = some (iv 306) ∧ W.cell? ⟨p10,2,none⟩ = some (iv 500) ∧ W.cell? ⟨p10,3,none⟩ = some (iv (-10)) ∧ W.cell? ⟨p13,0,none⟩ = some (iv 7600) ∧ W.cell? ⟨p13,1,none⟩ = some (iv 13000)
theorem p7_9_0 (HS : Hid (hHT231 V p1 p10 p13))
  (K0 : Hid (BW V V0)) (H : Has 144 T0 [(1,.pointer (some ⟨p1,0,none⟩)),(2,iv 0),(3,.slice A3 1 c3),(4,iv 0),(5,iv 14),(6,iv 0),(7,iv 1),(8,iv 14),(9,iv 0),(10,.pointer (some ⟨p10,0,none⟩)),(11,iv 5960),(12,iv 0),(13,.pointer (some ⟨p13,0,none⟩)),(14,iv 0),(15,iv 1),(16,iv 0),(18,iv 9)])
  (hK : Hid (∀ T' W',BW V W' → Has 144 T' [(1,.pointer (some ⟨p1,0,none⟩)),(3,.slice A3 1 c3),(5,iv 14),(7,iv 1),(8,iv 14),(10,.pointer (some ⟨p10,0,none⟩)),(11,iv 5960),(13,.pointer (some ⟨p13,0,none⟩)),(15,iv 1),(103,.bool true)] → wpAnyH Tryz.prog .any ops7_9 (NoPanic Q) (fun W=>W.cell? ⟨p1,0,none⟩ = some (iv 6400) ∧ W.cell? ⟨p1,1,none⟩ = some (iv 11000) ∧ W.cell? ⟨p10,0,none⟩ = some (iv 25) ∧ W.cell? ⟨p10,1,none⟩ = some (iv 306) ∧ W.cell? ⟨p10,2,none⟩ = some (iv 500) ∧ W.cell? ⟨p10,3,none⟩ = some (iv (-10)) ∧ W.cell? ⟨p13,0,none⟩ = some (iv 7600) ∧ W.cell? ⟨p13,1,none⟩ = some (iv 13000)) 41 (upTo 71 30) ⟨T',[]⟩ W')) :
  wpAnyH Tryz.prog .any ops7_9 (NoPanic Q) (fun W=>W.cell? ⟨p1,0,none⟩ = some (iv 6400) ∧ W.cell? ⟨p1,1,none⟩ = some (iv 11000) ∧ W.cell? ⟨p10,0,none⟩ = some (iv 25) ∧ W.cell? ⟨p10,1,none⟩ = some (iv 306) ∧ W.cell? ⟨p10,2,none⟩ = some (iv 500) ∧ W.cell? ⟨p10,3,none⟩ = some (iv (-10)) ∧ W.cell? ⟨p13,0,none⟩ = some (iv 7600) ∧ W.cell? ⟨p13,1,none⟩ = some (iv 13000)) 71 (upTo 71 0) ⟨T0,[]⟩ V0:=by
 have hS0:=HS.out _ K0.out;have x2:=H.g 2;refine gdTake 0 74 (iv 0) H ?_;intro T0 H0;clear H x2;have x74:=H0.g 74;refine gdTake 1 75 (.bool true) H0 ?_;intro T1 H1;clear H0 x74;have x75:=H1.g 75;refine gdTake 2 76 (.bool true) H1 ?_;intro T2 H2;clear H1 x75;have x4:=H2.g 4;refine gdTake 3 77 (iv 0) H2 ?_ (rI 2 76 H2);intro T3 H3;clear H2 x4;have x77:=H3.g 77;refine gdTake 4 78 (.bool true) H3 ?_ (rI 2 76 H3);intro T4 H4;clear H3 x77;have x76:=H4.g 76;have x78:=H4.g 78;refine gdTake 5 79 (.bool true) H4 ?_;intro T5 H5;clear H4 x76 x78;have x79:=H5.g 79;refine gdTake 6 80 (.bool true) H5 ?_;intro T6 H6;clear H5 x79;have x6:=H6.g 6;refine gdTake 7 81 (iv 0) H6 ?_ (rI 6 80 H6);intro T7 H7;clear H6 x6;have x81:=H7.g 81;refine gdTake 8 82 (.bool true) H7 ?_ (rI 6 80 H7);intro T8 H8;clear H7 x81;have x80:=H8.g 80;have x82:=H8.g 82;refine gdTake 9 83 (.bool true) H8 ?_;intro T9 H9;clear H8 x80 x82;have x83:=H9.g 83;refine gdTake 10 84 (.bool true) H9 ?_;intro T10 H10;clear H9 x83;have x9:=H10.g 9;refine gdTake 11 85 (iv 0) H10 ?_ (rI 10 84 H10);intro T11 H11;clear H10 x9;have x85:=H11.g 85;refine gdTake 12 86 (.bool true) H11 ?_ (rI 10 84 H11);intro T12 H12;clear H11 x85;have x84:=H12.g 84;have x86:=H12.g 86;refine gdTake 13 87 (.bool true) H12 ?_;intro T13 H13;clear H12 x84 x86;have x87:=H13.g 87;refine gdTake 14 88 (.bool true) H13 ?_;intro T14 H14;clear H13 x87;have x12:=H14.g 12;refine gdTake 15 89 (iv 0) H14 ?_ (rI 14 88 H14);intro T15 H15;clear H14 x12;have x89:=H15.g 89;refine gdTake 16 90 (.bool true) H15 ?_ (rI 14 88 H15);intro T16 H16;clear H15 x89;have x88:=H16.g 88;have x90:=H16.g 90;refine gdTake 17 91 (.bool true) H16 ?_;intro T17 H17;clear H16 x88 x90;have x91:=H17.g 91;refine gdTake 18 92 (.bool true) H17 ?_;intro T18 H18;clear H17 x91;have x14:=H18.g 14;refine gdTake 19 93 (iv 0) H18 ?_ (rI 18 92 H18);intro T19 H19;clear H18 x14;have x93:=H19.g 93;refine gdTake 20 94 (.bool true) H19 ?_ (rI 18 92 H19);intro T20 H20;clear H19 x93;have x92:=H20.g 92;have x94:=H20.g 94;refine gdTake 21 95 (.bool true) H20 ?_;intro T21 H21;clear H20 x92 x94;have x95:=H21.g 95;refine gdTake 22 96 (.bool true) H21 ?_;intro T22 H22;clear H21 x95;have x16:=H22.g 16;refine gdTake 23 97 (iv 0) H22 ?_ (rI 22 96 H22);intro T23 H23;clear H22 x16;have x97:=H23.g 97;refine gdTake 24 98 (.bool true) H23 ?_ (rI 22 96 H23);intro T24 H24;clear H23 x97;have x96:=H24.g 96;have x98:=H24.g 98;refine gdTake 25 99 (.bool true) H24 ?_;intro T25 H25;clear H24 x96 x98;have x99:=H25.g 99;refine gdTake 26 100 (.bool true) H25 ?_;intro T26 H26;clear H25 x99;have x18:=H26.g 18;refine gdTake 27 101 (iv 9) H26 ?_ (rI 26 100 H26);intro T27 H27;clear H26 x18;have x101:=H27.g 101;refine gdTake 28 102 (.bool true) H27 ?_ (rI 26 100 H27);intro T28 H28;clear H27 x101;have x100:=H28.g 100;have x102:=H28.g 102;refine gdTake 29 103 (.bool true) H28 ?_;intro T29 H29;clear H28 x100 x102;exact hK.out _ _ K0.out ((Has.cons (H29.get 1 _) (Has.cons (H29.get 3 _) (Has.cons (H29.get 5 _) (Has.cons (H29.get 7 _) (Has.cons (H29.get 8 _) (Has.cons (H29.get 10 _) (Has.cons (H29.get 11 _) (Has.cons (H29.get 13 _) (Has.cons (H29.get 15 _) (Has.cons (H29.get 103 _) (Has.nil H29.1))))))))))))
theorem p7_9_1 (HS : Hid (hHT231 V p1 p10 p13))
  (N1 : Hid (∀ U,BW V U → Calls Tryz.prog 46 #[iv 6400,iv 11000] U fun e w'=>e = .returned (.agg #[iv 6400,iv 11000]) ∧ BW V w')) (N2 : Hid (∀ U,BW V U → Calls Tryz.prog 36 #[.slice A3 1 c3,.slice (some ⟨U.heap.size,0,none⟩) 1 1] (U.alloc (.cells #[iv 1] 3)) fun e w'=>e = .returned (.bool true) ∧ BW V w'))
  (K0 : Hid (BW V V0)) (H : Has 144 T0 [(1,.pointer (some ⟨p1,0,none⟩)),(3,.slice A3 1 c3),(5,iv 14),(7,iv 1),(8,iv 14),(10,.pointer (some ⟨p10,0,none⟩)),(11,iv 5960),(13,.pointer (some ⟨p13,0,none⟩)),(15,iv 1),(103,.bool true)])
  (hK : Hid (∀ T' W',BW V W' → Has 144 T' [(10,.pointer (some ⟨p10,0,none⟩)),(11,iv 5960),(13,.pointer (some ⟨p13,0,none⟩)),(15,iv 1),(125,.bool true)] → wpAnyH Tryz.prog .any ops7_9 (NoPanic Q) (fun W=>W.cell? ⟨p1,0,none⟩ = some (iv 6400) ∧ W.cell? ⟨p1,1,none⟩ = some (iv 11000) ∧ W.cell? ⟨p10,0,none⟩ = some (iv 25) ∧ W.cell? ⟨p10,1,none⟩ = some (iv 306) ∧ W.cell? ⟨p10,2,none⟩ = some (iv 500) ∧ W.cell? ⟨p10,3,none⟩ = some (iv (-10)) ∧ W.cell? ⟨p13,0,none⟩ = some (iv 7600) ∧ W.cell? ⟨p13,1,none⟩ = some (iv 13000)) 19 (upTo 71 52) ⟨T',[]⟩ W')) :
  wpAnyH Tryz.prog .any ops7_9 (NoPanic Q) (fun W=>W.cell? ⟨p1,0,none⟩ = some (iv 6400) ∧ W.cell? ⟨p1,1,none⟩ = some (iv 11000) ∧ W.cell? ⟨p10,0,none⟩ = some (iv 25) ∧ W.cell? ⟨p10,1,none⟩ = some (iv 306) ∧ W.cell? ⟨p10,2,none⟩ = some (iv 500) ∧ W.cell? ⟨p10,3,none⟩ = some (iv (-10)) ∧ W.cell? ⟨p13,0,none⟩ = some (iv 7600) ∧ W.cell? ⟨p13,1,none⟩ = some (iv 13000)) 41 (upTo 71 30) ⟨T0,[]⟩ V0:=by
 have hS0:=HS.out _ K0.out;have x103:=H.g 103;refine gdTake 30 104 (.bool true) H ?_;intro T30 H30;clear H x103;have x1:=H30.g 1;refine gdTake 31 105 (.agg #[iv 6400,iv 11000]) H30 ?_ (rI 30 104 H30);intro T31 H31;clear H30 x1;refine gdCall 32 106 46 #[iv 6400,iv 11000] H31 (gdC HS.out (N1.out _ K0.out)) ?_ (rI 30 104 H31);rintro _ w32 T32 hS32 ⟨rfl,hb32⟩ H32;clear H31 hS0;have K32:=Lq hb32;clear hb32;have x105:=H32.g 105;have x106:=H32.g 106;refine gdTake 33 107 (.bool true) H32 ?_ (rI 30 104 H32);intro T33 H33;clear H32 x105 x106;have x104:=H33.g 104;have x107:=H33.g 107;refine gdTake 34 108 (.bool true) H33 ?_;intro T34 H34;clear H33 x104 x107;have x108:=H34.g 108;refine gdTake 35 109 (.bool true) H34 ?_;intro T35 H35;clear H34 x108;have x3:=H35.g 3;refine gdTake 36 110 (.slice A3 1 c3) H35 ?_ (rI 35 109 H35);intro T36 H36;clear H35 x3;have hS37p:=HS.out (w32.alloc (.cells #[iv 1] 3)) (belowA K32.out _);refine gdMake 37 111 (.slice (some ⟨w32.heap.size,0,none⟩) 1 1) _ H36 ?_ hS37p (rI 35 109 H36);intro T37 H37;clear H36 hS32;have x110:=H37.g 110;have x111:=H37.g 111;refine gdCall 38 112 36 #[.slice A3 1 c3,.slice (some ⟨w32.heap.size,0,none⟩) 1 1] H37 (gdC HS.out (N2.out _ K32.out)) ?_ (rI 35 109 H37);rintro _ w38 T38 hS38 ⟨rfl,hb38⟩ H38;clear x110 x111;clear H37 hS37p;have K38:=Lq hb38;clear hb38;have x109:=H38.g 109;have x112:=H38.g 112;refine gdTake 39 113 (.bool true) H38 ?_;intro T39 H39;clear H38 x109 x112;have x113:=H39.g 113;refine gdTake 40 114 (.bool true) H39 ?_;intro T40 H40;clear H39 x113;have x5:=H40.g 5;refine gdTake 41 115 (iv 14) H40 ?_ (rI 40 114 H40);intro T41 H41;clear H40 x5;have x115:=H41.g 115;refine gdTake 42 116 (.bool true) H41 ?_ (rI 40 114 H41);intro T42 H42;clear H41 x115;have x114:=H42.g 114;have x116:=H42.g 116;refine gdTake 43 117 (.bool true) H42 ?_;intro T43 H43;clear H42 x114 x116;have x117:=H43.g 117;refine gdTake 44 118 (.bool true) H43 ?_;intro T44 H44;clear H43 x117;have x7:=H44.g 7;refine gdTake 45 119 (iv 1) H44 ?_ (rI 44 118 H44);intro T45 H45;clear H44 x7;have x119:=H45.g 119;refine gdTake 46 120 (.bool true) H45 ?_ (rI 44 118 H45);intro T46 H46;clear H45 x119;have x118:=H46.g 118;have x120:=H46.g 120;refine gdTake 47 121 (.bool true) H46 ?_;intro T47 H47;clear H46 x118 x120;have x121:=H47.g 121;refine gdTake 48 122 (.bool true) H47 ?_;intro T48 H48;clear H47 x121;have x8:=H48.g 8;refine gdTake 49 123 (iv 14) H48 ?_ (rI 48 122 H48);intro T49 H49;clear H48 x8;have x123:=H49.g 123;refine gdTake 50 124 (.bool true) H49 ?_ (rI 48 122 H49);intro T50 H50;clear H49 x123;have x122:=H50.g 122;have x124:=H50.g 124;refine gdTake 51 125 (.bool true) H50 ?_;intro T51 H51;clear H50 x122 x124;exact hK.out _ _ K38.out ((Has.cons (H51.get 10 _) (Has.cons (H51.get 11 _) (Has.cons (H51.get 13 _) (Has.cons (H51.get 15 _) (Has.cons (H51.get 125 _) (Has.nil H51.1)))))))
theorem p7_9_2 (HS : Hid (hHT231 V p1 p10 p13))
  (N3 : Hid (∀ U,BW V U → Calls Tryz.prog 46 #[iv 7600,iv 13000] U fun e w'=>e = .returned (.agg #[iv 7600,iv 13000]) ∧ BW V w'))
  (K0 : Hid (BW V V0)) (H : Has 144 T0 [(10,.pointer (some ⟨p10,0,none⟩)),(11,iv 5960),(13,.pointer (some ⟨p13,0,none⟩)),(15,iv 1),(125,.bool true)])
  (hK : Hid (∀ T' W',BW V W' → Has 144 T' [(0,.bool true)] → wpAnyH Tryz.prog .any ops7_9 (NoPanic Q) (fun W=>W.cell? ⟨p1,0,none⟩ = some (iv 6400) ∧ W.cell? ⟨p1,1,none⟩ = some (iv 11000) ∧ W.cell? ⟨p10,0,none⟩ = some (iv 25) ∧ W.cell? ⟨p10,1,none⟩ = some (iv 306) ∧ W.cell? ⟨p10,2,none⟩ = some (iv 500) ∧ W.cell? ⟨p10,3,none⟩ = some (iv (-10)) ∧ W.cell? ⟨p13,0,none⟩ = some (iv 7600) ∧ W.cell? ⟨p13,1,none⟩ = some (iv 13000)) 0 (upTo 71 71) ⟨T',[]⟩ W')) :
  wpAnyH Tryz.prog .any ops7_9 (NoPanic Q) (fun W=>W.cell? ⟨p1,0,none⟩ = some (iv 6400) ∧ W.cell? ⟨p1,1,none⟩ = some (iv 11000) ∧ W.cell? ⟨p10,0,none⟩ = some (iv 25) ∧ W.cell? ⟨p10,1,none⟩ = some (iv 306) ∧ W.cell? ⟨p10,2,none⟩ = some (iv 500) ∧ W.cell? ⟨p10,3,none⟩ = some (iv (-10)) ∧ W.cell? ⟨p13,0,none⟩ = some (iv 7600) ∧ W.cell? ⟨p13,1,none⟩ = some (iv 13000)) 19 (upTo 71 52) ⟨T0,[]⟩ V0:=by
 have hS0:=HS.out _ K0.out;have x125:=H.g 125;refine gdTake 52 126 (.bool true) H ?_;intro T52 H52;clear H x125;have x10:=H52.g 10;refine gdTake 53 127 (.agg #[iv 25,iv 306,iv 500,iv (-10)]) H52 ?_ (rI 52 126 H52);intro T53 H53;clear H52 x10;refine gdTake 54 128 (.agg #[iv 25,iv 306,iv 500,iv (-10)]) H53 ?_ (rI 52 126 H53);intro T54 H54;clear H53 ;have x127:=H54.g 127;have x128:=H54.g 128;refine gdTake 55 129 (.bool true) H54 ?_ (rI 52 126 H54);intro T55 H55;clear H54 x127 x128;have x126:=H55.g 126;have x129:=H55.g 129;refine gdTake 56 130 (.bool true) H55 ?_;intro T56 H56;clear H55 x126 x129;have x130:=H56.g 130;refine gdTake 57 131 (.bool true) H56 ?_;intro T57 H57;clear H56 x130;have x11:=H57.g 11;refine gdTake 58 132 (iv 5960) H57 ?_ (rI 57 131 H57);intro T58 H58;clear H57 x11;have x132:=H58.g 132;refine gdTake 59 133 (.bool true) H58 ?_ (rI 57 131 H58);intro T59 H59;clear H58 x132;have x131:=H59.g 131;have x133:=H59.g 133;refine gdTake 60 134 (.bool true) H59 ?_;intro T60 H60;clear H59 x131 x133;have x134:=H60.g 134;refine gdTake 61 135 (.bool true) H60 ?_;intro T61 H61;clear H60 x134;have x13:=H61.g 13;refine gdTake 62 136 (.agg #[iv 7600,iv 13000]) H61 ?_ (rI 61 135 H61);intro T62 H62;clear H61 x13;refine gdCall 63 137 46 #[iv 7600,iv 13000] H62 (gdC HS.out (N3.out _ K0.out)) ?_ (rI 61 135 H62);rintro _ w63 T63 hS63 ⟨rfl,hb63⟩ H63;clear H62 hS0;have K63:=Lq hb63;clear hb63;have x136:=H63.g 136;have x137:=H63.g 137;refine gdTake 64 138 (.bool true) H63 ?_ (rI 61 135 H63);intro T64 H64;clear H63 x136 x137;have x135:=H64.g 135;have x138:=H64.g 138;refine gdTake 65 139 (.bool true) H64 ?_;intro T65 H65;clear H64 x135 x138;have x139:=H65.g 139;refine gdTake 66 140 (.bool true) H65 ?_;intro T66 H66;clear H65 x139;have x15:=H66.g 15;refine gdTake 67 141 (iv 1) H66 ?_ (rI 66 140 H66);intro T67 H67;clear H66 x15;have x141:=H67.g 141;refine gdTake 68 142 (.bool true) H67 ?_ (rI 66 140 H67);intro T68 H68;clear H67 x141;have x140:=H68.g 140;have x142:=H68.g 142;refine gdTake 69 143 (.bool true) H68 ?_;intro T69 H69;clear H68 x140 x142;have x143:=H69.g 143;refine gdTake 70 0 (.bool true) H69 ?_;intro T70 H70;clear H69 x143;exact hK.out _ _ K63.out ((Has.cons (H70.get 0 _) (Has.nil H70.1)))
theorem f7_9 {K : Act → World → Prop} {w0 : World} {z0 z17 z19 z20 z21 z22 z23 z24 z25 z26 z27 z28 z29 z30 z31 z32 z33 z34 z35 z36 z37 z38 z39 z40 z41 z42 z43 z44 z45 z46 z47 z48 z49 z50 z51 z52 z53 z54 z55 z56 z57 z58 z59 z60 z61 z62 z63 z64 z65 z66 z67 z68 z69 z70 z71 z72 z73 z74 z75 z76 z77 z78 z79 z80 z81 z82 z83 z84 z85 z86 z87 z88 z89 z90 z91 z92 z93 z94 z95 z96 z97 z98 z99 z100 z101 z102 z103 z104 z105 z106 z107 z108 z109 z110 z111 z112 z113 z114 z115 z116 z117 z118 z119 z120 z121 z122 z123 z124 z125 z126 z127 z128 z129 z130 z131 z132 z133 z134 z135 z136 z137 z138 z139 z140 z141 z142 z143 : Value}
  (hK : ∀ a w,(restOf Tryz.f7 9).wp Tryz.prog (bodyPost Tryz.prog Tryz.f7 (Rt w0 (.bool true))) a w → K a w)
  (hB0 : BW w0 V) (q1 : Blk V p1 29 #[iv 6400,iv 11000]) (q10 : Blk V p10 100 #[iv 25,iv 306,iv 500,iv (-10)]) (q13 : Blk V p13 29 #[iv 7600,iv 13000]) (rd3 : Rd1 iv V V.heap.size A3 [1]) :
  (regionOf Tryz.f7 9).wp Tryz.prog (Exit.then K (bodyPost Tryz.prog Tryz.f7 (Rt w0 (.bool true)))) ⟨((z0::(.pointer (some ⟨p1,0,none⟩))::(iv 0)::(.slice A3 1 c3)::(iv 0)::(iv 14)::(iv 0)::(iv 1)::(iv 14)::(iv 0)::(.pointer (some ⟨p10,0,none⟩))::(iv 5960)::(iv 0)::(.pointer (some ⟨p13,0,none⟩))::(iv 0)::(iv 1)::(iv 0)::z17::(iv 9)::z19::z20::z21::z22::z23::z24::z25::z26::z27::z28::z29::z30::z31::z32::z33::z34::z35::z36::z37::z38::z39::z40::z41::z42::z43::z44::z45::z46::z47::z48::z49::z50::z51::z52::z53::z54::z55::z56::z57::z58::z59::z60::z61::z62::z63::z64::z65::z66::z67::z68::z69::z70::z71::z72::z73::z74::z75::z76::z77::z78::z79::z80::z81::z82::z83::z84::z85::z86::z87::z88::z89::z90::z91::z92::z93::z94::z95::z96::z97::z98::z99::z100::z101::z102::z103::z104::z105::z106::z107::z108::z109::z110::z111::z112::z113::z114::z115::z116::z117::z118::z119::z120::z121::z122::z123::z124::z125::z126::z127::z128::z129::z130::z131::z132::z133::z134::z135::z136::z137::z138::z139::z140::z141::z142::z143::[] : List Value).toArray),[]⟩ V:=by
 obtain ⟨cc,hcc⟩ : ∃ c,c = restOf Tryz.f7 9:=⟨_,rfl⟩;rw [← hcc] at hK;conv at hcc=>rhs; whnf
 subst hcc;have HS : Hid (∀ W,BW V W → W.cell? ⟨p1,0,none⟩ = some (iv 6400) ∧ W.cell? ⟨p1,1,none⟩ = some (iv 11000) ∧ W.cell? ⟨p10,0,none⟩ = some (iv 25) ∧ W.cell? ⟨p10,1,none⟩ = some (iv 306) ∧ W.cell? ⟨p10,2,none⟩ = some (iv 500) ∧ W.cell? ⟨p10,3,none⟩ = some (iv (-10)) ∧ W.cell? ⟨p13,0,none⟩ = some (iv 7600) ∧ W.cell? ⟨p13,1,none⟩ = some (iv 13000)):=Lq fun W hb=>have k1:=q1.keep hb; have k2:=q10.keep hb; have k3:=q13.keep hb; ⟨k1.c 0,k1.c 1,k2.c 0,k2.c 1,k2.c 2,k2.c 3,k3.c 0,k3.c 1⟩
 have N1 : Hid (∀ U,BW V U → Calls Tryz.prog 46 #[iv 6400,iv 11000] U fun e w'=>e = .returned (.agg #[iv 6400,iv 11000]) ∧ BW V w'):=Lq fun U hb=>(span46_any 6400 11000 U).mono fun _ _ h=>⟨h.1,belowT hb h.2⟩
 have N2 : Hid (∀ U,BW V U → Calls Tryz.prog 36 #[.slice A3 1 c3,.slice (some ⟨U.heap.size,0,none⟩) 1 1] (U.alloc (.cells #[iv 1] 3)) fun e w'=>e = .returned (.bool true) ∧ BW V w'):=Lq fun U hb=>(ints36_same A3 (some ⟨U.heap.size,0,none⟩) [1] c3 1 _ ((rd3.below (belowA hb _) (Nat.le_refl _)).more (belowA hb _).size) (Blk.rd1 (xs:=[(1 : Int)]) (Blk.new U 3 _)) (by simp)).mono fun _ _ h=>⟨h.1,belowT (belowA hb _) h.2⟩
 have N3 : Hid (∀ U,BW V U → Calls Tryz.prog 46 #[iv 7600,iv 13000] U fun e w'=>e = .returned (.agg #[iv 7600,iv 13000]) ∧ BW V w'):=Lq fun U hb=>(span46_any 7600 13000 U).mono fun _ _ h=>⟨h.1,belowT hb h.2⟩
 have HB0:=Lq hB0;clear hB0 q1 q10 q13 rd3;have H : Has 144 (((z0::(.pointer (some ⟨p1,0,none⟩))::(iv 0)::(.slice A3 1 c3)::(iv 0)::(iv 14)::(iv 0)::(iv 1)::(iv 14)::(iv 0)::(.pointer (some ⟨p10,0,none⟩))::(iv 5960)::(iv 0)::(.pointer (some ⟨p13,0,none⟩))::(iv 0)::(iv 1)::(iv 0)::z17::(iv 9)::z19::z20::z21::z22::z23::z24::z25::z26::z27::z28::z29::z30::z31::z32::z33::z34::z35::z36::z37::z38::z39::z40::z41::z42::z43::z44::z45::z46::z47::z48::z49::z50::z51::z52::z53::z54::z55::z56::z57::z58::z59::z60::z61::z62::z63::z64::z65::z66::z67::z68::z69::z70::z71::z72::z73::z74::z75::z76::z77::z78::z79::z80::z81::z82::z83::z84::z85::z86::z87::z88::z89::z90::z91::z92::z93::z94::z95::z96::z97::z98::z99::z100::z101::z102::z103::z104::z105::z106::z107::z108::z109::z110::z111::z112::z113::z114::z115::z116::z117::z118::z119::z120::z121::z122::z123::z124::z125::z126::z127::z128::z129::z130::z131::z132::z133::z134::z135::z136::z137::z138::z139::z140::z141::z142::z143::[] : List Value).toArray)) ([(1,.pointer (some ⟨p1,0,none⟩)),(2,iv 0),(3,.slice A3 1 c3),(4,iv 0),(5,iv 14),(6,iv 0),(7,iv 1),(8,iv 14),(9,iv 0),(10,.pointer (some ⟨p10,0,none⟩)),(11,iv 5960),(12,iv 0),(13,.pointer (some ⟨p13,0,none⟩)),(14,iv 0),(15,iv 1),(16,iv 0),(18,iv 9)]):=Has.cons rfl (Has.cons rfl (Has.cons rfl (Has.cons rfl (Has.cons rfl (Has.cons rfl (Has.cons rfl (Has.cons rfl (Has.cons rfl (Has.cons rfl (Has.cons rfl (Has.cons rfl (Has.cons rfl (Has.cons rfl (Has.cons rfl (Has.cons rfl (Has.cons rfl (Has.nil rfl)))))))))))))))));have hEnd : ∀ T W,BW V W → Has 144 T [(0,.bool true)] → Exit.then K (bodyPost Tryz.prog Tryz.f7 (Rt w0 (.bool true))) .normal ⟨T,[]⟩ W:=by
  intro T W hb hT;refine hK _ _ ?_;have x0:=hT.get 0 _;have HB:=Lq (belowT HB0.out hb);clear HS N1 N2 N3 H hK hT hb;apply wp_ret;exact bodyPost_ret (v:=.bool true) (by simp [results,Tryz.results7,x0]) rfl ⟨rfl,HB.out⟩
 generalize ((z0::(.pointer (some ⟨p1,0,none⟩))::(iv 0)::(.slice A3 1 c3)::(iv 0)::(iv 14)::(iv 0)::(iv 1)::(iv 14)::(iv 0)::(.pointer (some ⟨p10,0,none⟩))::(iv 5960)::(iv 0)::(.pointer (some ⟨p13,0,none⟩))::(iv 0)::(iv 1)::(iv 0)::z17::(iv 9)::z19::z20::z21::z22::z23::z24::z25::z26::z27::z28::z29::z30::z31::z32::z33::z34::z35::z36::z37::z38::z39::z40::z41::z42::z43::z44::z45::z46::z47::z48::z49::z50::z51::z52::z53::z54::z55::z56::z57::z58::z59::z60::z61::z62::z63::z64::z65::z66::z67::z68::z69::z70::z71::z72::z73::z74::z75::z76::z77::z78::z79::z80::z81::z82::z83::z84::z85::z86::z87::z88::z89::z90::z91::z92::z93::z94::z95::z96::z97::z98::z99::z100::z101::z102::z103::z104::z105::z106::z107::z108::z109::z110::z111::z112::z113::z114::z115::z116::z117::z118::z119::z120::z121::z122::z123::z124::z125::z126::z127::z128::z129::z130::z131::z132::z133::z134::z135::z136::z137::z138::z139::z140::z141::z142::z143::[] : List Value).toArray) = T0 at H ⊢;exact gd0 (m:=71) (r:=9) (ops:=ops7_9) HS.out fun V0 hb0 _=>p7_9_0 HS  (Lq hb0) H (Lq fun T1 V1 hb1 H1=>p7_9_1 HS N1 N2 (Lq hb1) H1 (Lq fun T2 V2 hb2 H2=>p7_9_2 HS N3 (Lq hb2) H2 (Lq fun T3 V3 hb3 H3=>(wpAnyH_done (by kernel_rfl) (NoPanic.normal (hEnd T3 V3 hb3 H3)) _))))
theorem awake7_any (w0 : World) : Calls Tryz.prog 7 #[] w0 (Rt w0 (.bool true)):=by
 go_enter Tryz.func7,Tryz.ntmps7
 go_wp2_with fail
 refine (beach38_any w0).mono ?_;rintro e w1 ⟨v1,rfl,hp,hb⟩;have B1 : Hid (BW w0 w1):=Lq hb;have Pv1:=Lq hp;clear hb hp;go_wp2_with fail
 refine (ship39_any w1).mono ?_;rintro e w2 ⟨rfl,hb⟩;have B2 : Hid (BW w1 w2):=Lq hb;clear hb;go_wp2_with fail
 refine (tx11 (Pv1.out.below B2.out)).mono ?_;rintro e w3 ⟨rfl,hb⟩;have B3 : Hid (BW w2 w3):=Lq hb;clear hb;obtain ⟨Wa4,w4,hWa,hWn,hbn,hqa,hba,hqn⟩:=twoMade w3 29 (iv 0) (iv 0) (iv 6400) (iv 11000);obtain ⟨p1,hp1⟩:=ex w3.heap.size;rw [hp1] at hWn hqa hqn;have af0:=hqa.frozen 0;have ac0:=hqa.c 0;have af1:=hqa.frozen 1;have ac1:=hqa.c 1;have al:=hqa.lt;have B4 : Hid (BW w3 w4):=Lq hbn;have Qp1:=Lq hqn;have Gp1 : Hid (w3.heap.size = p1):=Lq hp1;clear hbn hqa hba hqn;go_wp2_with fail
 clear af0 ac0 af1 ac1 al hWa hWn hp1;refine (beach38_any w4).mono ?_;rintro e w5 ⟨v2,rfl,hp,hb⟩;have B5 : Hid (BW w4 w5):=Lq hb;have Pv2:=Lq hp;clear hb hp;go_wp2_with fail
 refine (ship39_any w5).mono ?_;rintro e w6 ⟨rfl,hb⟩;have B6 : Hid (BW w5 w6):=Lq hb;clear hb;go_wp2_with fail
 refine (tx40 (Pv2.out.below B6.out)).mono ?_;rintro e w7 ⟨A3,c3,rfl,hr3,hb⟩;have B7 : Hid (BW w6 w7):=Lq hb;have RD3:=Lq hr3;clear hb hr3;go_wp2_with fail
 refine (beach38_any w7).mono ?_;rintro e w8 ⟨v3,rfl,hp,hb⟩;have B8 : Hid (BW w7 w8):=Lq hb;have Pv3:=Lq hp;clear hb hp;go_wp2_with fail
 refine (ship39_any w8).mono ?_;rintro e w9 ⟨rfl,hb⟩;have B9 : Hid (BW w8 w9):=Lq hb;clear hb;go_wp2_with fail
 refine (tx41 (Pv3.out.below B9.out)).mono ?_;rintro e w10 ⟨rfl,hb⟩;have B10 : Hid (BW w9 w10):=Lq hb;clear hb;go_wp2_with fail
 refine (beach38_any w10).mono ?_;rintro e w11 ⟨v4,rfl,hp,hb⟩;have B11 : Hid (BW w10 w11):=Lq hb;have Pv4:=Lq hp;clear hb hp;go_wp2_with fail
 refine (ship39_any w11).mono ?_;rintro e w12 ⟨rfl,hb⟩;have B12 : Hid (BW w11 w12):=Lq hb;clear hb;go_wp2_with fail
 refine (tx42 (Pv4.out.below B12.out)).mono ?_;rintro e w13 ⟨rfl,hb⟩;have B13 : Hid (BW w12 w13):=Lq hb;clear hb;go_wp2_with fail
 refine (beach38_any w13).mono ?_;rintro e w14 ⟨v5,rfl,hp,hb⟩;have B14 : Hid (BW w13 w14):=Lq hb;have Pv5:=Lq hp;clear hb hp;go_wp2_with fail
 refine (ship39_any w14).mono ?_;rintro e w15 ⟨rfl,hb⟩;have B15 : Hid (BW w14 w15):=Lq hb;clear hb;go_wp2_with fail
 refine (tx43 (Pv5.out.below B15.out)).mono ?_;rintro e w16 ⟨rfl,hb⟩;have B16 : Hid (BW w15 w16):=Lq hb;clear hb;obtain ⟨Wa17,w17,hWa,hWn,hbn,hqa,hba,hqn⟩:=fourMade w16 100 (iv 0) (iv 0) (iv 0) (iv 0) (iv 25) (iv 306) (iv 500) (iv (-10));obtain ⟨p10,hp10⟩:=ex w16.heap.size;rw [hp10] at hWn hqa hqn;have af0:=hqa.frozen 0;have ac0:=hqa.c 0;have af1:=hqa.frozen 1;have ac1:=hqa.c 1;have af2:=hqa.frozen 2;have ac2:=hqa.c 2;have af3:=hqa.frozen 3;have ac3:=hqa.c 3;have al:=hqa.lt;have B17 : Hid (BW w16 w17):=Lq hbn;have Qp10:=Lq hqn;clear hbn hqa hba hqn;go_wp2_with fail
 clear af0 af1 af2 af3 ac0 ac1 ac2 ac3 al hWa hWn hp10;refine (beach38_any w17).mono ?_;rintro e w18 ⟨v6,rfl,hp,hb⟩;have B18 : Hid (BW w17 w18):=Lq hb;have Pv6:=Lq hp;clear hb hp;go_wp2_with fail
 refine (ship39_any w18).mono ?_;rintro e w19 ⟨rfl,hb⟩;have B19 : Hid (BW w18 w19):=Lq hb;clear hb;obtain ⟨w20,hwn⟩:=ex (w19.alloc (.cells #[iv 1,iv 20] 105));have hbn : BW w19 w20:=by rw [← hwn]; exact belowA (belowR _) _
 have hqn : Blk w20 w19.heap.size 105 #[iv 1,iv 20]:=by rw [← hwn]; exact Blk.new w19 105 _
 obtain ⟨p5,hp5⟩:=ex w19.heap.size;rw [hp5] at hqn;have B20 : Hid (BW w19 w20):=Lq hbn;have Qp5:=Lq hqn;clear hbn hqn;go_wp2_with fail
 clear hwn hp5;refine (tx44 (Pv6.out.below (belowT B19.out B20.out)) Qp5.out).mono ?_;rintro e w21 ⟨rfl,hb⟩;have B21 : Hid (BW w20 w21):=Lq hb;clear hb;obtain ⟨Wa22,w22,hWa,hWn,hbn,hqa,hba,hqn⟩:=twoMade w21 29 (iv 0) (iv 0) (iv 7600) (iv 13000);obtain ⟨p13,hp13⟩:=ex w21.heap.size;rw [hp13] at hWn hqa hqn;have af0:=hqa.frozen 0;have ac0:=hqa.c 0;have af1:=hqa.frozen 1;have ac1:=hqa.c 1;have al:=hqa.lt;have B22 : Hid (BW w21 w22):=Lq hbn;have Qp13:=Lq hqn;have Gp13 : Hid (w21.heap.size = p13):=Lq hp13;clear hbn hqa hba hqn;go_wp2_with fail
 clear af0 ac0 af1 ac1 al hWa hWn hp13;refine (beach38_any w22).mono ?_;rintro e w23 ⟨v7,rfl,hp,hb⟩;have B23 : Hid (BW w22 w23):=Lq hb;have Pv7:=Lq hp;clear hb hp;go_wp2_with fail
 refine (ship39_any w23).mono ?_;rintro e w24 ⟨rfl,hb⟩;have B24 : Hid (BW w23 w24):=Lq hb;clear hb;go_wp2_with fail
 refine (tx45 (Pv7.out.below B24.out)).mono ?_;rintro e w25 ⟨rfl,hb⟩;have B25 : Hid (BW w24 w25):=Lq hb;clear hb;go_wp2_with fail
 refine (beach38_any w25).mono ?_;rintro e w26 ⟨v8,rfl,hp,hb⟩;have B26 : Hid (BW w25 w26):=Lq hb;have Pv8:=Lq hp;clear hb hp;go_wp2_with fail
 refine (ship39_any w26).mono ?_;rintro e w27 ⟨rfl,hb⟩;have B27 : Hid (BW w26 w27):=Lq hb;clear hb;go_wp2_with fail
 refine (tx45b (Pv8.out.below B27.out)).mono ?_;rintro e w28 ⟨rfl,hb⟩;have B28 : Hid (BW w27 w28):=Lq hb;clear hb;go_upto_region 9 with fail
 exact f7_9 (by assumption) (belowT B1.out (belowT B2.out (belowT B3.out (belowT B4.out (belowT B5.out (belowT B6.out (belowT B7.out (belowT B8.out (belowT B9.out (belowT B10.out (belowT B11.out (belowT B12.out (belowT B13.out (belowT B14.out (belowT B15.out (belowT B16.out (belowT B17.out (belowT B18.out (belowT B19.out (belowT B20.out (belowT B21.out (belowT B22.out (belowT B23.out (belowT B24.out (belowT B25.out (belowT B26.out (belowT B27.out B28.out))))))))))))))))))))))))))) (Qp1.out.keep (belowT B5.out (belowT B6.out (belowT B7.out (belowT B8.out (belowT B9.out (belowT B10.out (belowT B11.out (belowT B12.out (belowT B13.out (belowT B14.out (belowT B15.out (belowT B16.out (belowT B17.out (belowT B18.out (belowT B19.out (belowT B20.out (belowT B21.out (belowT B22.out (belowT B23.out (belowT B24.out (belowT B25.out (belowT B26.out (belowT B27.out B28.out)))))))))))))))))))))))) (Qp10.out.keep (belowT B18.out (belowT B19.out (belowT B20.out (belowT B21.out (belowT B22.out (belowT B23.out (belowT B24.out (belowT B25.out (belowT B26.out (belowT B27.out B28.out))))))))))) (Qp13.out.keep (belowT B23.out (belowT B24.out (belowT B25.out (belowT B26.out (belowT B27.out B28.out)))))) ((RD3.out.below (belowT B8.out (belowT B9.out (belowT B10.out (belowT B11.out (belowT B12.out (belowT B13.out (belowT B14.out (belowT B15.out (belowT B16.out (belowT B17.out (belowT B18.out (belowT B19.out (belowT B20.out (belowT B21.out (belowT B22.out (belowT B23.out (belowT B24.out (belowT B25.out (belowT B26.out (belowT B27.out B28.out)))))))))))))))))))) (Nat.le_refl _)).more ((belowT B8.out (belowT B9.out (belowT B10.out (belowT B11.out (belowT B12.out (belowT B13.out (belowT B14.out (belowT B15.out (belowT B16.out (belowT B17.out (belowT B18.out (belowT B19.out (belowT B20.out (belowT B21.out (belowT B22.out (belowT B23.out (belowT B24.out (belowT B25.out (belowT B26.out (belowT B27.out B28.out))))))))))))))))))))).size)
end
end Go.Proofs.YtpgfldcoojfheaaGreatDoor
