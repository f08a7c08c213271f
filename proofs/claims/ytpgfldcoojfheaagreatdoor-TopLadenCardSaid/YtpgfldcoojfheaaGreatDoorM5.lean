/- hull: what check asks of the names that a part stands on (printed by mkHP3.py). hull: check (printed by mkHP4.py). hull: slices.Clone of parts and of names. hull: slices.Delete of one part of a row of the call's own. A region that draws its order, within a round: what is shown of it outside serves there too. No program is named here. The law of late stores, within a round of a loop over a .. -/
import Derived.Lib.SliceRun
import Derived.Deep.RegionLaw
import Derived.Laws.IdiomCopy
import Derived.OrdersIn
import Derived.Deep.RegionHeld3
import Derived.RangeFuncCalls
import Derived.Test.YtpgfldcoojfheaaGreatDoorM0
import Derived.Test.YtpgfldcoojfheaaGreatDoorM2
import Derived.Test.YtpgfldcoojfheaaGreatDoorM4
set_option maxRecDepth 1000000
set_option maxHeartbeats 16000000
namespace Go.Proofs.YtpgfldcoojfheaaGreatDoor
open Go.RowKit
def metB (x : HuP) (ps : List HuP) (s : ByteArray) : Bool:=match ps.find? (nmB s) with
 | some y=>meetB x y
 | none=>false
theorem apart145_any (A : Option Addr) (ms : List HuM) (m : HuM) (B cap gx gb : Nat) (s : ByteArray) (w : World) (hB : B ≤ w.heap.size) (hm : ms.length ≤ maxLen) (H : MsRd w B A ms) (hx : Blk w gx 47 #[.string m.p.name,iv m.p.kind,iv m.p.first,iv m.p.last,.slice m.A m.p.on.length m.cap,iv m.p.wlo,iv m.p.whi]) (hc : w.cell? ⟨gb,0,none⟩ = some (.slice A ms.length cap)) (hh : hasP (psOf ms) s = true) :
  Calls Tryz.prog 145 #[.string s,.pointer (some ⟨gx,0,none⟩),.pointer (some ⟨gb,0,none⟩)] w (Rt w (.bool (!metB m.p (psOf ms) s))):=by
 obtain ⟨hp1,hjl,yp,hy,_⟩:=posP_at hh;obtain ⟨y0,hf,hf2⟩:=find_none_of hh;obtain ⟨j,hj⟩:=ex (idxP (psOf ms) s);rw [hj] at hp1 hjl hy hf2;have hjl2 : j < ms.length:=by simpa using hjl
 obtain ⟨y,hym⟩ : ∃ y,ms[j]? = some y:=⟨_,List.getElem?_eq_getElem hjl2⟩;have hyp : y0 = y.p:=by rw [ps_at hym] at hf2; injection hf2 with hf2; exact hf2.symm
 have hmet : metB m.p (psOf ms) s = meetB m.p y.p:=by unfold metB; rw [hf,hyp]
 rw [hmet];obtain ⟨b,off,rfl,_,_,d0,d1,d2,d3,d4,d5,d6⟩:=H.at hym;have hF : Calls Tryz.prog 49 #[.pointer (some ⟨gb,0,none⟩),.string s] w.drew (Rt w.drew (iv j)):=hp1 ▸ find49_any _ ms B cap gb s w.drew hB hm (H.below (belowDr (belowR w)) hB) (keepC (belowDr (belowR w)) hc);have HF:=Lq hF;have hM:=fun W=>meet146_any m y W
 obtain ⟨⟨name,kind,first,last,on,wlo,whi⟩,Ao,ca⟩:=m;obtain ⟨⟨yn,yk,yf,yl,yon,yw,yz⟩,yA,yc⟩:=y;simp only at d0 d1 d2 d3 d4 d5 d6 hM ⊢;obtain ⟨bm,hbm⟩:=ex (meetB (HuP.mk name kind first last on wlo whi) (HuP.mk yn yk yf yl yon yw yz));rw [hbm] at hM ⊢;have HM:=Lq hM;have HS : Hid (∀ W,BW w W → W.cell? ⟨gb,0,none⟩ = some (.slice (some ⟨b,off,none⟩) ms.length cap) ∧ W.cell? ⟨gx,0,none⟩ = some (.string name) ∧ W.cell? ⟨gx,1,none⟩ = some (iv kind) ∧ W.cell? ⟨gx,2,none⟩ = some (iv first) ∧ W.cell? ⟨gx,3,none⟩ = some (iv last) ∧ W.cell? ⟨gx,4,none⟩ = some (.slice Ao on.length ca) ∧ W.cell? ⟨gx,5,none⟩ = some (iv wlo) ∧ W.cell? ⟨gx,6,none⟩ = some (iv whi) ∧ W.cell? ⟨b,off + j * 7,none⟩ = some (.string yn) ∧ W.cell? ⟨b,off + j * 7 + 1,none⟩ = some (iv yk) ∧ W.cell? ⟨b,off + j * 7 + 2,none⟩ = some (iv yf) ∧ W.cell? ⟨b,off + j * 7 + 3,none⟩ = some (iv yl) ∧ W.cell? ⟨b,off + j * 7 + 4,none⟩ = some (.slice yA yon.length yc) ∧ W.cell? ⟨b,off + j * 7 + 5,none⟩ = some (iv yw) ∧ W.cell? ⟨b,off + j * 7 + 6,none⟩ = some (iv yz)):=Lq fun W hb=>have k:=hx.keep hb; ⟨keepC hb hc,k.c 0,k.c 1,k.c 2,k.c 3,k.c 4,k.c 5,k.c 6,keepC hb d0,keepC hb d1,keepC hb d2,keepC hb d3,keepC hb d4,keepC hb d5,keepC hb d6⟩
 have hj0 : (0 : Int) ≤ (j : Int):=by omega
 have hm9 : ms.length ≤ 9223372036854775807:=by simp only [maxLen] at hm; omega
 clear hp1 hjl hy hf hf2 hj hym hyp hmet hF hM hbm H hx hc hh d0 d1 d2 d3 d4 d5 d6 hm;go_enter Tryz.func145,Tryz.ntmps145
 go_wp2_with fail
 go_region_held3 (fun W=>W.cell? ⟨gb,0,none⟩ = some (.slice (some ⟨b,off,none⟩) ms.length cap) ∧ W.cell? ⟨gx,0,none⟩ = some (.string name) ∧ W.cell? ⟨gx,1,none⟩ = some (iv kind) ∧ W.cell? ⟨gx,2,none⟩ = some (iv first) ∧ W.cell? ⟨gx,3,none⟩ = some (iv last) ∧ W.cell? ⟨gx,4,none⟩ = some (.slice Ao on.length ca) ∧ W.cell? ⟨gx,5,none⟩ = some (iv wlo) ∧ W.cell? ⟨gx,6,none⟩ = some (iv whi) ∧ W.cell? ⟨b,off + j * 7,none⟩ = some (.string yn) ∧ W.cell? ⟨b,off + j * 7 + 1,none⟩ = some (iv yk) ∧ W.cell? ⟨b,off + j * 7 + 2,none⟩ = some (iv yf) ∧ W.cell? ⟨b,off + j * 7 + 3,none⟩ = some (iv yl) ∧ W.cell? ⟨b,off + j * 7 + 4,none⟩ = some (.slice yA yon.length yc) ∧ W.cell? ⟨b,off + j * 7 + 5,none⟩ = some (iv yw) ∧ W.cell? ⟨b,off + j * 7 + 6,none⟩ = some (iv yz)) (first | exact HS.out _ (belowT (undrew0 hb5) hb7) | exact HS.out _ (undrew0 hb5) | exact HS.out _ (belowDr (belowR _))) (first | (go_at_call 49; ((with_reducible refine HF.out.mono ?_); rintro e w5 ⟨rfl,hb5⟩)) | (go_at_call 146; ((with_reducible refine (HM.out _).mono ?_); rintro e w7 ⟨rfl,hb7⟩)))
 have HB7:=Lq (belowT (undrew0 hb5) hb7);clear hb5 hb7;go_wp2_with fail
 go_ret
 exact ⟨rfl,HB7.out⟩
def DupTo (l : List ByteArray) (k : Nat) : Prop:=∀ j x,j < k → l[j]? = some x → oneOf (l.take j) x = false
theorem dupTo_all (l : List ByteArray) : DupTo l l.length ↔ (l.map ByteArray.toList).Nodup:=by
 rw [nodup_iff];exact ⟨fun h k x hk=>h k x (List.getElem?_eq_some_iff.1 hk).1 hk,fun h j x _ hj=>h j x hj⟩
def DupPost (l : List ByteArray) (w : World) (e : Ending) (w' : World) : Prop:=∃ b : Bool,e = .returned (.bool b) ∧ (b = false ↔ (l.map ByteArray.toList).Nodup) ∧ w' = w
theorem repeated144_any (A : Option Addr) (l : List ByteArray) (B cap : Nat) (w : World) (hl : l.length ≤ cap) (hcap : cap ≤ maxLen) (hR : Rd1 .string w B A l) :
  Calls Tryz.prog 144 #[.slice A l.length cap] w (DupPost l w):=by
 have hc9 : cap ≤ 9223372036854775807:=by simp only [maxLen] at hcap; omega
 have HRR:=Lq hR;clear hR;go_enter Tryz.func144,Tryz.ntmps144
 go_wp2
 go_loop [7] (fun i=>∃ k : Nat,k ≤ l.length ∧ i = .int .i64 k ∧ Hid (DupTo l k)) (fun i=>l.length - (intOf i).toNat)
 case atStart=>exact ⟨0,Nat.zero_le _,rfl,Lq (fun j x h=>by omega)⟩
 case round =>
  obtain ⟨k,hk,rfl,HN⟩:=hrel;have hk0 : (0 : Int) ≤ (k : Int):=by omega
  have hkc : (k : Int) ≤ (cap : Int):=by omega
  by_cases hlt : k < l.length
  ·obtain ⟨x,hx⟩ : ∃ x,l[k]? = some x:=⟨_,List.getElem?_eq_getElem hlt⟩;have hcall:=contains98_any A (l.take k) B cap x w (by rw [List.length_take]; omega) (HRR.out.take k)
   have hle : (l.take k).length = k:=by rw [List.length_take]; omega
   rw [hle] at hcall;obtain ⟨b,off,rfl,_,hck⟩:=HRR.out k x hx;obtain ⟨bb,hbb⟩:=ex (oneOf (l.take k) x);rw [hbb] at hcall;have HC:=Lq hcall;have HX:=Lib.hid hx;have HBB:=Lq hbb;clear hx hcall hle hbb;cases bb
   ·go_wp2_with (go_at_call 98; refine HC.out.mono ?_; rintro e w' ⟨rfl,rfl⟩)
    go_round
    case rel =>
     refine ⟨k + 1,by omega,by go_num,Lq (fun j y hj hy=>?_)⟩
     rcases Nat.lt_or_ge j k with hjk | hjk
     ·exact HN.out j y hjk hy
     ·obtain rfl : j = k:=by omega
      rw [HX.out] at hy;injection hy with hy
      subst hy;exact HBB.out
    case measure=>simp [intOf]; omega
   ·go_wp2_with (go_at_call 98; refine HC.out.mono ?_; rintro e w' ⟨rfl,rfl⟩)
    go_ret
    refine ⟨true,rfl,⟨(fun h=>by cases h),fun h=>?_⟩,rfl⟩
    have:=(dupTo_all l).2 h k x hlt HX.out;rw [HBB.out] at this;cases this
  ·obtain rfl : k = l.length:=by omega
   go_wp2
   go_ret
   exact ⟨false,rfl,⟨fun _=>(dupTo_all l).1 HN.out,fun _=>rfl⟩,rfl⟩
section
variable {k : Nat}
theorem pos_take {l : List HuP} {s : ByteArray} : hasP (l.take k) s = true ↔ 0 ≤ posP l s ∧ posP l s < k:=by
 have hi : hasP l s = true → (hasP (l.take k) s = true ↔ idxP l s < k):=by
  intro hh;obtain ⟨_,hl,p,hp,e⟩:=posP_at hh;constructor
  ·intro h;obtain ⟨q,hq,e2⟩:=hasP_iff.1 h;obtain ⟨j,hj⟩:=List.mem_iff_getElem?.1 hq;rw [List.getElem?_take] at hj;split at hj
   ·rename_i hjk;obtain ⟨hjl,ej⟩:=List.getElem?_eq_some_iff.1 hj;unfold idxP;rcases Nat.lt_or_ge (l.findIdx (nmB s)) k with h2 | h2
    ·exact h2
    ·exfalso;have:=List.not_of_lt_findIdx (p:=nmB s) (xs:=l) (i:=j) (by omega)
     rw [ej] at this;rw [nmB_iff.2 e2] at this;cases this
   ·cases hj
  ·intro h;exact hasP_iff.2 ⟨p,List.mem_iff_getElem?.2 ⟨_,by rw [List.getElem?_take_of_lt h]; exact hp⟩,e⟩
 cases hh : hasP l s with
 | false =>
  rw [posP_none hh];constructor
  ·intro h;obtain ⟨q,hq,e⟩:=hasP_iff.1 h;exact absurd e (hasP_false.1 hh q (List.mem_of_mem_take hq))
  ·intro h;omega
 | true =>
  rw [hi hh,(posP_at hh).1];omega
theorem anyP_no {α : Type} {P : α → Bool} {l : List α} : anyP P l = false ↔ ∀ x ∈ l,P x = false:=by
 unfold anyP;rw [List.any_eq_false];exact ⟨fun h x hx=>by simpa using h x hx,fun h x hx=>by simp [h x hx]⟩
theorem check_parts {name : ByteArray} {kind first last wlo whi r : Int} {on : List ByteArray} {ps bs : List HuP} (k1 : nameB name = true) (k2 : posP ps name = r) (hr : ¬ (0 ≤ r ∧ r < k)) (k3 : anyP (nmB name) bs = false) (k4 : inB 1 5 kind = true) (k5 : (inB 0 40 first && inB 0 40 last) = true) (k6 : (inB 1 1000000 wlo && inB 1 1000000 whi) = true) (h7 : first ≤ last) (h8 : wlo ≤ whi) (k9 : anyP (fun o=>!hasP (ps.take k) o) on = false) :
  PartOk ⟨name,kind,first,last,on,wlo,whi⟩ (ps.take k) (ps.take k ++ bs) ↔ (on.map ByteArray.toList).Nodup ∧ anyP (fun o=>!metB ⟨name,kind,first,last,on,wlo,whi⟩ (ps.take k) o) on = false:=by
 rw [Bool.and_eq_true] at k5 k6;have hn : hasP (ps.take k) name = false:=by
  cases h : hasP (ps.take k) name with
  | false=>rfl
  | true =>
   have:=pos_take.1 h;rw [k2] at this;exact absurd this hr
 have hhas : ∀ o ∈ on,hasP (ps.take k) o = true:=fun o ho=>by simpa using anyP_no.1 k9 o ho
 have hmet : ∀ o ∈ on,(metB ⟨name,kind,first,last,on,wlo,whi⟩ (ps.take k) o = true ↔ ∃ y,(ps.take k).find? (nmB o) = some y ∧ meetB ⟨name,kind,first,last,on,wlo,whi⟩ y = true):=by
  intro o ho;obtain ⟨y,hy,_⟩:=find_none_of (hhas o ho);unfold metB;rw [hy];simp
 constructor
 ·intro h;refine ⟨h.dup,anyP_no.2 fun o ho=>?_⟩
  have:=(hmet o ho).2 (h.on o ho);rw [this]; rfl
 ·rintro ⟨h1,h2⟩;refine ⟨k1,fun p hp=>?_,inB_t k4,⟨(inB_t k5.1).1,h7,(inB_t k5.2).2⟩,⟨(inB_t k6.1).1,h8,(inB_t k6.2).2⟩,fun o ho=>(hmet o ho).1 (by have:=anyP_no.1 h2 o ho; simpa using this),h1⟩
  rcases List.mem_append.1 hp with hp | hp
  ·exact hasP_false.1 hn p hp
  ·intro e;have:=anyP_no.1 k3 p hp;rw [nmB_iff.2 e] at this;cases this
theorem check126_any (A A2 : Option Addr) (ms bs : List HuM) (x : HuM) (B cap cap2 gs k : Nat) (w : World) (hB : B ≤ w.heap.size) (H : MsRd w B A ms) (H2 : MsRd w B A2 bs) (hM : MOk w B x) (hle : ms.length ≤ cap) (hcap : cap ≤ maxLen) (hbl : bs.length ≤ maxLen) (hk : k ≤ ms.length) (hs : w.cell? ⟨gs,0,none⟩ = some (.slice A ms.length cap)) :
  Calls Tryz.prog 126 #[.pointer (some ⟨gs,0,none⟩),mV x,iv k,.slice A2 bs.length cap2] w (ErrIff (PartOk x.p ((psOf ms).take k) ((psOf ms).take k ++ psOf bs)) w):=by
 obtain ⟨W1,hW1,hb1,hz1,hq⟩:=mBox w x;have HM1:=Lq (hM.below hb1 hB);have HH1:=Lq (H.below hb1 hB);have HO1:=Lq (H2.below hb1 hB);have hBW1 : B ≤ W1.heap.size:=by omega
 have hsl:=lt_of_cell hs;clear hM H H2;obtain ⟨⟨name,kind,first,last,on,wlo,whi⟩,Ao,ca⟩:=x;obtain ⟨gx,hgx⟩:=ex w.heap.size;rw [hgx] at hq;have HB1:=Lq hb1;have HBX : Hid (∀ W,BW W1 W → Blk W gx 47 #[.string name,iv kind,iv first,iv last,.slice Ao on.length ca,iv wlo,iv whi]):=Lq fun W hb=>hq.keep hb
 have HC : Hid (∀ W,BW W1 W → W.cell? ⟨gx,0,none⟩ = some (.string name) ∧ W.cell? ⟨gx,1,none⟩ = some (iv kind) ∧ W.cell? ⟨gx,2,none⟩ = some (iv first) ∧ W.cell? ⟨gx,3,none⟩ = some (iv last) ∧ W.cell? ⟨gx,4,none⟩ = some (.slice Ao on.length ca) ∧ W.cell? ⟨gx,5,none⟩ = some (iv wlo) ∧ W.cell? ⟨gx,6,none⟩ = some (iv whi) ∧ gx < W.heap.size ∧ W.cell? ⟨gs,0,none⟩ = some (.slice A ms.length cap)):=Lq fun W hb=>have k:=hq.keep hb; ⟨k.c 0,k.c 1,k.c 2,k.c 3,k.c 4,k.c 5,k.c 6,k.lt,keepC (belowT hb1 hb) hs⟩
 have hm9 : ms.length ≤ maxLen:=Nat.le_trans hle hcap;have hk0 : (0 : Int) ≤ (k : Int):=by omega
 have hkc : (k : Int) ≤ (cap : Int):=by omega
 have hca9 : cap ≤ 9223372036854775807:=by simp only [maxLen] at hcap; omega
 obtain ⟨b1,h1⟩:=ex (nameB name);have HN : Hid (∀ W,Calls Tryz.prog 33 #[.string name] W (Rt W (.bool b1))):=Lq fun W=>h1 ▸ name_any name W HM1.out.nm
 obtain ⟨r,h2⟩:=ex (posP (psOf ms) name);have HF : Hid (∀ W,BW W1 W → Calls Tryz.prog 49 #[.pointer (some ⟨gs,0,none⟩),.string name] W (Rt W (iv r))):=Lq fun W hb=>h2 ▸ find49_any A ms B cap gs name W (Nat.le_trans hBW1 hb.size) hm9 (HH1.out.below hb hBW1) (HC.out W hb).2.2.2.2.2.2.2.2
 obtain ⟨b3,h3⟩:=ex (anyP (nmB name) (psOf bs));have HB : Hid (∀ W,BW W1 W → Calls Tryz.prog 141 #[.slice A2 bs.length cap2,.func (.func 142) #[] #[.pointer (some ⟨gx,0,none⟩)]] W (Rt W (.bool b3))):=Lq fun W hb=>h3 ▸ con_behind (nmB name) A2 bs B cap2 (.pointer (some ⟨gx,0,none⟩)) W hbl (Nat.le_trans hBW1 hb.size) (HO1.out.below hb hBW1) (fun W2 m hb2 _=>behind142_any m name gx W2 (HC.out W2 (belowT hb hb2)).1)
 obtain ⟨b4,h4⟩:=ex (inB 1 5 kind);obtain ⟨b5,h5⟩:=ex (inB 0 40 first && inB 0 40 last);obtain ⟨b6,h6⟩:=ex (inB 1 1000000 wlo && inB 1 1000000 whi);have O4 : Hid (∀ g W,W.cell? ⟨g,0,none⟩ = some (iv kind) → Calls Tryz.prog 54 #[iv 1,iv 5,.slice (some ⟨g,0,none⟩) 1 1] W (Rt W (.bool (!b4)))):=Lq fun g W hc=>h4 ▸ out_one 1 5 kind g W hc (lt_of_cell hc)
 have O5 : Hid (∀ g W,W.cell? ⟨g,0,none⟩ = some (iv first) → W.cell? ⟨g,1,none⟩ = some (iv last) → Calls Tryz.prog 54 #[iv 0,iv 40,.slice (some ⟨g,0,none⟩) 2 2] W (Rt W (.bool (!b5)))):=Lq fun g W hc hd=>h5 ▸ out_two 0 40 first last g W hc hd (lt_of_cell hc)
 have O6 : Hid (∀ g W,W.cell? ⟨g,0,none⟩ = some (iv wlo) → W.cell? ⟨g,1,none⟩ = some (iv whi) → Calls Tryz.prog 54 #[iv 1,iv 1000000,.slice (some ⟨g,0,none⟩) 2 2] W (Rt W (.bool (!b6)))):=Lq fun g W hc hd=>h6 ▸ out_two 1 1000000 wlo whi g W hc hd (lt_of_cell hc)
 have K1:=Lq h1;have K2:=Lq h2;have K3:=Lq h3;have K4:=Lq h4;have K5:=Lq h5;have K6:=Lq h6;clear h1 h2 h3 h4 h5 h6 hq hb1 hs;obtain ⟨p0,p1,p2,p3,p4,p5,p6,hxl,ps⟩:=HC.out _ (belowR W1);go_enter Tryz.func126,Tryz.ntmps126
 go_wp2_with fail
 refine (HN.out _).mono ?_;rintro e w1 ⟨rfl,hb⟩;have HB2:=Lq hb;clear p0 p1 p2 p3 p4 p5 p6 hxl ps hb hW1 HN;obtain ⟨p0,p1,p2,p3,p4,p5,p6,hxl,ps⟩:=HC.out _ HB2.out;cases b1 with
 | false =>
  go_wp2_with fail
  go_ret
  exact errNo (by decide) (fun h=>by have:=h.nm; rw [K1.out] at this; cases this) (belowT HB1.out HB2.out)
 | true =>
  go_wp2_with fail
  refine (HF.out _ HB2.out).mono ?_;rintro e w2 ⟨rfl,hb⟩;have HB3:=Lq (belowT HB2.out hb);clear p0 p1 p2 p3 p4 p5 p6 hxl ps hb;obtain ⟨p0,p1,p2,p3,p4,p5,p6,hxl,ps⟩:=HC.out _ HB3.out;by_cases hr0 : 0 ≤ r
  ·go_wp2_with fail
   refine (HF.out _ HB3.out).mono ?_;rintro e w3 ⟨rfl,hb⟩;have HB3b:=Lq (belowT HB3.out hb);clear p0 p1 p2 p3 p4 p5 p6 hxl ps hb;obtain ⟨p0,p1,p2,p3,p4,p5,p6,hxl,ps⟩:=HC.out _ HB3b.out;by_cases hrk : r < (k : Int)
   ·go_wp2_with fail
    go_ret
    refine errNo (by decide) (fun h=>?_) (belowT HB1.out HB3b.out)
    have h5:=(pos_take (l:=psOf ms) (s:=name) (k:=k)).2 (by rw [K2.out]; exact ⟨hr0,hrk⟩)
    obtain ⟨p,hp,e⟩:=hasP_iff.1 h5;exact h.new p (List.mem_append_left _ hp) e
   ·have HNR : Hid (¬ (0 ≤ r ∧ r < (k : Int))):=Lq (fun h=>hrk h.2)
    go_wp2_with fail
    refine (HB.out _ HB3b.out).mono ?_;rintro e w4 ⟨rfl,hb⟩;have HB4:=Lq (belowT (HB3b.out) hb);clear p0 p1 p2 p3 p4 p5 p6 hxl ps hb;obtain ⟨p0,p1,p2,p3,p4,p5,p6,hxl,ps⟩:=HC.out _ HB4.out;cases b3 with
    | true =>
     go_wp2_with fail
     go_ret
     refine errNo (by decide) (fun h=>?_) (belowT HB1.out HB4.out)
     have : anyP (nmB name) (psOf bs) = false:=anyP_no.2 fun p hp=>by
      cases hn : nmB name p with
      | false=>rfl
      | true=>exact absurd (nmB_iff.1 hn) (h.new p (List.mem_append_right _ hp))
     rw [K3.out] at this;cases this
    | false =>
     go_wp2_with fail
     refine (O4.out _ _ (by go_simp)).mono ?_
     rintro e w5 ⟨rfl,hb⟩;have HB5:=Lq (belowT (belowA (HB4.out) _) hb);clear p0 p1 p2 p3 p4 p5 p6 hxl ps hb;obtain ⟨p0,p1,p2,p3,p4,p5,p6,hxl,ps⟩:=HC.out _ HB5.out;cases b4 with
     | false =>
      go_wp2_with fail
      go_ret
      exact errNo (by decide) (fun h=>by have h9:=inB_mk h.kind.1 h.kind.2; (try simp only at h9); rw [K4.out] at h9; cases h9) (belowT HB1.out HB5.out)
     | true =>
      go_wp2_with fail
      refine (O5.out _ _ (by go_simp) (by go_simp)).mono ?_
      rintro e w6 ⟨rfl,hb⟩;have HB6:=Lq (belowT (belowA (HB5.out) _) hb);clear p0 p1 p2 p3 p4 p5 p6 hxl ps hb;obtain ⟨p0,p1,p2,p3,p4,p5,p6,hxl,ps⟩:=HC.out _ HB6.out;cases b5 with
      | false =>
       go_wp2_with fail
       go_ret
       exact errNo (by decide) (fun h=>by have h9 : (inB 0 40 first && inB 0 40 last) = true:=(by rw [inB_mk h.fr.1 (Int.le_trans h.fr.2.1 h.fr.2.2),inB_mk (Int.le_trans h.fr.1 h.fr.2.1) h.fr.2.2]; rfl); (try simp only at h9); rw [K5.out] at h9; cases h9) (belowT HB1.out HB6.out)
      | true =>
       go_wp2_with fail
       refine (O6.out _ _ (by go_simp) (by go_simp)).mono ?_
       rintro e w7 ⟨rfl,hb⟩;have HB7:=Lq (belowT (belowA (HB6.out) _) hb);clear p0 p1 p2 p3 p4 p5 p6 hxl ps hb;obtain ⟨p0,p1,p2,p3,p4,p5,p6,hxl,ps⟩:=HC.out _ HB7.out;cases b6 with
       | false =>
        go_wp2_with fail
        go_ret
        exact errNo (by decide) (fun h=>by have h9 : (inB 1 1000000 wlo && inB 1 1000000 whi) = true:=(by rw [inB_mk h.wt.1 (Int.le_trans h.wt.2.1 h.wt.2.2),inB_mk (Int.le_trans h.wt.1 h.wt.2.1) h.wt.2.2]; rfl); (try simp only at h9); rw [K6.out] at h9; cases h9) (belowT HB1.out HB7.out)
       | true =>
        by_cases h7 : last < first
        ·go_wp2_with fail
         go_ret
         exact errNo (by decide) (fun h=>by have:=h.fr.2.1; simp only at this; omega) (belowT HB1.out HB7.out)
        ·by_cases h8 : whi < wlo
         ·go_wp2_with fail
          go_ret
          exact errNo (by decide) (fun h=>by have:=h.wt.2.1; simp only at this; omega) (belowT HB1.out HB7.out)
         ·have h7b : ¬ first > last:=by omega
          have h8b : ¬ wlo > whi:=by omega
          obtain ⟨W8,hW8⟩:=ex (w7.alloc (.cells #[.slice A k cap] 109));have hb8 : BW w7 W8:=by rw [← hW8]; exact belowA (belowR _) _
          have kb8 : Blk W8 w7.heap.size 109 #[.slice A k cap]:=by rw [← hW8]; exact Blk.new w7 109 _
          have HB8:=Lq (belowT HB7.out hb8);obtain ⟨gb,hgb⟩:=ex w7.heap.size;rw [hgb] at kb8;have hlt : (ms.take k).length = k:=by rw [List.length_take]; omega
          have hlk : ∀ W o,BW W8 W → Calls Tryz.prog 143 #[.string o,.pointer (some ⟨gb,0,none⟩)] W (Rt W (.bool (!hasP ((psOf ms).take k) o))):=fun W o hb=>by
           have hc:=lacks143_any A (ms.take k) B cap gb o W (Nat.le_trans hBW1 (belowT HB8.out hb).size) (by rw [hlt]; omega) ((HH1.out.below (belowT HB8.out hb) hBW1).take k) (by rw [hlt]; exact (kb8.keep hb).c 0)
           rw [take_map] at hc;exact hc
          obtain ⟨b9,h9⟩:=ex (anyP (fun o=>!hasP ((psOf ms).take k) o) on)
          have HL8 : Hid (Calls Tryz.prog 52 #[.slice Ao on.length ca,.func (.func 143) #[] #[.pointer (some ⟨gb,0,none⟩)]] W8 (Rt W8 (.bool b9))):=Lq (h9 ▸ con_lacks (fun o=>!hasP ((psOf ms).take k) o) Ao on B ca (.pointer (some ⟨gb,0,none⟩)) W8 (Nat.le_trans HM1.out.le HM1.out.cm) (Nat.le_trans hBW1 HB8.out.size) (HM1.out.on.below HB8.out hBW1) (fun W o hb _=>hlk W o hb))
          have K9:=Lq h9;have KB8:=Lq kb8;clear h9 hlk hb8 kb8;obtain ⟨q0,q1,q2,q3,q4,q5,q6,qxl,qs⟩:=HC.out _ HB8.out;go_wp2_with fail
          refine HL8.out.mono ?_;rintro e w9 ⟨rfl,hb⟩;have HB98:=Lq hb;have HB9:=Lq (belowT HB8.out hb);clear p0 p1 p2 p3 p4 p5 p6 hxl ps hb hW8 q0 q1 q2 q3 q4 q5 q6 qxl qs;obtain ⟨p0,p1,p2,p3,p4,p5,p6,hxl,ps⟩:=HC.out _ HB9.out;cases b9 with
          | true =>
           go_wp2_with fail
           go_ret
           refine errNo (by decide) (fun h=>?_) (belowT HB1.out HB9.out)
           have : anyP (fun o=>!hasP ((psOf ms).take k) o) on = false:=anyP_no.2 fun o ho=>by
            obtain ⟨y,hy,_⟩:=h.on o ho;have:=hasP_iff.2 ⟨y,List.mem_of_find?_eq_some hy,nmB_iff.1 (List.find?_some hy)⟩;rw [this]; rfl
           rw [K9.out] at this;cases this
          | false =>
           have HPARTS:=Lq (check_parts (bs:=psOf bs) K1.out K2.out HNR.out K3.out K4.out K5.out K6.out (by omega) (by omega) K9.out)
           have HRP : Hid (Calls Tryz.prog 144 #[.slice Ao on.length ca] w9 (DupPost on w9)):=Lq (repeated144_any Ao on B ca w9 HM1.out.le HM1.out.cm (HM1.out.on.below HB9.out hBW1));obtain ⟨ba,ha⟩:=ex (anyP (fun o=>!metB (HuP.mk name kind first last on wlo whi) ((psOf ms).take k) o) on)
           have hap : Calls Tryz.prog 52 #[.slice Ao on.length ca,.func (.func 145) #[] #[.pointer (some ⟨gx,0,none⟩),.pointer (some ⟨gb,0,none⟩)]] w9 (Rt w9 (.bool ba)):=ha ▸ con_apart (fun o=>!metB (HuP.mk name kind first last on wlo whi) ((psOf ms).take k) o) Ao on B ca (.pointer (some ⟨gx,0,none⟩)) (.pointer (some ⟨gb,0,none⟩)) w9 (Nat.le_trans HM1.out.le HM1.out.cm) (Nat.le_trans hBW1 HB9.out.size) (HM1.out.on.below HB9.out hBW1) (fun W o hb ho=>by
            have hb2:=belowT HB9.out hb;have hc:=apart145_any A (ms.take k) ⟨(HuP.mk name kind first last on wlo whi),Ao,ca⟩ B cap gx gb o W (Nat.le_trans hBW1 hb2.size) (by rw [hlt]; omega) ((HH1.out.below hb2 hBW1).take k) (HBX.out W hb2) (by rw [hlt]; exact (KB8.out.keep (belowT HB98.out hb)).c 0) (by rw [take_map]; have:=anyP_no.1 K9.out o ho; simpa using this)
            rw [take_map] at hc;exact hc)
           have HAP:=Lq hap;have KA:=Lq ha;clear hap ha;go_wp2_with fail
           refine HRP.out.mono ?_;rintro e w' ⟨bd,rfl,hbd,rfl⟩;have HBD:=Lq hbd;clear hbd;cases bd with
           | true =>
            go_wp2_with fail
            go_ret
            exact errNo (by decide) (fun h=>by have:=HBD.out.2 (HPARTS.out.1 h).1; cases this) (belowT HB1.out HB9.out)
           | false =>
            go_wp2_with fail
            refine HAP.out.mono ?_;rintro e wa ⟨rfl,hb⟩;have HBa:=Lq (belowT HB9.out hb);clear p0 p1 p2 p3 p4 p5 p6 hxl ps hb;cases ba with
            | true =>
             go_wp2_with fail
             go_ret
             exact errNo (by decide) (fun h=>by have:=(HPARTS.out.1 h).2; rw [KA.out] at this; cases this) (belowT HB1.out HBa.out)
            | false =>
             go_wp2_with fail
             go_ret
             exact errOk (HPARTS.out.2 ⟨HBD.out.1 (by simp),KA.out⟩) (belowT HB1.out HBa.out)
  ·have HNR : Hid (¬ (0 ≤ r ∧ r < (k : Int))):=Lq (fun h=>hr0 h.1)
   go_wp2_with fail
   refine (HB.out _ HB3.out).mono ?_;rintro e w4 ⟨rfl,hb⟩;have HB4:=Lq (belowT (HB3.out) hb);clear p0 p1 p2 p3 p4 p5 p6 hxl ps hb;obtain ⟨p0,p1,p2,p3,p4,p5,p6,hxl,ps⟩:=HC.out _ HB4.out;cases b3 with
   | true =>
    go_wp2_with fail
    go_ret
    refine errNo (by decide) (fun h=>?_) (belowT HB1.out HB4.out)
    have : anyP (nmB name) (psOf bs) = false:=anyP_no.2 fun p hp=>by
     cases hn : nmB name p with
     | false=>rfl
     | true=>exact absurd (nmB_iff.1 hn) (h.new p (List.mem_append_right _ hp))
    rw [K3.out] at this;cases this
   | false =>
    go_wp2_with fail
    refine (O4.out _ _ (by go_simp)).mono ?_
    rintro e w5 ⟨rfl,hb⟩;have HB5:=Lq (belowT (belowA (HB4.out) _) hb);clear p0 p1 p2 p3 p4 p5 p6 hxl ps hb;obtain ⟨p0,p1,p2,p3,p4,p5,p6,hxl,ps⟩:=HC.out _ HB5.out;cases b4 with
    | false =>
     go_wp2_with fail
     go_ret
     exact errNo (by decide) (fun h=>by have h9:=inB_mk h.kind.1 h.kind.2; (try simp only at h9); rw [K4.out] at h9; cases h9) (belowT HB1.out HB5.out)
    | true =>
     go_wp2_with fail
     refine (O5.out _ _ (by go_simp) (by go_simp)).mono ?_
     rintro e w6 ⟨rfl,hb⟩;have HB6:=Lq (belowT (belowA (HB5.out) _) hb);clear p0 p1 p2 p3 p4 p5 p6 hxl ps hb;obtain ⟨p0,p1,p2,p3,p4,p5,p6,hxl,ps⟩:=HC.out _ HB6.out;cases b5 with
     | false =>
      go_wp2_with fail
      go_ret
      exact errNo (by decide) (fun h=>by have h9 : (inB 0 40 first && inB 0 40 last) = true:=(by rw [inB_mk h.fr.1 (Int.le_trans h.fr.2.1 h.fr.2.2),inB_mk (Int.le_trans h.fr.1 h.fr.2.1) h.fr.2.2]; rfl); (try simp only at h9); rw [K5.out] at h9; cases h9) (belowT HB1.out HB6.out)
     | true =>
      go_wp2_with fail
      refine (O6.out _ _ (by go_simp) (by go_simp)).mono ?_
      rintro e w7 ⟨rfl,hb⟩;have HB7:=Lq (belowT (belowA (HB6.out) _) hb);clear p0 p1 p2 p3 p4 p5 p6 hxl ps hb;obtain ⟨p0,p1,p2,p3,p4,p5,p6,hxl,ps⟩:=HC.out _ HB7.out;cases b6 with
      | false =>
       go_wp2_with fail
       go_ret
       exact errNo (by decide) (fun h=>by have h9 : (inB 1 1000000 wlo && inB 1 1000000 whi) = true:=(by rw [inB_mk h.wt.1 (Int.le_trans h.wt.2.1 h.wt.2.2),inB_mk (Int.le_trans h.wt.1 h.wt.2.1) h.wt.2.2]; rfl); (try simp only at h9); rw [K6.out] at h9; cases h9) (belowT HB1.out HB7.out)
      | true =>
       by_cases h7 : last < first
       ·go_wp2_with fail
        go_ret
        exact errNo (by decide) (fun h=>by have:=h.fr.2.1; simp only at this; omega) (belowT HB1.out HB7.out)
       ·by_cases h8 : whi < wlo
        ·go_wp2_with fail
         go_ret
         exact errNo (by decide) (fun h=>by have:=h.wt.2.1; simp only at this; omega) (belowT HB1.out HB7.out)
        ·have h7b : ¬ first > last:=by omega
         have h8b : ¬ wlo > whi:=by omega
         obtain ⟨W8,hW8⟩:=ex (w7.alloc (.cells #[.slice A k cap] 109));have hb8 : BW w7 W8:=by rw [← hW8]; exact belowA (belowR _) _
         have kb8 : Blk W8 w7.heap.size 109 #[.slice A k cap]:=by rw [← hW8]; exact Blk.new w7 109 _
         have HB8:=Lq (belowT HB7.out hb8);obtain ⟨gb,hgb⟩:=ex w7.heap.size;rw [hgb] at kb8;have hlt : (ms.take k).length = k:=by rw [List.length_take]; omega
         have hlk : ∀ W o,BW W8 W → Calls Tryz.prog 143 #[.string o,.pointer (some ⟨gb,0,none⟩)] W (Rt W (.bool (!hasP ((psOf ms).take k) o))):=fun W o hb=>by
          have hc:=lacks143_any A (ms.take k) B cap gb o W (Nat.le_trans hBW1 (belowT HB8.out hb).size) (by rw [hlt]; omega) ((HH1.out.below (belowT HB8.out hb) hBW1).take k) (by rw [hlt]; exact (kb8.keep hb).c 0)
          rw [take_map] at hc;exact hc
         obtain ⟨b9,h9⟩:=ex (anyP (fun o=>!hasP ((psOf ms).take k) o) on)
         have HL8 : Hid (Calls Tryz.prog 52 #[.slice Ao on.length ca,.func (.func 143) #[] #[.pointer (some ⟨gb,0,none⟩)]] W8 (Rt W8 (.bool b9))):=Lq (h9 ▸ con_lacks (fun o=>!hasP ((psOf ms).take k) o) Ao on B ca (.pointer (some ⟨gb,0,none⟩)) W8 (Nat.le_trans HM1.out.le HM1.out.cm) (Nat.le_trans hBW1 HB8.out.size) (HM1.out.on.below HB8.out hBW1) (fun W o hb _=>hlk W o hb))
         have K9:=Lq h9;have KB8:=Lq kb8;clear h9 hlk hb8 kb8;obtain ⟨q0,q1,q2,q3,q4,q5,q6,qxl,qs⟩:=HC.out _ HB8.out;go_wp2_with fail
         refine HL8.out.mono ?_;rintro e w9 ⟨rfl,hb⟩;have HB98:=Lq hb;have HB9:=Lq (belowT HB8.out hb);clear p0 p1 p2 p3 p4 p5 p6 hxl ps hb hW8 q0 q1 q2 q3 q4 q5 q6 qxl qs;obtain ⟨p0,p1,p2,p3,p4,p5,p6,hxl,ps⟩:=HC.out _ HB9.out;cases b9 with
         | true =>
          go_wp2_with fail
          go_ret
          refine errNo (by decide) (fun h=>?_) (belowT HB1.out HB9.out)
          have : anyP (fun o=>!hasP ((psOf ms).take k) o) on = false:=anyP_no.2 fun o ho=>by
           obtain ⟨y,hy,_⟩:=h.on o ho;have:=hasP_iff.2 ⟨y,List.mem_of_find?_eq_some hy,nmB_iff.1 (List.find?_some hy)⟩;rw [this]; rfl
          rw [K9.out] at this;cases this
         | false =>
          have HPARTS:=Lq (check_parts (bs:=psOf bs) K1.out K2.out HNR.out K3.out K4.out K5.out K6.out (by omega) (by omega) K9.out)
          have HRP : Hid (Calls Tryz.prog 144 #[.slice Ao on.length ca] w9 (DupPost on w9)):=Lq (repeated144_any Ao on B ca w9 HM1.out.le HM1.out.cm (HM1.out.on.below HB9.out hBW1));obtain ⟨ba,ha⟩:=ex (anyP (fun o=>!metB (HuP.mk name kind first last on wlo whi) ((psOf ms).take k) o) on)
          have hap : Calls Tryz.prog 52 #[.slice Ao on.length ca,.func (.func 145) #[] #[.pointer (some ⟨gx,0,none⟩),.pointer (some ⟨gb,0,none⟩)]] w9 (Rt w9 (.bool ba)):=ha ▸ con_apart (fun o=>!metB (HuP.mk name kind first last on wlo whi) ((psOf ms).take k) o) Ao on B ca (.pointer (some ⟨gx,0,none⟩)) (.pointer (some ⟨gb,0,none⟩)) w9 (Nat.le_trans HM1.out.le HM1.out.cm) (Nat.le_trans hBW1 HB9.out.size) (HM1.out.on.below HB9.out hBW1) (fun W o hb ho=>by
           have hb2:=belowT HB9.out hb;have hc:=apart145_any A (ms.take k) ⟨(HuP.mk name kind first last on wlo whi),Ao,ca⟩ B cap gx gb o W (Nat.le_trans hBW1 hb2.size) (by rw [hlt]; omega) ((HH1.out.below hb2 hBW1).take k) (HBX.out W hb2) (by rw [hlt]; exact (KB8.out.keep (belowT HB98.out hb)).c 0) (by rw [take_map]; have:=anyP_no.1 K9.out o ho; simpa using this)
           rw [take_map] at hc;exact hc)
          have HAP:=Lq hap;have KA:=Lq ha;clear hap ha;go_wp2_with fail
          refine HRP.out.mono ?_;rintro e w' ⟨bd,rfl,hbd,rfl⟩;have HBD:=Lq hbd;clear hbd;cases bd with
          | true =>
           go_wp2_with fail
           go_ret
           exact errNo (by decide) (fun h=>by have:=HBD.out.2 (HPARTS.out.1 h).1; cases this) (belowT HB1.out HB9.out)
          | false =>
           go_wp2_with fail
           refine HAP.out.mono ?_;rintro e wa ⟨rfl,hb⟩;have HBa:=Lq (belowT HB9.out hb);clear p0 p1 p2 p3 p4 p5 p6 hxl ps hb;cases ba with
           | true =>
            go_wp2_with fail
            go_ret
            exact errNo (by decide) (fun h=>by have:=(HPARTS.out.1 h).2; rw [KA.out] at this; cases this) (belowT HB1.out HBa.out)
           | false =>
            go_wp2_with fail
            go_ret
            exact errOk (HPARTS.out.2 ⟨HBD.out.1 (by simp),KA.out⟩) (belowT HB1.out HBa.out)
end
section
variable {w : World}
theorem srcs_keepB {w' : World} {size m : Nat} {src : Value} {news : List Value} (h : Srcs w size src m news) (hb : BW w w') : Srcs w' size src m news:=by
 rcases h with h | ⟨ad,c,h1,h2,h3,h4⟩
 ·exact .inl h
 ·refine .inr ⟨ad,c,h1,h2,fun j u hu=>?_,h4⟩
  exact keepCa hb (h3 j u hu)
theorem clone179_any (A : Option Addr) (ms : List HuM) (B cap : Nat) (w : World) (hB : B ≤ w.heap.size) (H : SlM w B A cap ms) (hn : ms.length ≤ 12) :
  Calls Tryz.prog 179 #[.slice A ms.length cap] w (OwnMs ms w):=by
 obtain ⟨i47,hi47,hz470,hz471,hz472⟩:=info_parts Tryz.info47;have q28 : ∀ (w : World) (a : Option Addr) (n c n' c' : Nat),(binOp .eql 22 (.slice a n c) (.slice none n' c')).run Tryz.prog w = .ok (.bool a.isNone) w:=fun w a n c n' c'=>Lib.run_eql_slice_nil w _ _ a n c n' c' Tryz.underlying22
 cases A with
 | none =>
  have h0 : ms = []:=(H.row hB).nil0 rfl |>.1
  subst h0;clear H;go_enter Tryz.func179,Tryz.ntmps179
  go_wp2
  go_ret
  exact ⟨_,rfl,World.ownsRow_nil _ _ _ _,belowR _⟩
 | some ad =>
  have hsr : Srcs w 7 (.slice (some ad) ms.length cap) ms.length (ms.flatMap encM):=by
   have:=(H.row hB).low encM_len encM_one (p:=ms.length) (Nat.le_refl _)
   simpa using this
  have HSR:=Lq (srcs_keepB hsr (belowA (belowR w) (.cells #[] 47)));have HL:=Lq (World.ownsRow_lit (e:=47) (size:=7) (base:=w.heap.size) w #[] 0 (Nat.le_refl _) (by decide) (by simp))
  clear H hsr;go_enter Tryz.func179,Tryz.ntmps179
  go_wp2_with (at_builtin; refine wpList_append_srcs rfl _ _ 22 rfl w.heap.size 47 i47 _ 7 80 Tryz.underlying22 hi47 hz470 hz471 hz472 rfl (by decide) _ _ _ rfl HL.out (.slice (some ad) ms.length cap) ms.length _ rfl HSR.out (by unfold maxLen; omega) (by omega) (by simp only [World.size_alloc]; omega) ?_)
  intro v' w3 hown hg _;have hb:=grownB HL.out hg (Nat.le_refl _) (belowA (belowR w) _);have HO : Hid (w3.ownsRow w.heap.size 47 7 v' ms.length (ms.flatMap encM)):=Lq (by simpa using hown)
  have HB:=Lq hb;clear hown hg hb HL;go_wp2
  go_ret
  exact ⟨v',rfl,HO.out,HB.out⟩
def OwnSs (l : List ByteArray) (w : World) (e : Ending) (w' : World) : Prop:=∃ v,e = .returned v ∧ w'.ownsRow w.heap.size 9 1 v l.length (l.map .string) ∧ Below w.heap.size w w'
theorem str_srcs {B cap : Nat} {ad : Addr} {l : List ByteArray} (h : Rd1 .string w B (some ad) l) : Srcs w 1 (.slice (some ad) l.length cap) l.length (l.map .string):=by
 refine .inr ⟨ad,cap,rfl,by simp,fun j u hu=>?_,fun u hu=>?_⟩
 ·rw [List.getElem?_map] at hu;cases hx : l[j]? with
  | none=>rw [hx] at hu; cases hu
  | some x =>
   rw [hx] at hu;injection hu with hu
   subst hu;obtain ⟨b,off,e,_,hc⟩:=h j x hx;injection e with e
   subst e;rw [add_off];exact hc
 ·obtain ⟨x,_,rfl⟩:=List.mem_map.1 hu;rfl
theorem clone95_any (A : Option Addr) (l : List ByteArray) (B cap : Nat) (w : World) (hB : B ≤ w.heap.size) (H : Rd1 .string w B A l) (hn : l.length * 16 ≤ 140737488351232) :
  Calls Tryz.prog 95 #[.slice A l.length cap] w (OwnSs l w):=by
 obtain ⟨i9,hi9,hz90,hz91,hz92⟩:=info_parts Tryz.info9;have _u:=hB;have q28 : ∀ (w : World) (a : Option Addr) (n c n' c' : Nat),(binOp .eql 45 (.slice a n c) (.slice none n' c')).run Tryz.prog w = .ok (.bool a.isNone) w:=fun w a n c n' c'=>Lib.run_eql_slice_nil w _ _ a n c n' c' Tryz.underlying45
 cases A with
 | none =>
  have h0 : l = []:=by
   cases l with
   | nil=>rfl
   | cons x t =>
    obtain ⟨_,_,h,_⟩:=H 0 x rfl;cases h
  subst h0;clear H;go_enter Tryz.func95,Tryz.ntmps95
  go_wp2
  go_ret
  exact ⟨_,rfl,World.ownsRow_nil _ _ _ _,belowR _⟩
 | some ad =>
  have HSR:=Lq (srcs_keepB (str_srcs (cap:=cap) H) (belowA (belowR w) (.cells #[] 9)));have HL:=Lq (World.ownsRow_lit (e:=9) (size:=1) (base:=w.heap.size) w #[] 0 (Nat.le_refl _) (by decide) (by simp))
  clear H;go_enter Tryz.func95,Tryz.ntmps95
  go_wp2_with (at_builtin; refine wpList_append_srcs rfl _ _ 45 rfl w.heap.size 9 i9 _ 1 16 Tryz.underlying45 hi9 hz90 hz91 hz92 rfl (by decide) _ _ _ rfl HL.out (.slice (some ad) l.length cap) l.length _ rfl HSR.out (by unfold maxLen; omega) (by omega) (by simp only [World.size_alloc]; omega) ?_)
  intro v' w3 hown hg _;have hb:=grownB HL.out hg (Nat.le_refl _) (belowA (belowR w) _);have HO : Hid (w3.ownsRow w.heap.size 9 1 v' l.length (l.map .string)):=Lq (by simpa using hown)
  have HB:=Lq hb;clear hown hg hb HL;go_wp2
  go_ret
  exact ⟨v',rfl,HO.out,HB.out⟩
end
theorem run_clear_one {P : Program} (w : World) (t e ty : TypeId) (z : Value) (zs : List Value) (ht : P.underlying t = some (.slice e)) (hv : ∀ w,(zeroValue e).run P w = .ok z w) (hz : z.cells = zs.toArray) (h1 : ∀ u ∈ zs,u.oneCell' = true) (b o n c : Nat) (hn : n = 1)
  (hc : ∀ j,j < zs.length → (w.cell? ⟨b,o + j,none⟩).isSome = true) (hf : ∀ j,j < zs.length → w.frozen? ⟨b,o + j,none⟩ = false) :
  (Builtin.clear_ #[t] ty #[.slice (some ⟨b,o,none⟩) n c]).run P w = .ok (.tuple #[]) (w.setCells b o zs):=by
 subst hn;have hzc : (Builtin.zeroCells z.cells 1).toList = zs:=by
  rw [hz];simp [Builtin.zeroCells];apply List.ext_getElem
  ·simp
  ·intro i h1 h2;simp at h1;simp [Nat.mod_eq_of_lt h1];rw [List.getElem?_eq_getElem h1]; rfl
 have hst:=run_storeCells_cells (P:=P) b o zs 0 w (by simpa using hc) (by simpa using hf) h1
 simp only [Nat.add_zero] at hst;simp [Builtin.clear_,run_underlying ht,hv,hzc,hst]
theorem setCells_only (g : Nat) : ∀ (vs : List Value) (o : Nat) (w wx : World),OnlyAt w wx g → OnlyAt w (wx.setCells g o vs) g:=by
 intro vs;induction vs with
 | nil=>intro o w wx h; exact h
 | cons v vs ih=>intro o w wx h; exact ih (o + 1) w _ (h.set o v)
theorem some_setCells (g : Nat) : ∀ (vs : List Value) (o : Nat) (w : World) (k : Nat),(w.cell? ⟨g,k,none⟩).isSome = true → ((w.setCells g o vs).cell? ⟨g,k,none⟩).isSome = true:=by
 intro vs;induction vs with
 | nil=>intro o w k h; exact h
 | cons v vs ih =>
  intro o w k h;refine ih (o + 1) _ k ?_;obtain ⟨u,hu⟩:=Option.isSome_iff_exists.1 h;obtain ⟨v',hv⟩:=cell?_setCell_some (p:=⟨g,o,none⟩) (x:=v) hu;rw [hv]; rfl
theorem Tryz.zero47 (w : World) : (zeroValue 47).run Tryz.prog w = .ok (.agg #[.string ⟨#[]⟩,.int .i64 0,.int .i64 0,.int .i64 0,.slice none 0 0,.int .i64 0,.int .i64 0]) w:=by kernel_rfl
def zeros47 : List Value:=[.string ⟨#[]⟩,.int .i64 0,.int .i64 0,.int .i64 0,.slice none 0 0,.int .i64 0,.int .i64 0]
theorem del181_any (ms : List HuM) (base g cap i : Nat) (w : World) (ho : w.ownsRow base 47 7 (.slice (some ⟨g,0,none⟩) ms.length cap) ms.length (ms.flatMap encM)) (hi : i < ms.length) (hn : ms.length ≤ 12) :
  Calls Tryz.prog 181 #[.slice (some ⟨g,0,none⟩) ms.length cap,iv i,iv ((i : Int) + 1)] w fun e w'=>e = .returned (.slice (some ⟨g,0,none⟩) (ms.length - 1) cap) ∧ OnlyAt w w' g ∧ RdN 7 encM w' w'.heap.size (some ⟨g,0,none⟩) (ms.eraseIdx i):=by
 obtain ⟨i47,hi47,hz470,hz471,hz472⟩:=info_parts Tryz.info47;obtain ⟨hle,hcm⟩ : ms.length ≤ cap ∧ cap ≤ maxLen:=by
  obtain ⟨A,c,h1,_,_,h2,h3⟩:=own_rdN encM_len ho;injection h1 with _ _ h1
  subst h1;exact ⟨h2,h3⟩
 have hcells : ∀ j u,(ms.flatMap encM)[j]? = some u → w.cell? ⟨g,j,none⟩ = some u:=fun j u hu=>by
  have:=ho.cellAt j (by have:=(List.getElem?_eq_some_iff.1 hu).1; rw [flat_len encM_len] at this; exact this)
  rw [this,hu]
 have hfl : (ms.flatMap encM).length = ms.length * 7:=flat_len encM_len ms;have hsm : ∀ j,j < ms.length * 7 → (w.cell? ⟨g,j,none⟩).isSome = true:=fun j hj=>by
  rw [hcells j _ (List.getElem?_eq_getElem (by rw [hfl]; exact hj))]; rfl
 have hfr : ∀ j,w.frozen? ⟨g,j,none⟩ = false:=fun j=>ho.frozenAt j
 obtain ⟨n,hn'⟩:=ex ms.length;obtain ⟨news,hnews⟩:=ex ((ms.drop (i + 1)).flatMap encM);have hnl : news.length = (n - (i + 1)) * 7:=by rw [← hnews,flat_len encM_len,List.length_drop,hn']
 have hc9 : cap ≤ 9223372036854775807:=by simp only [maxLen] at hcm; omega
 rw [hn'] at hle hi hn hfl hsm ⊢;obtain ⟨AD,hAD,hsrc⟩ : ∃ AD : Addr,(if cap = i + 1 then some (⟨g,0,none⟩ : Addr) else some ⟨g,(i + 1) * 7,none⟩) = some AD ∧ Hid (∀ j u,news[j]? = some u → w.drew.cell? (AD.add j) = some u):=by
  by_cases h : cap = i + 1
  ·refine ⟨_,by rw [if_pos h],Lq fun j u hu=>?_⟩
   have : news.length = 0:=by rw [hnl,show n - (i + 1) = 0 by omega]
   rw [List.length_eq_zero_iff.1 this] at hu;simp at hu
  ·refine ⟨_,by rw [if_neg h],Lq fun j u hu=>?_⟩
   rw [add_off];have hj : j < (n - (i + 1)) * 7:=by rw [← hnl]; exact (List.getElem?_eq_some_iff.1 hu).1
   refine hcells ((i + 1) * 7 + j) u ?_;have e : ms.flatMap encM = (ms.take (i + 1)).flatMap encM ++ news:=by rw [← hnews,← List.flatMap_append,List.take_append_drop]
   rw [e,List.getElem?_append_right (by rw [flat_len encM_len,List.length_take]; omega),flat_len encM_len,List.length_take]
   rw [show (i + 1) * 7 + j - min (i + 1) ms.length * 7 = j by rw [hn',Nat.min_eq_left (by omega)]; omega]
   exact hu
 have s1:=Lq hnl;have s2 : Hid (∀ u ∈ news,u.oneCell' = true):=Lq fun u hu=>by
  rw [← hnews] at hu;obtain ⟨c,_,hc⟩:=List.mem_flatMap.1 hu;exact encM_one c u hc
 have s3 : Hid (∀ j,j < news.length → (w.drew.cell? ⟨g,0 + i * 7 + j,none⟩).isSome = true ∧ w.drew.frozen? ⟨g,0 + i * 7 + j,none⟩ = false):=Lq fun j hj=>by
  rw [hnl] at hj;exact ⟨hsm _ (by omega),hfr _⟩
 obtain ⟨W1,hW1⟩:=ex (w.drew.setCells g (0 + i * 7) news);have HW1:=Lq hW1;have h0 : (0 : Int) ≤ (i : Int):=by omega
 have hi2 : (i : Int) ≤ (n : Int):=by omega
 have hi3 : (i : Int) + 1 ≤ (n : Int):=by omega
 have hi4 : (i : Int) + 1 ≤ (cap : Int):=by omega
 have hne : ((i : Int) == (i : Int) + 1) = false:=by simp; omega
 have hi5 : (i : Int) ≤ (cap : Int):=by omega
 have hng : ¬ ((i : Int) + 1 < 0):=by omega
 have htn : ((i : Int) + 1).toNat = i + 1:=by omega
 have HO:=Lq ho;have HC:=Lq hcells;have HS:=Lq hsm;have HF:=Lq hfr;have hs1 : ∀ k,k < n * 7 → (W1.cell? ⟨g,k,none⟩).isSome = true:=fun k hk=>by rw [← hW1]; exact some_setCells g _ _ _ _ (hsm k hk)
 have hf1 : ∀ k,W1.frozen? ⟨g,k,none⟩ = false:=fun k=>by rw [← hW1,World.frozen?_setCells]; exact hfr k
 have hcl : ∀ ty,(Builtin.clear_ #[22] ty #[.slice (some ⟨g,(i + (n - (i + 1))) * 7,none⟩) (n - (i + (n - (i + 1)))) (cap - (i + (n - (i + 1))))]).run Tryz.prog W1 = .ok (.tuple #[]) (W1.setCells g ((i + (n - (i + 1))) * 7) zeros47):=fun ty =>
  run_clear_one W1 22 47 ty _ zeros47 Tryz.underlying22 Tryz.zero47 rfl (by simp [zeros47,Value.oneCell']) g _ _ _ (by omega) (fun j hj=>hs1 _ (by simp only [zeros47,List.length_cons,List.length_nil] at hj; omega)) (fun j _=>hf1 _)
 have hcq : ¬ cap = i + (n - (i + 1)):=by omega
 have HND:=Lq hnews;have HNN:=Lq hn';clear hcells hsm hfr ho hnl hnews hW1 hn' hs1 hf1;go_enter Tryz.func181,Tryz.ntmps181
 go_wp2_with fail
 go_region_law (refine step_append_room rfl (.tmp 22) (.tmp 25) 22 rfl 47 i47 7 Tryz.underlying22 hi47 hz471 g 0 i cap (by simp [Act.eval,Act.put]) AD (n - (i + 1)) (cap - (i + 1)) news (by simp [Act.eval,Act.put]) s1.out hsrc.out s2.out (by omega) s3.out ?_; rw [HW1.out])
 go_wp2
 go_ret
 refine ⟨by show Ending.returned (Value.slice (some ⟨g,0,none⟩) (i + (n - (i + 1))) cap) = _; rw [show i + (n - (i + 1)) = n - 1 by omega], ?_, ?_⟩
 ·refine setCells_only g _ _ _ _ ?_;rw [← HW1.out];exact setCells_only g _ _ _ _ ((OnlyAt.of_below (belowR w) g).drew)
 ·intro d x hx;have hlen : (ms.eraseIdx i).length = n - 1:=by rw [List.length_eraseIdx_of_lt (by rw [HNN.out]; exact hi),HNN.out]
  have hd : d < n - 1:=by rw [← hlen]; exact (List.getElem?_eq_some_iff.1 hx).1
  have hlt : g < (W1.setCells g ((i + (n - (i + 1))) * 7) zeros47).heap.size:=by
   have h1:=HS.out 0 (by omega)
   obtain ⟨u,hu⟩:=Option.isSome_iff_exists.1 h1;have h2:=some_setCells g zeros47 ((i + (n - (i + 1))) * 7) W1 0 (by rw [← HW1.out]; exact some_setCells g _ _ _ _ h1)
   obtain ⟨u2,hu2⟩:=Option.isSome_iff_exists.1 h2;exact lt_of_cell hu2
  refine ⟨g,0,rfl,hlt,fun j u hu=>?_⟩
  have hj : j < 7:=by rw [← encM_len x]; exact (List.getElem?_eq_some_iff.1 hu).1
  rw [World.cell?_setCells_out _ _ _ _ _ (by intro _ _; left; simp only; omega),← HW1.out]
  rw [List.getElem?_eraseIdx] at hx;split at hx
  ·rename_i hdi;rw [World.cell?_setCells_out _ _ _ _ _ (by intro _ _; left; simp only; omega),Nat.zero_add]
   exact HC.out _ _ (flat_get encM_len ms d x hx j u hu)
  ·rename_i hdi;have hnw : news[(d - i) * 7 + j]? = some u:=by
    rw [← HND.out];exact flat_get encM_len (ms.drop (i + 1)) (d - i) x (by rw [List.getElem?_drop,show i + 1 + (d - i) = d + 1 by omega]; exact hx) j u hu
   have hnl:=(List.getElem?_eq_some_iff.1 hnw).1;have hin:=World.cell?_setCells_in g news (0 + i * 7) w.drew (fun k hk=>(s3.out k hk).1) ((d - i) * 7 + j) hnl
   rw [show 0 + d * 7 + j = 0 + i * 7 + ((d - i) * 7 + j) by omega,hin,← hnw,List.getElem?_eq_getElem hnl]
section
variable {Q : Exit → Act → World → Prop} {w : World}
def OnlyN (Q : Exit → Act → World → Prop) : Exit → Act → World → Prop
 | .normal,a,w=>Q .normal a w
 | _,_,_=>False
theorem OnlyN.imp : ∀ (e : Exit) (a : Act) (w : World),OnlyN Q e a w → Q e a w:=fun e a w h=>by
 cases e <;> first | exact h | exact (h : False).elim
theorem OnlyN.shut : ¬ LetsOut (OnlyN Q):=fun ⟨_,_,h⟩=>h
section
variable {P : Program} {md : Region.Mode} {ops : Array Oper} {Q : Exit → Act → World → Prop} {l n : Nat}
theorem wpOp_lift (hd : ∀ (i : Nat) (o : Oper) c,ops[i]? = some o → o.op ≠ .defer c) (hl : ¬ LetsOut Q) {i : Nat} {K K' : Act → World → Prop} (hK : ∀ a w,K a w → K' a w) {a : Act} (h : wpOp P ops Q i K a w) : wpOpIn (Fence.wide.inRound l) n P ops Q i K' a w:=by
 unfold wpOp at h;unfold wpOpIn;cases ho : ops[i]? with
 | none=>rw [ho] at h; exact hK _ _ h
 | some o =>
  rw [ho] at h;simp only at h ⊢;split
  ·rename_i hw;rw [if_pos hw] at h;rcases h with h | ⟨_,h⟩
   ·refine ⟨fun _ _=>trivial, ?_⟩
    rw [Oper.semAt_eq _ _ _ (fun c=>hd i o c ho)]
    unfold Oper.wp at h;generalize (execOp a.eval o).run P w = r at h;cases r with
    | ok x w' =>
     cases x with
     | value v=>exact hK _ _ h
     | skip=>exact hK _ _ h
     | defer d=>exact hK _ _ h
     | enter f args =>
      refine ⟨(fun h=>by cases h),CallsIn.inRound l (callsIn_wide.2 (Calls.mono h fun e w'' he=>?_))⟩
      cases e with
      | returned v=>exact hK _ _ he
      | panicked c=>exact he
      | outgrown=>exact absurd he hl
     | row r args =>
      refine ⟨(fun h=>by cases h),fun c cs _=>?_⟩
      obtain ⟨v,w'',hr,hs⟩:=h c cs;exact ⟨v,w'',hK _ _ hr,stepsIn_wide.2 hs⟩
     | _=>exact h.elim
    | halt x w'=>cases x <;> first | exact h | exact h.elim
   ·exact absurd h hl
  ·rename_i hw;rw [if_neg hw] at h;exact ⟨fun _ _=>trivial,hK _ _ h⟩
theorem wpAny_lift (hd : ∀ (i : Nat) (o : Oper) c,ops[i]? = some o → o.op ≠ .defer c) (hl : ¬ LetsOut Q) : ∀ (fuel : Nat) (L : Array Bool) (a : Act) (w : World),wpAny P md ops Q fuel L a w → wpAnyIn (Fence.wide.inRound l) n P md ops Q fuel L a w
 | 0,_,_,_,h=>h
 | fuel + 1,_,_,_,h=>⟨h.1,fun i hi=>wpOp_lift hd hl (fun a w hw=>wpAny_lift hd hl fuel _ a w hw) (h.2 i hi)⟩
def noDefer (ops : Array Oper) : Bool:=ops.toList.all fun o=>match o.op with
 | .defer _=>false
 | _=>true
theorem noDefer_spec (h : noDefer ops = true) : ∀ (i : Nat) (o : Oper) c,ops[i]? = some o → o.op ≠ .defer c:=fun i o c hi e=>by
 unfold noDefer at h;rw [List.all_eq_true] at h;have:=h o (by rw [Array.getElem?_eq_some_iff] at hi; obtain ⟨h1,rfl⟩:=hi; simp)
 rw [e] at this;cases this
theorem wpIn_region_lift {S : World → Prop} {id : Nat} {a : Act} (hm : P.follows .mixedOrders = true) (hd : noDefer ops = true)
  (h : wpAnyH P .any ops (OnlyN Q) S ops.size (Array.replicate ops.size false) a w.drew) : (Code.region id ops true).wpIn (Fence.wide.inRound l) n P Q a w :=
 wpIn_mono (wpIn_region_any hm (wpAny_lift (noDefer_spec hd) OnlyN.shut _ _ _ _ (wpAny_of_held _ _ _ _ h))) OnlyN.imp
end
end

section
variable {V : World} {A Ao : Option Addr} {ca cap gc gs n : Nat} {z1 z10 z11 z12 z13 z14 z15 z16 z17 z18 z19 z2 z20 z21 z22 z23 z24 z25 z36 z37 z38 z39 z4 z5 z6 z7 z8 z9 : Value} {first kind last whi wlo : Int} {name : ByteArray} {ms : List HuM} {Q : Exit → Act → World → Prop}
noncomputable def ops148_6 : Array Oper:=opsOf (regionOf Tryz.f148 6)
abbrev hHP71 (V : World) (A Ao : Option Addr) (n cap ca gs gc : Nat) (name : ByteArray) (kind first last wlo whi : Int) (on : List ByteArray) : Prop:=∀ W,BW V W → W.cell? ⟨gs,0,none⟩ = some (.slice A n cap) ∧ W.cell? ⟨gc,3,none⟩ = some (.string name) ∧ W.cell? ⟨gc,4,none⟩ = some (iv kind) ∧ W.cell? ⟨gc,5,none⟩ = some (iv first) ∧ W.cell? ⟨gc,6,none⟩ = some (iv last) ∧ W.cell? ⟨gc,7,none⟩ = some (.slice Ao on.length ca) ∧ W.cell? ⟨gc,8,none⟩ = some (iv wlo) ∧ W.cell? ⟨gc,9,none⟩ = some (iv whi)
theorem st148_6 {on : List ByteArray} {v5 : Value} {g1 : Nat} (hn : n ≤ 11) (hms : ms.length = n) (hg : Blk V gs 109 #[.slice A n cap])
  (hS : hHP71 V A Ao n cap ca gs gc name kind first last wlo whi on)
  (hQ : ∀ u26 u27 u28 u29 u30 u31 u32 u33 u34 u35 u36 u37 u38 u39 g c W',W'.ownsRow V.heap.size 47 7 (.slice (some ⟨g,0,none⟩) (n + 1) c) (n + 1) (ms.flatMap encM ++ [.string name,iv kind,iv first,iv last,.slice Ao on.length ca,iv wlo,iv whi]) → BW V W' → Q .normal ⟨#[.pointer (some ⟨gs,0,none⟩),z1,z2,.pointer (some ⟨gc,0,none⟩),z4,z5,z6,z7,z8,z9,z10,z11,z12,z13,z14,z15,z16,z17,z18,z19,z20,z21,z22,z23,z24,z25,u26,u27,u28,u29,u30,u31,u32,u33,u34,u35,u36,u37,u38,u39],[]⟩ (W'.setCell ⟨gs,0,none⟩ (.slice (some ⟨g,0,none⟩) (n + 1) c)))
  {w : World} (hO : w.ownsRow V.heap.size 47 7 v5 n (ms.flatMap encM)) (hL : Blk w g1 47 #[.string name,iv kind,iv first,iv last,.slice Ao on.length ca,iv wlo,iv whi]) (hB : BW V w) :
  wpAnyL Tryz.prog .any ops148_6 (NoPanic Q) (fun W=>W.cell? ⟨gs,0,none⟩ = some (.slice A n cap) ∧ W.cell? ⟨gc,3,none⟩ = some (.string name) ∧ W.cell? ⟨gc,4,none⟩ = some (iv kind) ∧ W.cell? ⟨gc,5,none⟩ = some (iv first) ∧ W.cell? ⟨gc,6,none⟩ = some (iv last) ∧ W.cell? ⟨gc,7,none⟩ = some (.slice Ao on.length ca) ∧ W.cell? ⟨gc,8,none⟩ = some (iv wlo) ∧ W.cell? ⟨gc,9,none⟩ = some (iv whi)) (fun k=>k == 14) 5 #[true,true,true,true,true,true,true,true,true,true,false,false,false,false,false] ⟨#[.pointer (some ⟨gs,0,none⟩),z1,z2,.pointer (some ⟨gc,0,none⟩),z4,z5,z6,z7,z8,z9,z10,z11,z12,z13,z14,z15,z16,z17,z18,z19,z20,z21,z22,z23,z24,z25,.pointer (some ⟨gs,0,none⟩),.pointer (some ⟨gs,0,none⟩),.pointer (some ⟨gs,0,none⟩),.pointer (some ⟨gs,0,none⟩),.pointer (some ⟨gs,0,none⟩),.slice A n cap,v5,.pointer (some ⟨gc,3,none⟩),.agg #[.string name,iv kind,iv first,iv last,.slice Ao on.length ca,iv wlo,iv whi],.slice (some ⟨g1,0,none⟩) 1 1,z36,z37,z38,z39],[]⟩ w:=by
 obtain ⟨i47,hi47,hz470,hz471,hz472⟩:=info_parts Tryz.info47;have HS:=Lq hS;have HQ:=Lq hQ;have HG:=Lq hg;have HO:=Lq hO;have HL:=Lq hL;have HB:=Lq hB;have _u:=hms;clear hS hQ hg hO hL hB hms _u;refine rdL1 10 fun K' hK=>?_
 refine step_append_lies w (by rfl) _ _ 22 (by rfl) V.heap.size 47 i47 _ 7 80 Tryz.underlying22 hi47 hz470 hz471 hz472 rfl (by decide) v5 n _ (by rfl) HO.out ⟨g1,0,none⟩ 1 1 [.string name,iv kind,iv first,iv last,.slice Ao on.length ca,iv wlo,iv whi] (by rfl) (by rfl) (fun j u hu=>by rw [add_bk,HL.out.cell]; simpa using hu) (by simp [Value.oneCell']) (by omega) (by unfold maxLen; omega) (by omega) HB.out.size _ rfl ?_
 intro g c w2 hown hgrow hat hlt;have HB2 : Hid (BW V w2):=Lq (grownB HO.out hgrow (Nat.le_refl _) HB.out);have HO2:=Lq hown;refine hK.out _ _ (HS.out _ HB2.out) (fun hHeld=>?_)
 clear hown hgrow hat hlt HO HL HB;clear hK;refine tkL 11 (.pointer (some ⟨gs,0,none⟩)) ?_;refine tkL 12 (.pointer (some ⟨gs,0,none⟩)) ?_;refine tkL 13 (.pointer (some ⟨gs,0,none⟩)) ?_;refine rdT 14 fun K' hK=>?_
 have bg:=HG.out.keep HB2.out;have cg:=bg.c 0;have fg:=bg.frozen 0;have lg:=bg.lt;go_simp;refine hK.out _ _ ?_;clear bg cg fg lg;clear hK;refine wpAny_of_held (S:=fun _=>True) _ _ _ _ ?_
 refine wpAnyH_done (by kernel_rfl) ?_ _
 exact NoPanic.normal (HQ.out _ _ _ _ _ _ _ _ _ _ _ _ _ _ _ _ _ HO2.out HB2.out)
theorem reg148_6 {on : List ByteArray} {z26 z27 z28 z29 z30 z31 z32 z33 z34 z35 : Value} (hn : n ≤ 11) (hms : ms.length = n) (hg : Blk V gs 109 #[.slice A n cap])
  (hS : hHP71 V A Ao n cap ca gs gc name kind first last wlo whi on)
  (hQ : ∀ u26 u27 u28 u29 u30 u31 u32 u33 u34 u35 u36 u37 u38 u39 g c W',W'.ownsRow V.heap.size 47 7 (.slice (some ⟨g,0,none⟩) (n + 1) c) (n + 1) (ms.flatMap encM ++ [.string name,iv kind,iv first,iv last,.slice Ao on.length ca,iv wlo,iv whi]) → BW V W' → Q .normal ⟨#[.pointer (some ⟨gs,0,none⟩),z1,z2,.pointer (some ⟨gc,0,none⟩),z4,z5,z6,z7,z8,z9,z10,z11,z12,z13,z14,z15,z16,z17,z18,z19,z20,z21,z22,z23,z24,z25,u26,u27,u28,u29,u30,u31,u32,u33,u34,u35,u36,u37,u38,u39],[]⟩ (W'.setCell ⟨gs,0,none⟩ (.slice (some ⟨g,0,none⟩) (n + 1) c)))
  (hC : ∀ W,BW V W → Calls Tryz.prog 179 #[.slice A n cap] W (OwnMs ms W)) :
  (regionOf Tryz.f148 6).wp Tryz.prog Q ⟨#[.pointer (some ⟨gs,0,none⟩),z1,z2,.pointer (some ⟨gc,0,none⟩),z4,z5,z6,z7,z8,z9,z10,z11,z12,z13,z14,z15,z16,z17,z18,z19,z20,z21,z22,z23,z24,z25,z26,z27,z28,z29,z30,z31,z32,z33,z34,z35,z36,z37,z38,z39],[]⟩ V:=by
 have HS:=Lq hS;have HC:=Lq hC;have HB0:=Lq (belowDq (belowR V));have HQ:=Lq hQ;have HG:=Lq hg;clear hS hC hQ hg;have e : regionOf Tryz.f148 6 = Code.region 6 ops148_6 true:=by kernel_rfl
 rw [e];refine wp_region_noPanic ?_;refine wp_region_late (S:=(fun W=>W.cell? ⟨gs,0,none⟩ = some (.slice A n cap) ∧ W.cell? ⟨gc,3,none⟩ = some (.string name) ∧ W.cell? ⟨gc,4,none⟩ = some (iv kind) ∧ W.cell? ⟨gc,5,none⟩ = some (iv first) ∧ W.cell? ⟨gc,6,none⟩ = some (iv last) ∧ W.cell? ⟨gc,7,none⟩ = some (.slice Ao on.length ca) ∧ W.cell? ⟨gc,8,none⟩ = some (iv wlo) ∧ W.cell? ⟨gc,9,none⟩ = some (iv whi))) (late:=(fun k=>k == 14)) (by kernel_rfl) ?_
 have hHeld:=HS.out _ HB0.out;have hsz : ops148_6.size = 15:=by kernel_rfl
 have hrep : Array.replicate 15 false = #[false,false,false,false,false,false,false,false,false,false,false,false,false,false,false]:=by kernel_rfl
 rw [hsz,hrep];clear e hsz hrep;generalize V.drew = V0 at HB0 hHeld ⊢;refine tkL 0 (.pointer (some ⟨gs,0,none⟩)) ?_;refine tkL 1 (.pointer (some ⟨gs,0,none⟩)) ?_;refine tkL 2 (.pointer (some ⟨gs,0,none⟩)) ?_;refine tkL 3 (.pointer (some ⟨gs,0,none⟩)) ?_;refine tkL 4 (.pointer (some ⟨gs,0,none⟩)) ?_;refine tkL 5 (.slice A n cap) ?_;refine tkL 7 (.pointer (some ⟨gc,3,none⟩)) ?_;refine tkL 8 (.agg #[.string name,iv kind,iv first,iv last,.slice Ao on.length ca,iv wlo,iv whi]) ?_;refine rdL2 6 9 (fun K' hK=>?_) fun K' hK=>?_
 ·skip;go_simp;refine (HC.out _ HB0.out).mono ?_;rintro e w5 ⟨v5,rfl,ho5,hb5⟩;have HO5 : Hid (w5.ownsRow V.heap.size 47 7 v5 n (ms.flatMap encM)):=Lq (hms ▸ own_base ho5 HB0.out.size);have HB5:=Lq (belowT HB0.out hb5);clear ho5 hb5;refine hK.out _ _ (HS.out _ HB5.out) (fun hHeld=>?_)
  clear hK;refine rdL1 9 fun K' hK=>?_
  go_simp;have HO6:=Lq (own_below HO5.out (belowA (belowR w5) (.cells #[.string name,iv kind,iv first,iv last,.slice Ao on.length ca,iv wlo,iv whi] 47)));have HB6:=Lq (belowA HB5.out (.cells #[.string name,iv kind,iv first,iv last,.slice Ao on.length ca,iv wlo,iv whi] 47));have HL6:=Lq (Blk.new w5 47 #[.string name,iv kind,iv first,iv last,.slice Ao on.length ca,iv wlo,iv whi]);obtain ⟨w6,hw6⟩:=ex (w5.alloc (.cells #[.string name,iv kind,iv first,iv last,.slice Ao on.length ca,iv wlo,iv whi] 47));obtain ⟨g1,hg1⟩:=ex w5.heap.size;rw [hw6] at HO6 HB6 HL6;rw [hg1] at HL6;rw [hw6,hg1];refine hK.out _ _ (HS.out _ HB6.out) (fun hHeld=>?_)
  clear hK hw6 hg1;exact st148_6 hn hms HG.out HS.out HQ.out HO6.out HL6.out HB6.out
 ·skip;go_simp;have HB5:=Lq (belowA HB0.out (.cells #[.string name,iv kind,iv first,iv last,.slice Ao on.length ca,iv wlo,iv whi] 47));have HL5:=Lq (Blk.new V0 47 #[.string name,iv kind,iv first,iv last,.slice Ao on.length ca,iv wlo,iv whi]);obtain ⟨w5,hw5⟩:=ex (V0.alloc (.cells #[.string name,iv kind,iv first,iv last,.slice Ao on.length ca,iv wlo,iv whi] 47));obtain ⟨g1,hg1⟩:=ex V0.heap.size;rw [hw5] at HB5 HL5;rw [hg1] at HL5;rw [hw5,hg1];refine hK.out _ _ (HS.out _ HB5.out) (fun hHeld=>?_)
  clear hK hw5 hg1;refine rdL1 6 fun K' hK=>?_
  go_simp;refine (HC.out _ HB5.out).mono ?_;rintro e w6 ⟨v5,rfl,ho6,hb6⟩;have HO6 : Hid (w6.ownsRow V.heap.size 47 7 v5 n (ms.flatMap encM)):=Lq (hms ▸ own_base ho6 HB5.out.size);have HB6:=Lq (belowT HB5.out hb6);have HL6:=Lq (HL5.out.keep hb6);clear ho6 hb6;refine hK.out _ _ (HS.out _ HB6.out) (fun hHeld=>?_)
  clear hK;exact st148_6 hn hms HG.out HS.out HQ.out HO6.out HL6.out HB6.out
end
end Go.Proofs.YtpgfldcoojfheaaGreatDoor
