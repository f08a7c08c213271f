/- hull: Differ (printed by mkHA8.py). hull: looks at ships (printed by mkHC1.py). hull: the closures of surveys; the ships that are left (printed by mkHC2.py). -/
import Derived.Test.YtpgfldcoojfheaaGreatDoorM0
import Derived.Test.YtpgfldcoojfheaaGreatDoorM22
import Derived.Test.YtpgfldcoojfheaaGreatDoorM23
set_option maxRecDepth 1000000
set_option maxHeartbeats 16000000
namespace Go.Proofs.YtpgfldcoojfheaaGreatDoor
open Go.RowKit
section
variable {nm : ByteArray}
theorem equal71_any (A1 A2 : Option Addr) (l1 l2 : List ByteArray) (B c1 c2 : Nat) (w : World) (h1 : l1.length ≤ maxLen) (h2 : l2.length ≤ maxLen) (H1 : Rd1 .string w B A1 l1) (H2 : Rd1 .string w B A2 l2) :
  Calls Tryz.prog 71 #[.slice A1 l1.length c1,.slice A2 l2.length c2] w (Rt w (.bool (decide (l1 = l2)))):=by
 unfold maxLen at h1 h2;by_cases hl : l1.length = l2.length
 ·cases l1 with
  | nil =>
   have : l2 = []:=List.length_eq_zero_iff.1 hl.symm;subst this;refine (Go.Proofs.Tryz.slices_Equal_string_empty A1 A2 c1 0 c2 w (by omega)).mono ?_
   rintro e w' ⟨rfl,rfl⟩;exact ⟨by simp,belowR _⟩
  | cons x l1 =>
   cases l2 with
   | nil=>simp at hl
   | cons y l2 =>
    obtain ⟨b1,o1,rfl,_,_⟩:=H1 0 x rfl;obtain ⟨b2,o2,rfl,_,_⟩:=H2 0 y rfl;have hc : ∀ (b o : Nat) (l : List ByteArray),Rd1 .string w B (some ⟨b,o,none⟩) l → ∀ j,j < l.length → w.cell? ⟨b,o + j,none⟩ = some (.string (l.getD j ByteArray.empty)):=by
     intro b o l hr j hj;obtain ⟨b',o',e,_,hc⟩:=hr j _ (List.getElem?_eq_getElem hj);injection e with e
     injection e with e1 e2
     subst e1 e2;rw [hc,List.getD_eq_getElem?_getD,List.getElem?_eq_getElem hj];rfl
    refine (Go.Proofs.Tryz.slices_Equal_string b1 o1 (x::l1).length c1 b2 o2 (y::l2).length c2 (x::l1) (y::l2) w (Nat.le_refl _) (Nat.le_refl _) (by omega) (by omega) (hc b1 o1 _ H1) (hc b2 o2 _ H2)).mono ?_
    rintro e w' ⟨rfl,q,rfl⟩;exact ⟨by rw [List.take_length,List.take_length],belowN (belowR _) _⟩
 ·refine (Go.Proofs.Tryz.slices_Equal_string_lens A1 A2 l1.length c1 l2.length c2 w hl).mono ?_;rintro e w' ⟨rfl,rfl⟩;have : ¬ l1 = l2:=fun e=>hl (by rw [e])
  exact ⟨by simp [this],belowR _⟩
theorem tidyN_len (l : List ByteArray) : (tidyN l).length ≤ l.length:=by
 unfold tidyN;rw [List.length_map];refine Nat.le_trans (compactS_len _) ?_;rw [List.length_mergeSort,List.length_map];exact Nat.le_refl _
def plainEq (x y : HuP) : Bool:=x.name.toList == y.name.toList && x.kind == y.kind && x.first == y.first && x.last == y.last && x.wlo == y.wlo && x.whi == y.whi
def sameIn (a b : List HuP) (nm : ByteArray) : Bool:=hasP a nm && hasP b nm && (match a[idxP a nm]?,b[idxP b nm]? with
 | some x,some y=>plainEq x y && decide (x.on = y.on)
 | _,_=>false)
def diffL (a b : List HuP) (l : List ByteArray) : List ByteArray:=l.filter fun nm=>!sameIn a b nm
theorem diffL_snoc {a b : List HuP} {l : List ByteArray} {k : Nat} (h : l[k]? = some nm) : diffL a b (l.take (k + 1)) = diffL a b (l.take k) ++ (if sameIn a b nm then [] else [nm]):=by
 unfold diffL;rw [List.take_add_one,h];cases hs : sameIn a b nm <;> simp [hs]
theorem sameIn_no {a b : List HuP} (h : (hasP a nm && hasP b nm) = false) : sameIn a b nm = false:=by
 unfold sameIn;rw [h];rfl
theorem sameIn_yes {a b : List HuP} {x y : HuP} (h1 : hasP a nm = true) (h2 : hasP b nm = true) (hx : a[idxP a nm]? = some x) (hy : b[idxP b nm]? = some y) : sameIn a b nm = (plainEq x y && decide (x.on = y.on)):=by
 unfold sameIn;rw [h1,h2,hx,hy];rfl
def allP (a b : List HuP) : List ByteArray:=tidyN (a.map HuP.name ++ b.map HuP.name)
def DifferPost (a b : List HuP) (w : World) (e : Ending) (w' : World) : Prop:=∃ v,e = .returned (.tuple #[v,iv 0]) ∧ BW w w' ∧ w'.ownsRow w.heap.size 9 1 v (diffL a b (allP a b)).length ((diffL a b (allP a b)).map .string)
theorem openNo {ms : List HuM} {cs : List HcM} {day : Int} {w w' : World} {e : Ending} (hP : PlanOk (psOf ms) (csOf cs)) (hd : inB 0 40000 day = true) (h : OpenPost ms cs day w e w') : ∃ (out : List HuM) (A : Option Addr) (c : Nat),e = .returned (.tuple #[.agg #[.slice A out.length c],iv 0]) ∧ BW w w' ∧ psOf out = shipOn day (psOf ms) (csOf cs) ∧ SlM w' w'.heap.size A c out:=by
 obtain ⟨r,A,n,c,rfl,hb,h1,h2⟩:=h;obtain rfl:=h1.2 ⟨hP,hd⟩;obtain ⟨out,rfl,h3,h4⟩:=h2 rfl;exact ⟨out,A,c,rfl,hb,h3,h4⟩
theorem differ23_any (A C A' C' : Option Addr) (ms ms' : List HuM) (cs cs' : List HcM) (cap capc cap' capc' : Nat) (day : Int) (w : World) (H : PlanAt w A C cap capc ms cs) (H' : PlanAt w A' C' cap' capc' ms' cs') (hP : PlanOk (psOf ms) (csOf cs)) (hP' : PlanOk (psOf ms') (csOf cs')) (hd : inB 0 40000 day = true) (h0 : 0 < (shipOn day (psOf ms) (csOf cs)).length) :
  Calls Tryz.prog 23 #[.agg #[.slice A ms.length cap,.slice C cs.length capc],.agg #[.slice A' ms'.length cap',.slice C' cs'.length capc'],iv day] w (DifferPost (shipOn day (psOf ms) (csOf cs)) (shipOn day (psOf ms') (csOf cs')) w):=by
 obtain ⟨W1,hW1⟩:=ex (w.alloc (.cells #[.slice A ms.length cap,.slice C cs.length capc] 27));obtain ⟨W2,hW2⟩:=ex (W1.alloc (.cells #[.slice A' ms'.length cap',.slice C' cs'.length capc'] 27));obtain ⟨g3,hg3⟩:=ex w.heap.size;obtain ⟨g4,hg4⟩:=ex W1.heap.size;have b1 : BW w W1:=by rw [← hW1]; exact belowA (belowR w) _
 have b2 : BW W1 W2:=by rw [← hW2]; exact belowA (belowR _) _
 have q1 : Blk W1 g3 27 #[.slice A ms.length cap,.slice C cs.length capc]:=by rw [← hW1,← hg3]; exact Blk.new w 27 _
 have q2 : Blk W2 g4 27 #[.slice A' ms'.length cap',.slice C' cs'.length capc']:=by rw [← hW2,← hg4]; exact Blk.new W1 27 _
 have b3:=belowT b1 b2;have HPA : Hid (∀ W,BW W2 W → PlanAt W A C cap capc ms cs):=Lq fun W hb=>H.below (belowT b3 hb)
 have HPB : Hid (∀ W,BW W2 W → PlanAt W A' C' cap' capc' ms' cs'):=Lq fun W hb=>H'.below (belowT b3 hb)
 have HCK : Hid (Calls Tryz.prog 68 #[.agg #[.slice A ms.length cap,.slice C cs.length capc]] W2 (Chk3 (PlanOk (psOf ms) (csOf cs)) W2)):=Lq (let h:=HPA.out W2 (belowR _); check68_any A C ms cs W2.heap.size cap capc W2 (Nat.le_refl _) h.sl h.ch h.wf);have HOA : Hid (∀ W,BW W2 W → Calls Tryz.prog 47 #[.agg #[.slice A ms.length cap,.slice C cs.length capc],iv day] W (OpenPost ms cs day W)):=Lq fun W hb=>let h:=HPA.out W hb; open47_any A C ms cs W.heap.size cap capc day W (Nat.le_refl _) h.sl h.ch h.wf
 have HOB : Hid (∀ W,BW W2 W → Calls Tryz.prog 47 #[.agg #[.slice A' ms'.length cap',.slice C' cs'.length capc'],iv day] W (OpenPost ms' cs' day W)):=Lq fun W hb=>let h:=HPB.out W hb; open47_any A' C' ms' cs' W.heap.size cap' capc' day W (Nat.le_refl _) h.sl h.ch h.wf
 have HX : Hid (∀ W,BW W2 W → W.cell? ⟨g3,0,none⟩ = some (.slice A ms.length cap) ∧ W.cell? ⟨g3,1,none⟩ = some (.slice C cs.length capc) ∧ W.cell? ⟨g4,0,none⟩ = some (.slice A' ms'.length cap') ∧ W.cell? ⟨g4,1,none⟩ = some (.slice C' cs'.length capc')):=Lq fun W hb=>have k:=q1.keep (belowT b2 hb); have k2:=q2.keep hb; ⟨k.c 0,k.c 1,k2.c 0,k2.c 1⟩
 obtain ⟨la,hla⟩:=ex (shipOn day (psOf ms) (csOf cs));obtain ⟨lb,hlb⟩:=ex (shipOn day (psOf ms') (csOf cs'));have hoka : ShipOk la:=hla ▸ shipOn_ok hP day;have hokb : ShipOk lb:=hlb ▸ shipOn_ok hP' day;have HOKA:=Lq hoka;have HOKB:=Lq hokb;rw [hla] at h0 ⊢;rw [hlb];have HLA:=Lq hla;have HLB:=Lq hlb;have H0:=Lq h0;have HPP:=Lq hP;have HPP':=Lq hP';have HD:=Lq hd;have HB3:=Lq b3;obtain ⟨i9,hi9,hz90,hz91,hz92⟩:=info_parts Tryz.info9;obtain ⟨x0,x1,x2,x3⟩:=HX.out _ (belowR W2);clear H H' b1 b2 b3 q1 q2 hla hlb h0 hP hP' hd hoka hokb;go_enter Tryz.func23,Tryz.ntmps23
 go_wp2_with fail
 go_step3
 go_wp2_with fail
 refine HCK.out.mono ?_;rintro e w3 ⟨rp,ri,r,rfl,hiff,hb⟩;obtain rfl:=hiff.2 HPP.out;have HB23:=Lq hb;clear hb hiff x0 x1 x2 x3 hW1 hW2 hg3 hg4;obtain ⟨x0,x1,x2,x3⟩:=HX.out _ HB23.out;go_wp2_with fail
 refine (HOB.out _ HB23.out).mono ?_;intro e w4 hop;obtain ⟨outb,Ab,cb,rfl,hb,hpb,hslb⟩:=openNo HPP'.out HD.out hop;obtain ⟨Wa,W5,hWa,hW5,hb5,hqa,hba,hq5⟩:=oneMade w4 109 (.slice none 0 0) (.slice Ab outb.length cb);obtain ⟨g8,hg8⟩:=ex w4.heap.size;rw [hg8] at hW5 hqa hq5;have HB25:=Lq (belowT HB23.out (belowT hb hb5));have HQ8:=Lq hq5;have HSB:=Lq ((hslb.below hb5 (Nat.le_refl _)).more hb5.size);have HPSB : Hid (psOf outb = lb):=Lq (hpb.trans HLB.out);have af:=hqa.frozen 0;have ac:=hqa.c 0;have al:=hqa.lt;clear hop hb hpb hslb hb5 hqa hba hq5 x0 x1 x2 x3;obtain ⟨x0,x1,x2,x3⟩:=HX.out _ HB25.out;go_wp2_with fail
 clear af ac al hWa hW5 hg8;refine (HOA.out _ HB25.out).mono ?_;intro e w6 hop;obtain ⟨outa,Aa,ca,rfl,hb,hpa,hsla⟩:=openNo HPP.out HD.out hop;obtain ⟨Wb,W7,hWb,hW7,hb7,hqb,hbb,hq7⟩:=oneMade w6 109 (.slice none 0 0) (.slice Aa outa.length ca);obtain ⟨g9,hg9⟩:=ex w6.heap.size;rw [hg9] at hW7 hqb hq7;have hb57:=belowT hb hb7;have HB27:=Lq (belowT HB25.out hb57);have HQ9:=Lq hq7;have HQ8':=Lq (HQ8.out.keep hb57);have HSA:=Lq ((hsla.below hb7 (Nat.le_refl _)).more hb7.size);have HSB':=Lq ((HSB.out.below hb57 (Nat.le_refl _)).more hb57.size);have HPSA : Hid (psOf outa = la):=Lq (hpa.trans HLA.out);have af:=hqb.frozen 0;have ac:=hqb.c 0;have al:=hqb.lt;have a8:=HQ8'.out.c 0;have a9:=hq7.c 0;clear hop hb hpa hsla hb7 hqb hbb hq7 hb57 x0 x1 x2 x3;have h12a : outa.length ≤ 12:=by have h:=HOKA.out.len; rw [← HPSA.out] at h; simpa using h
 have h12b : outb.length ≤ 12:=by have h:=HOKB.out.len; rw [← HPSB.out] at h; simpa using h
 go_wp2_with fail
 go_step3
 go_wp2_with fail
 clear af ac al a8 a9 hWb hW7 hg9;obtain ⟨W8,hW8⟩:=ex (W7.alloc (.cells #[.slice Aa outa.length ca,.slice Ab outb.length cb] 109));have hb8 : BW W7 W8:=by rw [← hW8]; exact belowA (belowR W7) _
 have hq8 : Blk W8 W7.heap.size 109 #[.slice Aa outa.length ca,.slice Ab outb.length cb]:=by rw [← hW8]; exact Blk.new W7 109 _
 obtain ⟨gr,hgr⟩:=ex W7.heap.size;rw [hgr] at hq8;rw [hW8,hgr];have HNM : Hid (Calls Tryz.prog 69 #[.slice (some ⟨gr,0,none⟩) 2 2] W8 fun e w'=>∃ g c,e = .returned (.slice (some ⟨g,0,none⟩) (allP la lb).length c) ∧ Rd1 .string w' w'.heap.size (some ⟨g,0,none⟩) (allP la lb) ∧ (allP la lb).length ≤ c ∧ c ≤ maxLen ∧ BW W8 w'):=by
  have hall : allNms [⟨outa,Aa,ca⟩,⟨outb,Ab,cb⟩] = la.map HuP.name ++ lb.map HuP.name:=by
   unfold allNms nmsOf;simp only [List.flatMap_cons,List.flatMap_nil,List.append_nil,HPSA.out,HPSB.out]
  have h:=names69_any (some ⟨gr,0,none⟩) [⟨outa,Aa,ca⟩,⟨outb,Ab,cb⟩] W8.heap.size 2 W8 (Nat.le_refl _) (by unfold maxLen; simp) ⟨fun i x hx=>by
    match i,hx with
    | 0,hx=>simp at hx; subst hx; exact ⟨gr,0,rfl,hq8.lt,hq8.c 0⟩
    | 1,hx=>simp at hx; subst hx; exact ⟨gr,0,rfl,hq8.lt,hq8.c 1⟩
    | n + 2,hx=>simp at hx,fun s hs=>by
    simp only [List.mem_cons,List.not_mem_nil,or_false] at hs;rcases hs with rfl | rfl
    ·exact (HSA.out.below hb8 (Nat.le_refl _)).more hb8.size
    ·exact (HSB'.out.below hb8 (Nat.le_refl _)).more hb8.size⟩ (by rw [hall,List.length_append,List.length_map]; have:=H0.out; omega) (by
     rw [hall,List.length_append,List.length_map,List.length_map,← HPSA.out,← HPSB.out];simp only [psOf,List.length_map];omega)
  rw [hall] at h;exact Lq h
 have HB8:=Lq (belowT HB27.out hb8);have HB78:=Lq hb8;clear hb8 hq8 hW8 hgr;refine HNM.out.mono ?_;rintro e w9 ⟨gn,cn,rfl,hrd,hln,hcn,hb⟩;obtain ⟨NL,hNL⟩:=ex (allP la lb);have HNL:=Lq hNL;have hNL2:=hNL;simp only [hNL] at hrd hln ⊢;have HRD:=Lq hrd;have HRDW : Hid (∀ W,BW w9 W → Rd1 .string W W.heap.size (some ⟨gn,0,none⟩) NL):=Lq fun W hb=>(hrd.below hb (Nat.le_refl _)).more hb.size
 have HB79:=Lq (belowT HB78.out hb);have hnl9 : NL.length ≤ 9223372036854775807:=by simp only [maxLen] at hcn; omega
 have hnl16 : NL.length ≤ 24:=by
  rw [← hNL2];refine Nat.le_trans (tidyN_len _) ?_;rw [List.length_append,List.length_map,List.length_map,← HPSA.out,← HPSB.out];simp only [psOf,List.length_map];omega
 have HBW9:=Lq (belowT HB3.out (belowT HB27.out HB79.out));clear hrd hb hNL hNL2 HNM hln hcn;go_wp2_with fail
 go_loopw [6,46] (fun v i wr=>∃ j : Nat,j ≤ NL.length ∧ i = iv j ∧ Hid (wr.ownsRow w9.heap.size 9 1 v (diffL la lb (NL.take j)).length ((diffL la lb (NL.take j)).map .string)) ∧ Hid (BW w9 wr)) (fun _ i _=>NL.length - (intOf i).toNat)
 case atStart=>exact ⟨0,Nat.zero_le _,rfl,Lq (by simp only [List.take_zero,diffL,List.filter_nil,List.length_nil,List.map_nil]; exact World.ownsRow_nil _ _ _ _),Lq (belowR _)⟩
 case round =>
  obtain ⟨j,hj,rfl,HRW,HBR⟩:=hrel;have hj0 : (0 : Int) ≤ (j : Int):=by omega
  by_cases hlt : j < NL.length
  ·obtain ⟨nm,hnm⟩ : ∃ x,NL[j]? = some x:=⟨_,List.getElem?_eq_getElem hlt⟩;obtain ⟨b,off,hA,_,c0⟩:=(HRDW.out wr HBR.out) j nm hnm;injection hA with hA
   injection hA with e1 e2
   subst e1 e2;rw [Nat.zero_add] at c0;have HDS:=Lq (diffL_snoc (a:=la) (b:=lb) hnm);have HLN : Hid ((diffL la lb (NL.take j)).length ≤ j):=Lq (by unfold diffL; exact Nat.le_trans (List.length_filter_le _ _) (by rw [List.length_take]; omega))
   obtain ⟨ra,hra⟩:=ex (posP la nm);obtain ⟨rb,hrb⟩:=ex (posP lb nm);have HFA : Hid (∀ W,BW W7 W → Calls Tryz.prog 49 #[.pointer (some ⟨g9,0,none⟩),.string nm] W (Rt W (iv ra))):=Lq fun W hb=>by
    have h2:=(HSA.out.below hb (Nat.le_refl _)).more hb.size;have h3:=find49_any Aa outa W.heap.size ca g9 nm W (Nat.le_refl _) (Nat.le_trans h2.le h2.max) h2.rd ((HQ9.out.keep hb).c 0);rw [HPSA.out,hra] at h3;exact h3
   have HFB : Hid (∀ W,BW W7 W → Calls Tryz.prog 49 #[.pointer (some ⟨g8,0,none⟩),.string nm] W (Rt W (iv rb))):=Lq fun W hb=>by
    have h2:=(HSB'.out.below hb (Nat.le_refl _)).more hb.size;have h3:=find49_any Ab outb W.heap.size cb g8 nm W (Nat.le_refl _) (Nat.le_trans h2.le h2.max) h2.rd ((HQ8'.out.keep hb).c 0);rw [HPSB.out,hrb] at h3;exact h3
   have KRA:=Lq hra;have KRB:=Lq hrb;have HB7R:=Lq (belowT HB79.out HBR.out);clear hnm hra hrb;go_wp2_with fail
   refine (HFA.out _ HB7R.out).mono ?_;rintro e w10 ⟨rfl,hb⟩;have HB10:=Lq hb;have HB710:=Lq (belowT HB7R.out hb);clear hb c0;go_wp2_with fail
   refine (HFB.out _ HB710.out).mono ?_;rintro e w11 ⟨rfl,hb⟩;have HB11:=Lq (belowT HB10.out hb);have HB711:=Lq (belowT HB710.out hb);have HB911:=Lq (belowT HBR.out HB11.out);clear hb;have HRW11:=Lq (own_below HRW.out HB11.out);by_cases ha : hasP la nm = true
   ·by_cases hb : hasP lb nm = true
    ·obtain ⟨pa1,pa2,x,hx,_⟩:=posP_at ha;obtain ⟨pb1,pb2,y,hy,_⟩:=posP_at hb;rw [KRA.out] at pa1;rw [KRB.out] at pb1;have HSN:=Lq (sameIn_yes ha hb hx hy);obtain ⟨ia,hia⟩:=ex (idxP la nm);obtain ⟨ib,hib⟩:=ex (idxP lb nm);rw [hia] at pa1 pa2 hx;rw [hib] at pb1 pb2 hy;subst pa1 pb1;obtain ⟨xm,hxm,hxp⟩ : ∃ xm,outa[ia]? = some xm ∧ xm.p = x:=by
      rw [← HPSA.out,List.getElem?_map] at hx;cases hc : outa[ia]? with
      | none=>rw [hc] at hx; cases hx
      | some xm=>rw [hc] at hx; injection hx with hx; exact ⟨xm,rfl,hx⟩
     obtain ⟨ym,hym,hyp⟩ : ∃ ym,outb[ib]? = some ym ∧ ym.p = y:=by
      rw [← HPSB.out,List.getElem?_map] at hy;cases hc : outb[ib]? with
      | none=>rw [hc] at hy; cases hy
      | some ym=>rw [hc] at hy; injection hy with hy; exact ⟨ym,rfl,hy⟩
     subst hxp hyp;have hsa : ∀ W,BW w11 W → SlM W W.heap.size Aa ca outa:=fun W hb=>let h:=belowT HB711.out hb; (HSA.out.below h (Nat.le_refl _)).more h.size
     have hsb : ∀ W,BW w11 W → SlM W W.heap.size Ab cb outb:=fun W hb=>let h:=belowT HB711.out hb; (HSB'.out.below h (Nat.le_refl _)).more h.size
     have HMA : Hid (∀ W,BW w11 W → MOk W W.heap.size xm):=Lq fun W hb=>(hsa W hb).rd.ok xm (List.mem_iff_getElem?.2 ⟨ia,hxm⟩)
     have HMB : Hid (∀ W,BW w11 W → MOk W W.heap.size ym):=Lq fun W hb=>(hsb W hb).rd.ok ym (List.mem_iff_getElem?.2 ⟨ib,hym⟩)
     obtain ⟨ba,oa,hAa,_,_,c0,c1,c2,c3,c4,c5,c6⟩:=(hsa w11 (belowR _)).rd.at hxm;obtain ⟨bb,ob,hAb,_,_,e0,e1,e2,e3,e4,e5,e6⟩:=(hsb w11 (belowR _)).rd.at hym;obtain ⟨⟨xn,xk,xf,xl,xon,xw,xz⟩,xA,xc⟩:=xm;obtain ⟨⟨yn,yk,yf,yl,yon,yw,yz⟩,yA,yc⟩:=ym;have h9:=(HQ9.out.keep HB711.out).c 0;have h8:=(HQ8'.out.keep HB711.out).c 0;rw [hAa] at h9;rw [hAb] at h8;simp only at c0 c1 c2 c3 c4 c5 c6 e0 e1 e2 e3 e4 e5 e6 HMA HMB HSN;have hia2 : ia < outa.length:=(List.getElem?_eq_some_iff.1 hxm).1;have hib2 : ib < outb.length:=(List.getElem?_eq_some_iff.1 hym).1;have HIL : Hid (ia < outa.length ∧ ib < outb.length):=Lq ⟨hia2,hib2⟩;have HCL : Hid (∀ W,BW w11 W → W.cell? ⟨g9,0,none⟩ = some (.slice (some ⟨ba,oa,none⟩) outa.length ca) ∧ W.cell? ⟨g8,0,none⟩ = some (.slice (some ⟨bb,ob,none⟩) outb.length cb) ∧ W.cell? ⟨ba,oa + ia * 7,none⟩ = some (.string xn) ∧ W.cell? ⟨ba,oa + ia * 7 + 1,none⟩ = some (iv xk) ∧ W.cell? ⟨ba,oa + ia * 7 + 2,none⟩ = some (iv xf) ∧ W.cell? ⟨ba,oa + ia * 7 + 3,none⟩ = some (iv xl) ∧ W.cell? ⟨ba,oa + ia * 7 + 4,none⟩ = some (.slice xA xon.length xc) ∧ W.cell? ⟨ba,oa + ia * 7 + 5,none⟩ = some (iv xw) ∧ W.cell? ⟨ba,oa + ia * 7 + 6,none⟩ = some (iv xz) ∧ W.cell? ⟨bb,ob + ib * 7,none⟩ = some (.string yn) ∧ W.cell? ⟨bb,ob + ib * 7 + 1,none⟩ = some (iv yk) ∧ W.cell? ⟨bb,ob + ib * 7 + 2,none⟩ = some (iv yf) ∧ W.cell? ⟨bb,ob + ib * 7 + 3,none⟩ = some (iv yl) ∧ W.cell? ⟨bb,ob + ib * 7 + 4,none⟩ = some (.slice yA yon.length yc) ∧ W.cell? ⟨bb,ob + ib * 7 + 5,none⟩ = some (iv yw) ∧ W.cell? ⟨bb,ob + ib * 7 + 6,none⟩ = some (iv yz)):=Lq fun W hb=>⟨keepC hb h9,keepC hb h8,keepC hb c0,keepC hb c1,keepC hb c2,keepC hb c3,keepC hb c4,keepC hb c5,keepC hb c6,keepC hb e0,keepC hb e1,keepC hb e2,keepC hb e3,keepC hb e4,keepC hb e5,keepC hb e6⟩
     obtain ⟨bq,hbq⟩:=ex (plainEq (HuP.mk xn xk xf xl xon xw xz) (HuP.mk yn yk yf yl yon yw yz));obtain ⟨be,hbe⟩:=ex (decide (xon = yon));have HEQ : Hid (∀ W,BW w11 W → Calls Tryz.prog 71 #[.slice xA xon.length xc,.slice yA yon.length yc] W (Rt W (.bool be))):=Lq fun W hb=>hbe ▸ equal71_any xA yA xon yon W.heap.size xc yc W (Nat.le_trans (HMA.out W hb).le (HMA.out W hb).cm) (Nat.le_trans (HMB.out W hb).le (HMB.out W hb).cm) (HMA.out W hb).on (HMB.out W hb).on
     have HBQ : Hid ((xn.toList == yn.toList && xk == yk && xf == yf && xl == yl && xw == yw && xz == yz) = bq):=Lq hbq;have HSN2 : Hid (sameIn la lb nm = (bq && be)):=Lq (by rw [HSN.out,hbq,hbe])
     have hia0 : (0 : Int) ≤ (ia : Int):=by omega
     have hib0 : (0 : Int) ≤ (ib : Int):=by omega
     clear ha hb hx hy hia hib pa2 pb2 hxm hym hsa hsb c0 c1 c2 c3 c4 c5 c6 e0 e1 e2 e3 e4 e5 e6 h9 h8 hia2 hib2 hbq hbe HSN HMA HMB hAa hAb;go_wp2_with fail
     go_upto_region 13 with fail
     refine reg23_13 HIL HCL (Lq ?_);intro u60 u61 u62 u63 u64 u65 u66 u67 u68 u69 u70 u71 gx gy w12 hb12 hgx hgy hne hqx hqy;have HB12:=Lq hb12;have HSX : Hid (∀ W,BW w12 W → W.cell? ⟨gx,0,none⟩ = some (.string xn) ∧ W.cell? ⟨gx,1,none⟩ = some (iv xk) ∧ W.cell? ⟨gx,2,none⟩ = some (iv xf) ∧ W.cell? ⟨gx,3,none⟩ = some (iv xl) ∧ W.cell? ⟨gx,4,none⟩ = some (.slice xA xon.length xc) ∧ W.cell? ⟨gx,5,none⟩ = some (iv xw) ∧ W.cell? ⟨gx,6,none⟩ = some (iv xz) ∧ W.cell? ⟨gy,0,none⟩ = some (.string yn) ∧ W.cell? ⟨gy,1,none⟩ = some (iv yk) ∧ W.cell? ⟨gy,2,none⟩ = some (iv yf) ∧ W.cell? ⟨gy,3,none⟩ = some (iv yl) ∧ W.cell? ⟨gy,4,none⟩ = some (.slice yA yon.length yc) ∧ W.cell? ⟨gy,5,none⟩ = some (iv yw) ∧ W.cell? ⟨gy,6,none⟩ = some (iv yz)):=Lq fun W hb=>have k:=hqx.keep hb; have k2:=hqy.keep hb; ⟨k.c 0,k.c 1,k.c 2,k.c 3,k.c 4,k.c 5,k.c 6,k2.c 0,k2.c 1,k2.c 2,k2.c 3,k2.c 4,k2.c 5,k2.c 6⟩
     clear hb12 hgx hgy hne hqx hqy;go_upto_region 14 with fail
     refine reg23_14 HSX HBQ (Lq fun W hb=>HEQ.out W (belowT HB12.out hb)) (Lq fun W=>plain70_any ⟨⟨xn,xk,xf,xl,xon,xw,xz⟩,xA,xc⟩ W) (Lq fun W=>plain70_any ⟨⟨yn,yk,yf,yl,yon,yw,yz⟩,yA,yc⟩ W) (Lq ?_)
     intro u72 u73 u74 u75 u76 u77 u78 u79 u80 u81 u82 w13 hb13;have HB13:=Lq (belowT HB12.out hb13);have HRW13:=Lq (own_below HRW11.out HB13.out);have HB713:=Lq (belowT HB711.out HB13.out);have HB913:=Lq (belowT HB911.out HB13.out);clear hb13;obtain ⟨bs,hbs⟩:=ex (bq && be);rw [hbs] at HSN2 ⊢;clear hbs HBQ HEQ;cases bs with
     | true =>
      go_wp2_with fail
      go_roundw
      case measure=>simp [intOf]; omega
      case rel =>
       refine ⟨j + 1,by omega,by go_num,Lq ?_,HB913⟩
       rw [HDS.out,HSN2.out]
       simpa using HRW13.out
     | false =>
      have HDF : Hid ((if sameIn la lb nm = true then [] else [nm]) = [nm]):=Lq (by rw [HSN2.out]; rfl)
      have HAL:=Lq (HRW13.out.alloc (.cells #[.string nm] 9));have hln:=HLN.out;have HBA:=Lq (HB913.out);go_wp2_with (at_builtin; refine wpList_append_own _ rfl _ _ 45 rfl w9.heap.size 9 i9 (.string ⟨#[]⟩) 1 16 Tryz.underlying45 hi9 hz90 hz91 hz92 rfl (by decide) _ _ _ rfl HAL.out ⟨w13.heap.size,0,none⟩ 1 1 [.string nm] rfl rfl (one_new _ _ _) ?d2 ?d3 ?d4 ?d5 ?_)
      case d2=>simp [Value.oneCell']
      case d3=>unfold maxLen; omega
      case d4=>omega
      case d5=>have:=HBA.out.size; (try simp only [World.size_alloc]); omega
      intro v9 w20 hown9 hg9 _;have hb9 : BW w9 w20:=grownB HAL.out hg9 (Nat.le_refl _) (belowA HBA.out _);have HB20:=Lq hb9;have HO9:=Lq hown9;clear hown9 hg9 hb9;go_wp2_with fail
      go_roundw
      case measure=>simp [intOf]; omega
      case rel =>
       refine ⟨j + 1,by omega,by go_num,Lq ?_,HB20⟩
       rw [HDS.out,HDF.out]
       simpa using HO9.out
    ·have hrb : rb = -1:=by rw [← KRB.out]; exact posP_none (by simpa using hb)
     have hra0 : 0 ≤ ra:=by rw [← KRA.out,(posP_at ha).1]; omega
     have HDF : Hid ((if sameIn la lb nm = true then [] else [nm]) = [nm]):=Lq (by rw [sameIn_no (by simp [hb])]; rfl)
     subst hrb;clear ha hb;have HAL:=Lq (HRW11.out.alloc (.cells #[.string nm] 9));have hln:=HLN.out;have HBA:=Lq (HB911.out);go_wp2_with (at_builtin; refine wpList_append_own _ rfl _ _ 45 rfl w9.heap.size 9 i9 (.string ⟨#[]⟩) 1 16 Tryz.underlying45 hi9 hz90 hz91 hz92 rfl (by decide) _ _ _ rfl HAL.out ⟨w11.heap.size,0,none⟩ 1 1 [.string nm] rfl rfl (one_new _ _ _) ?d2 ?d3 ?d4 ?d5 ?_)
     case d2=>simp [Value.oneCell']
     case d3=>unfold maxLen; omega
     case d4=>omega
     case d5=>have:=HBA.out.size; (try simp only [World.size_alloc]); omega
     intro v9 w20 hown9 hg9 _;have hb9 : BW w9 w20:=grownB HAL.out hg9 (Nat.le_refl _) (belowA HBA.out _);have HB20:=Lq hb9;have HO9:=Lq hown9;clear hown9 hg9 hb9;go_wp2_with fail
     go_roundw
     case measure=>simp [intOf]; omega
     case rel =>
      refine ⟨j + 1,by omega,by go_num,Lq ?_,HB20⟩
      rw [HDS.out,HDF.out]
      simpa using HO9.out
   ·have hra : ra = -1:=by rw [← KRA.out]; exact posP_none (by simpa using ha)
    have HDF : Hid ((if sameIn la lb nm = true then [] else [nm]) = [nm]):=Lq (by rw [sameIn_no (by simp [ha])]; rfl)
    subst hra;clear ha;have HAL:=Lq (HRW11.out.alloc (.cells #[.string nm] 9));have hln:=HLN.out;have HBA:=Lq (HB911.out);go_wp2_with (at_builtin; refine wpList_append_own _ rfl _ _ 45 rfl w9.heap.size 9 i9 (.string ⟨#[]⟩) 1 16 Tryz.underlying45 hi9 hz90 hz91 hz92 rfl (by decide) _ _ _ rfl HAL.out ⟨w11.heap.size,0,none⟩ 1 1 [.string nm] rfl rfl (one_new _ _ _) ?d2 ?d3 ?d4 ?d5 ?_)
    case d2=>simp [Value.oneCell']
    case d3=>unfold maxLen; omega
    case d4=>omega
    case d5=>have:=HBA.out.size; (try simp only [World.size_alloc]); omega
    intro v9 w20 hown9 hg9 _;have hb9 : BW w9 w20:=grownB HAL.out hg9 (Nat.le_refl _) (belowA HBA.out _);have HB20:=Lq hb9;have HO9:=Lq hown9;clear hown9 hg9 hb9;go_wp2_with fail
    go_roundw
    case measure=>simp [intOf]; omega
    case rel =>
     refine ⟨j + 1,by omega,by go_num,Lq ?_,HB20⟩
     rw [HDS.out,HDF.out]
     simpa using HO9.out
  ·obtain rfl : j = NL.length:=by omega
   go_wp2_with fail
   rw [Exit.noGoto_ret]
   go_ret2
   refine ⟨_,rfl,belowT HBW9.out HBR.out, ?_⟩;have h:=own_base HRW.out HBW9.out.size;rw [List.take_of_length_le (Nat.le_refl _)] at h;rw [HNL.out];exact h
end
section
variable {nm : ByteArray} {fr : Int}
structure SgM where
 nm : ByteArray
 fr : Int
 kd : Int
def encS (s : SgM) : List Value:=[.string s.nm,iv s.fr,iv s.kd]
theorem encS_len : ∀ s,(encS s).length = 3:=fun _=>rfl
abbrev sgV (s : SgM) : Value:=.agg #[.string s.nm,iv s.fr,iv s.kd]
abbrev shV (s : ShM) : Value:=.agg #[.slice s.A s.ms.length s.cap]
theorem idx_sight (P : SgM → Bool) (A : Option Addr) (ms : List SgM) (B cap : Nat) (v0 v1 : Value) (w : World) (hm : ms.length ≤ maxLen) (hB : B ≤ w.heap.size) (H : RdN 3 encS w B A ms) (hcl : ∀ W m,BW w W → m ∈ ms → Calls Tryz.prog 108 #[sgV m,v0,v1] W (Rt W (.bool (P m)))) :
  Calls Tryz.prog 132 #[.slice A ms.length cap,.func (.func 108) #[] #[v0,v1]] w (Rt w (iv (idxI P (ms)))):=by
 unfold maxLen at hm;have HH:=Lq H;have HCL:=Lq hcl;clear H hcl;go_enter Tryz.func132,Tryz.ntmps132
 go_wp2
 go_loopw [8] (fun i wr=>∃ k : Nat,k ≤ ms.length ∧ i = iv k ∧ Hid (anyTo P ms k = false) ∧ Hid (BW w wr)) (fun i _=>ms.length - (intOf i).toNat)
 case atStart=>exact ⟨0,Nat.zero_le _,rfl,Lq rfl,Lq (belowR _)⟩
 case round =>
  obtain ⟨k,hk,rfl,HN,HBR⟩:=hrel;by_cases hlt : k < ms.length
  ·obtain ⟨m,hx⟩ : ∃ x,ms[k]? = some x:=⟨_,List.getElem?_eq_getElem hlt⟩;obtain ⟨b,off,rfl,_,hcs⟩:=(HH.out.below HBR.out hB) k m hx;obtain ⟨snm,sfr,skd⟩:=m;have c0 : wr.cell? ⟨b,off + k * 3,none⟩ = some (.string snm):=hcs 0 _ rfl;have c1 : wr.cell? ⟨b,off + k * 3 + 1,none⟩ = some (iv sfr):=hcs 1 _ rfl;have c2 : wr.cell? ⟨b,off + k * 3 + 2,none⟩ = some (iv skd):=hcs 2 _ rfl;have HC:=Lq (HCL.out wr ⟨snm,sfr,skd⟩ HBR.out (List.mem_iff_getElem?.2 ⟨k,hx⟩));have HX : Hid (ms[k]? = some ⟨snm,sfr,skd⟩):=Lq hx;clear hx HCL hcs;obtain ⟨bp,hbp⟩:=ex (P ⟨snm,sfr,skd⟩);have HBP:=Lq hbp;simp only [hbp] at HC;clear hbp;go_wp2_with fail
   refine HC.out.mono ?_;rintro e w1 ⟨rfl,hb⟩;have HB1:=Lq (belowT HBR.out hb);clear hb c0 c1 c2;cases bp
   ·go_wp2_with fail
    go_roundw
    case rel=>exact ⟨k + 1,by omega,by go_num,Lq (anyTo_snoc HX.out HN.out HBP.out),HB1⟩
    case measure=>simp [intOf]; omega
   ·go_wp2_with fail
    go_ret
    exact ⟨ret_int (idxI_found HX.out HBP.out HN.out).1.symm,HB1.out⟩
  ·go_wp2_with fail
   go_ret
   refine ⟨ret_int (idxI_no ?_).symm,HBR.out⟩;have hn:=HN.out;unfold anyTo at hn;rw [List.take_of_length_le (by omega)] at hn
   exact hn
theorem con_sight (P : SgM → Bool) (A : Option Addr) (ms : List SgM) (B cap : Nat) (v0 v1 : Value) (w : World) (hm : ms.length ≤ maxLen) (hB : B ≤ w.heap.size) (H : RdN 3 encS w B A ms) (hcl : ∀ W m,BW w W → m ∈ ms → Calls Tryz.prog 108 #[sgV m,v0,v1] W (Rt W (.bool (P m)))) :
  Calls Tryz.prog 109 #[.slice A ms.length cap,.func (.func 108) #[] #[v0,v1]] w (Rt w (.bool (anyP P (ms)))):=by
 have HI:=Lq (idx_sight P A ms B cap v0 v1 w hm hB H hcl);clear H hcl;obtain ⟨r,hr⟩:=ex (idxI P ms);rw [hr] at HI;have hd : decide (0 ≤ r) = anyP P ms:=by
  unfold anyP;cases h : ms.any P
  ·rw [← hr,idxI_no h]; rfl
  ·have:=idxI_yes h;rw [hr] at this
   simpa using this
 have HD:=Lq hd;clear hr hd;go_enter Tryz.func109,Tryz.ntmps109
 go_wp2_with fail
 refine HI.out.mono ?_;rintro e w1 ⟨rfl,hb⟩;go_wp2_with fail
 go_ret
 exact ⟨ret_bool HD.out,hb⟩
theorem idx_lost (P : ShM → Bool) (A : Option Addr) (ms : List ShM) (B cap : Nat) (v0 : Value) (w : World) (hm : ms.length ≤ maxLen) (hB : B ≤ w.heap.size) (H : Rd1 encSh w B A ms) (hcl : ∀ W m,BW w W → m ∈ ms → Calls Tryz.prog 75 #[shV m,v0] W (Rt W (.bool (P m)))) :
  Calls Tryz.prog 110 #[.slice A ms.length cap,.func (.func 75) #[] #[v0]] w (Rt w (iv (idxI P (ms)))):=by
 unfold maxLen at hm;have HH:=Lq H;have HCL:=Lq hcl;clear H hcl;go_enter Tryz.func110,Tryz.ntmps110
 go_wp2
 go_loopw [8] (fun i wr=>∃ k : Nat,k ≤ ms.length ∧ i = iv k ∧ Hid (anyTo P ms k = false) ∧ Hid (BW w wr)) (fun i _=>ms.length - (intOf i).toNat)
 case atStart=>exact ⟨0,Nat.zero_le _,rfl,Lq rfl,Lq (belowR _)⟩
 case round =>
  obtain ⟨k,hk,rfl,HN,HBR⟩:=hrel;by_cases hlt : k < ms.length
  ·obtain ⟨m,hx⟩ : ∃ x,ms[k]? = some x:=⟨_,List.getElem?_eq_getElem hlt⟩;obtain ⟨b,off,rfl,_,c0⟩:=(HH.out.below HBR.out hB) k m hx;unfold encSh at c0;have HC:=Lq (HCL.out wr m HBR.out (List.mem_iff_getElem?.2 ⟨k,hx⟩));have HX : Hid (ms[k]? = some m):=Lq hx;clear hx HCL;obtain ⟨bp,hbp⟩:=ex (P m);have HBP:=Lq hbp;simp only [hbp] at HC;clear hbp;go_wp2_with fail
   refine HC.out.mono ?_;rintro e w1 ⟨rfl,hb⟩;have HB1:=Lq (belowT HBR.out hb);clear hb c0;cases bp
   ·go_wp2_with fail
    go_roundw
    case rel=>exact ⟨k + 1,by omega,by go_num,Lq (anyTo_snoc HX.out HN.out HBP.out),HB1⟩
    case measure=>simp [intOf]; omega
   ·go_wp2_with fail
    go_ret
    exact ⟨ret_int (idxI_found HX.out HBP.out HN.out).1.symm,HB1.out⟩
  ·go_wp2_with fail
   go_ret
   refine ⟨ret_int (idxI_no ?_).symm,HBR.out⟩;have hn:=HN.out;unfold anyTo at hn;rw [List.take_of_length_le (by omega)] at hn
   exact hn
theorem con_lost (P : ShM → Bool) (A : Option Addr) (ms : List ShM) (B cap : Nat) (v0 : Value) (w : World) (hm : ms.length ≤ maxLen) (hB : B ≤ w.heap.size) (H : Rd1 encSh w B A ms) (hcl : ∀ W m,BW w W → m ∈ ms → Calls Tryz.prog 75 #[shV m,v0] W (Rt W (.bool (P m)))) :
  Calls Tryz.prog 74 #[.slice A ms.length cap,.func (.func 75) #[] #[v0]] w (Rt w (.bool (anyP P (ms)))):=by
 have HI:=Lq (idx_lost P A ms B cap v0 w hm hB H hcl);clear H hcl;obtain ⟨r,hr⟩:=ex (idxI P ms);rw [hr] at HI;have hd : decide (0 ≤ r) = anyP P ms:=by
  unfold anyP;cases h : ms.any P
  ·rw [← hr,idxI_no h]; rfl
  ·have:=idxI_yes h;rw [hr] at this
   simpa using this
 have HD:=Lq hd;clear hr hd;go_enter Tryz.func74,Tryz.ntmps74
 go_wp2_with fail
 refine HI.out.mono ?_;rintro e w1 ⟨rfl,hb⟩;go_wp2_with fail
 go_ret
 exact ⟨ret_bool HD.out,hb⟩
theorem find49o_any (A : Option Addr) (ms : List HuM) (B cap gh oh : Nat) (s : ByteArray) (w : World) (hB : B ≤ w.heap.size) (hm : ms.length ≤ maxLen) (H : MsRd w B A ms) (hc : w.cell? ⟨gh,oh,none⟩ = some (.slice A ms.length cap)) :
  Calls Tryz.prog 49 #[.pointer (some ⟨gh,oh,none⟩),.string s] w (Rt w (iv (posP (psOf ms) s))):=by
 obtain ⟨W1,hW1⟩:=ex (w.alloc (.cells #[.string s] 9));have hb1 : BW w W1:=by rw [← hW1]; exact belowA (belowR _) _
 have hq : Blk W1 w.heap.size 9 #[.string s]:=by rw [← hW1]; exact Blk.new w 9 _
 have hI:=idx_find (nmB s) A ms B cap (.pointer (some ⟨w.heap.size,0,none⟩)) W1 hm (Nat.le_trans hB hb1.size) (H.below hb1 hB) (fun W m hb _=>find97_any m s _ W ((hq.keep hb).c 0))
 rw [← posP_of] at hI;obtain ⟨r,hr⟩:=ex (posP (psOf ms) s);rw [hr] at hI ⊢;have HI:=Lq hI;have HB1:=Lq hb1;have k0 : W1.cell? ⟨gh,oh,none⟩ = some (.slice A ms.length cap):=keepC hb1 hc;have hlt:=lt_of_cell hc;clear hI hb1 hq hr H hc;go_enter Tryz.func49,Tryz.ntmps49
 go_wp2_with fail
 refine HI.out.mono ?_;rintro e w2 ⟨rfl,hb2⟩;have HB2:=Lq (belowT HB1.out hb2);clear hb2 hW1 k0;go_wp2_with fail
 go_ret
 exact ⟨rfl,HB2.out⟩
def seesV (l : List HuP) (nm : ByteArray) (fr : Int) : Int:=match l.find? (nmB nm) with
 | some p=>if inB p.first p.last fr then p.kind else 0
 | none=>0
theorem seesV_no {l : List HuP} (h : hasP l nm = false) : seesV l nm fr = 0:=by
 unfold seesV;have : l.find? (nmB nm) = none:=by
  rw [List.find?_eq_none];intro p hp hb;exact hasP_false.1 h p hp (nmB_iff.1 hb)
 rw [this]
theorem seesV_at {l : List HuP} {p : HuP} (h : hasP l nm = true) (hp : l[idxP l nm]? = some p) : seesV l nm fr = if inB p.first p.last fr then p.kind else 0:=by
 unfold seesV;obtain ⟨y,hy,hy2⟩:=find_none_of h;rw [hy];rw [hp] at hy2;injection hy2 with hy2
 subst hy2;rfl
theorem sees77_any (A : Option Addr) (ms : List HuM) (cap gh oh : Nat) (nm : ByteArray) (fr : Int) (w : World) (H : SlM w w.heap.size A cap ms) (hc : w.cell? ⟨gh,oh,none⟩ = some (.slice A ms.length cap)) :
  Calls Tryz.prog 77 #[.pointer (some ⟨gh,oh,none⟩),.agg #[.string nm,iv fr]] w (Rt w (iv (seesV (psOf ms) nm fr))):=by
 obtain ⟨W1,hW1⟩:=ex (w.alloc (.cells #[.string nm,iv fr] 158));have b1 : BW w W1:=by rw [← hW1]; exact belowA (belowR _) _
 have q1 : Blk W1 w.heap.size 158 #[.string nm,iv fr]:=by rw [← hW1]; exact Blk.new w 158 _
 obtain ⟨g3,hg3⟩:=ex w.heap.size;rw [hg3] at q1;obtain ⟨r,hr⟩:=ex (posP (psOf ms) nm);have HSL : Hid (∀ W,BW W1 W → SlM W W.heap.size A cap ms):=Lq fun W hb=>let h:=belowT b1 hb; (H.below h (Nat.le_refl _)).more h.size
 have HF : Hid (∀ W,BW W1 W → Calls Tryz.prog 49 #[.pointer (some ⟨gh,oh,none⟩),.string nm] W (Rt W (iv r))):=Lq fun W hb=>by
  have h2:=HSL.out W hb;exact hr ▸ find49o_any A ms W.heap.size cap gh oh nm W (Nat.le_refl _) (Nat.le_trans h2.le h2.max) h2.rd (keepC (belowT b1 hb) hc)
 have HC : Hid (∀ W,BW W1 W → W.cell? ⟨gh,oh,none⟩ = some (.slice A ms.length cap) ∧ W.cell? ⟨g3,0,none⟩ = some (.string nm) ∧ W.cell? ⟨g3,1,none⟩ = some (iv fr)):=Lq fun W hb=>have k:=q1.keep hb; ⟨keepC (belowT b1 hb) hc,k.c 0,k.c 1⟩
 have KR:=Lq hr;have HB1:=Lq b1;have hml : ms.length ≤ 9223372036854775807:=by have:=H.le; have:=H.max; simp only [maxLen] at this; omega
 obtain ⟨x0,x1,x2⟩:=HC.out _ (belowR _);have hlt:=lt_of_cell x0;clear H hc b1 q1 hr;go_enter Tryz.func77,Tryz.ntmps77
 go_wp2_with fail
 refine (HF.out _ (belowR _)).mono ?_;rintro e w2 ⟨rfl,hb⟩;have HB2:=Lq hb;clear hb x0 x1 x2 hlt hW1 hg3;obtain ⟨x0,x1,x2⟩:=HC.out _ HB2.out;have hlt:=lt_of_cell x0;by_cases hh : hasP (psOf ms) nm = true
 ·obtain ⟨hp1,hil,p,hp,_⟩:=posP_at hh;have hsv:=seesV_at (fr:=fr) hh hp;obtain ⟨i,hi⟩:=ex (idxP (psOf ms) nm);rw [hi] at hp1 hil hp;rw [KR.out] at hp1;subst hp1;obtain ⟨m,hm,hmp⟩ : ∃ m,ms[i]? = some m ∧ m.p = p:=by
   rw [List.getElem?_map] at hp;cases hx : ms[i]? with
   | none=>rw [hx] at hp; cases hp
   | some m=>rw [hx] at hp; injection hp with hp; exact ⟨m,rfl,hp⟩
  subst hmp;obtain ⟨b,off,hA,_,_,c0,c1,c2,c3,c4,c5,c6⟩:=(HSL.out w2 HB2.out).rd.at hm;obtain ⟨⟨yn,yk,yf,yl,yon,yw,yz⟩,yA,yc⟩:=m;subst hA;simp only at c0 c1 c2 c3 c4 c5 c6 hsv;obtain ⟨bI,hbI⟩:=ex (inB yf yl fr);rw [hbI] at hsv;have HI : Hid (∀ g W,W.cell? ⟨g,0,none⟩ = some (iv fr) → Calls Tryz.prog 54 #[iv yf,iv yl,.slice (some ⟨g,0,none⟩) 1 1] W (Rt W (.bool (!bI)))):=Lq fun g W hc=>hbI ▸ out_one yf yl fr g W hc (lt_of_cell hc)
  have hi0 : (0 : Int) ≤ (i : Int):=by omega
  have hi1 : (i : Int) < (ms.length : Int):=by have:=(List.getElem?_eq_some_iff.1 hm).1; omega
  have hlt0 : decide ((i : Int) < 0) = false:=by simp
  have HSV:=Lq hsv;have HS : Hid (∀ W,BW w2 W → W.cell? ⟨gh,oh,none⟩ = some (.slice (some ⟨b,off,none⟩) ms.length cap) ∧ W.cell? ⟨g3,1,none⟩ = some (iv fr) ∧ W.cell? ⟨b,off + i * 7 + 1,none⟩ = some (iv yk) ∧ W.cell? ⟨b,off + i * 7 + 2,none⟩ = some (iv yf) ∧ W.cell? ⟨b,off + i * 7 + 3,none⟩ = some (iv yl)):=Lq fun W hb=>⟨keepC hb x0,keepC hb x2,keepC hb c1,keepC hb c2,keepC hb c3⟩
  clear hsv hm hp hh hil hi hbI c0 c4 c5 c6 x1 x2;go_wp2_with fail
  go_region_held3 (fun W=>W.cell? ⟨gh,oh,none⟩ = some (.slice (some ⟨b,off,none⟩) ms.length cap) ∧ W.cell? ⟨g3,1,none⟩ = some (iv fr) ∧ W.cell? ⟨b,off + i * 7 + 1,none⟩ = some (iv yk) ∧ W.cell? ⟨b,off + i * 7 + 2,none⟩ = some (iv yf) ∧ W.cell? ⟨b,off + i * 7 + 3,none⟩ = some (iv yl)) (first | exact HS.out _ (belowT (belowA (belowDr (belowR _)) _) hb7) | exact HS.out _ (belowA (belowDr (belowR _)) _) | exact HS.out _ (belowDr (belowR _))) ((go_at_call 54; ((with_reducible refine (HI.out _ _ (by go_simp)).mono ?_); rintro e w7 ⟨rfl,hb7⟩)))
  have HB7:=Lq (belowT (belowA (belowDr (belowR w2)) (.cells #[iv fr] 3)) hb7);obtain ⟨y0,y2,y3,y4,y5⟩:=HS.out _ HB7.out;have hl7:=lt_of_cell y0;clear hb7 x0 c1 c2 c3 hlt;cases bI with
  | true =>
   go_wp2_with fail
   go_ret
   exact ⟨ret_int HSV.out.symm,belowT HB1.out (belowT HB2.out HB7.out)⟩
  | false =>
   go_wp2_with fail
   go_ret
   exact ⟨ret_int HSV.out.symm,belowT HB1.out (belowT HB2.out HB7.out)⟩
 ·have hr1 : r = -1:=by rw [← KR.out]; exact posP_none (by simpa using hh)
  have HSV:=Lq (seesV_no (fr:=fr) (by simpa using hh : hasP (psOf ms) nm = false))
  subst hr1;clear hh;go_wp2_with fail
  go_quiet (fail)
  rename_i nq;go_wp2_with fail
  go_ret
  exact ⟨ret_int HSV.out.symm,belowT HB1.out (belowT HB2.out (belowN (belowR _) _))⟩
end
theorem wrong108_any (gf gi bs os n cs i : Nat) (s : SgM) (sh : ShM) (w : World) (hf : w.cell? ⟨gf,0,none⟩ = some (.slice (some ⟨bs,os,none⟩) n cs)) (hi : w.cell? ⟨gi,0,none⟩ = some (iv i)) (hn : i < n) (hsh : w.cell? ⟨bs,os + i,none⟩ = some (encSh sh)) (hsl : SlM w w.heap.size sh.A sh.cap sh.ms) :
  Calls Tryz.prog 108 #[sgV s,.pointer (some ⟨gf,0,none⟩),.pointer (some ⟨gi,0,none⟩)] w (Rt w (.bool (seesV (psOf sh.ms) s.nm s.fr != s.kd))):=by
 obtain ⟨nm,fr,kd⟩:=s;obtain ⟨W1,hW1⟩:=ex (w.alloc (.cells #[.string nm,iv fr,iv kd] 75));have b1 : BW w W1:=by rw [← hW1]; exact belowA (belowR _) _
 have q1 : Blk W1 w.heap.size 75 #[.string nm,iv fr,iv kd]:=by rw [← hW1]; exact Blk.new w 75 _
 obtain ⟨g3,hg3⟩:=ex w.heap.size;rw [hg3] at q1;obtain ⟨sv,hsv⟩:=ex (seesV (psOf sh.ms) nm fr);have HSE : Hid (∀ W,BW W1 W → Calls Tryz.prog 77 #[.pointer (some ⟨bs,os + i,none⟩),.agg #[.string nm,iv fr]] W (Rt W (iv sv))):=Lq fun W hb=>hsv ▸ sees77_any sh.A sh.ms sh.cap bs (os + i) nm fr W ((hsl.below (belowT b1 hb) (Nat.le_refl _)).more (belowT b1 hb).size) (keepC (belowT b1 hb) hsh)
 have HS : Hid (∀ W,BW W1 W → W.cell? ⟨gf,0,none⟩ = some (.slice (some ⟨bs,os,none⟩) n cs) ∧ W.cell? ⟨gi,0,none⟩ = some (iv i) ∧ W.cell? ⟨g3,0,none⟩ = some (.string nm) ∧ W.cell? ⟨g3,1,none⟩ = some (iv fr) ∧ W.cell? ⟨g3,2,none⟩ = some (iv kd)):=Lq fun W hb=>have k:=q1.keep hb; ⟨keepC (belowT b1 hb) hf,keepC (belowT b1 hb) hi,k.c 0,k.c 1,k.c 2⟩
 have HB1:=Lq b1;have KSV:=Lq hsv;have hi0 : (0 : Int) ≤ (i : Int):=by omega
 have hi1 : (i : Int) < (n : Int):=by omega
 obtain ⟨x0,x1,x2,x3,x4⟩:=HS.out _ (belowR _);clear hf hi hsh hsl b1 q1 hsv;go_enter Tryz.func108,Tryz.ntmps108
 go_wp2_with fail
 go_region_held3 (fun W=>W.cell? ⟨gf,0,none⟩ = some (.slice (some ⟨bs,os,none⟩) n cs) ∧ W.cell? ⟨gi,0,none⟩ = some (iv i) ∧ W.cell? ⟨g3,0,none⟩ = some (.string nm) ∧ W.cell? ⟨g3,1,none⟩ = some (iv fr) ∧ W.cell? ⟨g3,2,none⟩ = some (iv kd)) (first | exact HS.out _ (undrew0 hb7) | exact HS.out _ (belowDr (belowR _))) ((go_at_call 77; ((with_reducible refine (HSE.out _ (belowDr (belowR _))).mono ?_); rintro e w7 ⟨rfl,hb7⟩)))
 go_wp2_with fail
 go_ret
 refine ⟨ret_bool ?_,belowT HB1.out (undrew0 hb7)⟩;simp only [KSV.out]
theorem lost75_any (s : ShM) (nm : ByteArray) (gn : Nat) (w : World) (hn : w.cell? ⟨gn,0,none⟩ = some (.string nm)) (hsl : SlM w w.heap.size s.A s.cap s.ms) :
  Calls Tryz.prog 75 #[shV s,.pointer (some ⟨gn,0,none⟩)] w (Rt w (.bool (!hasP (psOf s.ms) nm))):=by
 obtain ⟨ms,A,cap⟩:=s;obtain ⟨W1,hW1⟩:=ex (w.alloc (.cells #[.slice A ms.length cap] 109));have b1 : BW w W1:=by rw [← hW1]; exact belowA (belowR _) _
 have q1 : Blk W1 w.heap.size 109 #[.slice A ms.length cap]:=by rw [← hW1]; exact Blk.new w 109 _
 obtain ⟨g2,hg2⟩:=ex w.heap.size;rw [hg2] at q1;obtain ⟨r,hr⟩:=ex (posP (psOf ms) nm);have hd : decide (r < 0) = !hasP (psOf ms) nm:=by
  cases h : hasP (psOf ms) nm with
  | true=>rw [← hr,(posP_at h).1]; simp
  | false=>rw [← hr,posP_none h]; rfl
 have HF : Hid (Calls Tryz.prog 49 #[.pointer (some ⟨g2,0,none⟩),.string nm] W1 (Rt W1 (iv r))):=by
  have h2:=(hsl.below b1 (Nat.le_refl _)).more b1.size;exact Lq (hr ▸ find49_any A ms W1.heap.size cap g2 nm W1 (Nat.le_refl _) (Nat.le_trans h2.le h2.max) h2.rd (q1.c 0))
 have x0:=keepC b1 hn;have hl:=lt_of_cell hn;have HB1:=Lq b1;have HD:=Lq hd;clear hn hsl b1 q1 hr hd;go_enter Tryz.func75,Tryz.ntmps75
 go_wp2_with fail
 refine HF.out.mono ?_;rintro e w2 ⟨rfl,hb⟩;go_wp2_with fail
 go_ret
 exact ⟨ret_bool HD.out,belowT HB1.out hb⟩
theorem Tryz.info109 : (Tryz.prog.info? 109).map (fun i=>(i.zero,i.size,i.bytes)) = some (some (.agg #[.slice none 0 0]),1,24):=by kernel_rfl
def pickSh (shs : List ShM) (ag : List Nat) : List ShM:=ag.filterMap fun i=>shs[i]?
theorem pick_snoc {shs : List ShM} {ag : List Nat} {k i : Nat} {s : ShM} (hk : ag[k]? = some i) (hi : shs[i]? = some s) : pickSh shs (ag.take (k + 1)) = pickSh shs (ag.take k) ++ [s]:=by
 unfold pickSh;rw [List.take_add_one,hk];simp [hi]
theorem pick_mem {shs : List ShM} {ag : List Nat} {s : ShM} (h : s ∈ pickSh shs ag) : s ∈ shs:=by
 unfold pickSh at h;obtain ⟨i,_,hi⟩:=List.mem_filterMap.1 h;exact List.mem_iff_getElem?.2 ⟨i,hi⟩
theorem left73_any (As Ag : Option Addr) (shs : List ShM) (ag : List Nat) (cs cg : Nat) (w : World) (H : ShsRd w w.heap.size As shs) (HG : Rd1 nv w w.heap.size Ag ag)(hag : ag.length ≤ 1000) (hin : ∀ i ∈ ag,i < shs.length) :
  Calls Tryz.prog 73 #[.agg #[.slice As shs.length cs,.slice Ag ag.length cg]] w fun e w'=>∃ v,e = .returned v ∧ w'.ownsRow w.heap.size 109 1 v (pickSh shs ag).length ((pickSh shs ag).map encSh) ∧ BW w w':=by
 obtain ⟨W1,hW1⟩:=ex (w.alloc (.cells #[.slice As shs.length cs,.slice Ag ag.length cg] 148));have b1 : BW w W1:=by rw [← hW1]; exact belowA (belowR _) _
 have q1 : Blk W1 w.heap.size 148 #[.slice As shs.length cs,.slice Ag ag.length cg]:=by rw [← hW1]; exact Blk.new w 148 _
 obtain ⟨g1,hg1⟩:=ex w.heap.size;rw [hg1] at q1;have HH : Hid (∀ W,BW W1 W → ShsRd W W.heap.size As shs):=Lq fun W hb=>let h:=belowT b1 hb; (H.below h (Nat.le_refl _)).more h.size
 have HGG : Hid (∀ W,BW W1 W → Rd1 nv W W.heap.size Ag ag):=Lq fun W hb=>let h:=belowT b1 hb; (HG.below h (Nat.le_refl _)).more h.size
 have HQ:=Lq q1;have HB1:=Lq b1;have HIN:=Lq hin;obtain ⟨i109,hi109,hz1090,hz1091,hz1092⟩:=info_parts Tryz.info109;have x0:=q1.c 0;have x1:=q1.c 1;clear H HG b1 q1 hin;go_enter Tryz.func73,Tryz.ntmps73
 go_wp2_with fail
 clear x0 x1 hW1 hg1;go_loopw [2,8] (fun v i wr=>∃ k : Nat,k ≤ ag.length ∧ i = iv k ∧ Hid (wr.ownsRow W1.heap.size 109 1 v (pickSh shs (ag.take k)).length ((pickSh shs (ag.take k)).map encSh)) ∧ Hid (BW W1 wr)) (fun _ i _=>ag.length - (intOf i).toNat)
 case atStart=>exact ⟨0,Nat.zero_le _,rfl,Lq (World.ownsRow_nil _ _ _ _),Lq (belowR _)⟩
 case round =>
  obtain ⟨k,hk,rfl,HRW,HBR⟩:=hrel;have hk0 : (0 : Int) ≤ (k : Int):=by omega
  by_cases hlt : k < ag.length
  ·obtain ⟨x,hx⟩ : ∃ x,ag[k]? = some x:=⟨_,List.getElem?_eq_getElem hlt⟩;have hxl:=HIN.out x (List.mem_iff_getElem?.2 ⟨k,hx⟩);obtain ⟨s,hs⟩ : ∃ s,shs[x]? = some s:=⟨_,List.getElem?_eq_getElem hxl⟩;obtain ⟨b,off,hA,_,c0⟩:=(HGG.out wr HBR.out) k x hx;obtain ⟨b2,off2,hA2,_,c1⟩:=(HH.out wr HBR.out).rd x s hs;subst hA hA2;have HPS:=Lq (pick_snoc hx hs);have HPL : Hid ((pickSh shs (ag.take k)).length ≤ k):=Lq (by unfold pickSh; exact Nat.le_trans (List.length_filterMap_le _ _) (by rw [List.length_take]; omega))
   have x0:=(HQ.out.keep HBR.out).c 0;have hx0 : (0 : Int) ≤ (x : Int):=by omega
   have hx1 : (x : Int) < (shs.length : Int):=by omega
   have hpl:=HPL.out;have HAL:=Lq (HRW.out.alloc (.cells #[encSh s] 109));clear hx hs;unfold encSh at c1;go_wp2_with (at_builtin; refine wpList_append_own _ rfl _ _ 146 rfl W1.heap.size 109 i109 (.agg #[.slice none 0 0]) 1 24 Tryz.underlying146 hi109 hz1090 hz1091 hz1092 rfl (by decide) _ _ _ rfl HAL.out ⟨wr.heap.size,0,none⟩ 1 1 [encSh s] rfl rfl (one_new _ _ _) ?d2 ?d3 ?d4 ?d5 ?_)
   case d2=>simp [Value.oneCell',encSh]
   case d3=>unfold maxLen; omega
   case d4=>omega
   case d5=>have:=HBR.out.size; (try simp only [World.size_alloc]); omega
   intro v9 w9 hown9 hg9 _;have hb9 : BW W1 w9:=grownB HAL.out hg9 (Nat.le_refl _) (belowA HBR.out _);have HB9:=Lq hb9;have HO9:=Lq hown9;clear hown9 hg9 hb9 c0 c1 x0;go_wp2_with fail
   go_roundw
   case measure=>simp [intOf]; omega
   case rel =>
    refine ⟨k + 1,by omega,by go_num,Lq ?_,HB9⟩
    rw [HPS.out]
    simpa using HO9.out
  ·obtain rfl : k = ag.length:=by omega
   go_wp2_with fail
   go_ret
   refine ⟨_,rfl, ?_,belowT HB1.out HBR.out⟩;have h:=own_base HRW.out HB1.out.size;rw [List.take_of_length_le (Nat.le_refl _)] at h;exact h
end Go.Proofs.YtpgfldcoojfheaaGreatDoor
