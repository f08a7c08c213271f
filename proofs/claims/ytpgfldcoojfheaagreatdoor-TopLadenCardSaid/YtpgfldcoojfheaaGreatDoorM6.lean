/- hull: add and take (printed by mkHP8.py). hull: take. hull: the verbs. hull: a verb looked up. hull: a part that shares no memory. hull: rows of parts whose cells are stored into. hull: what keeps the names of parts while two blocks are written. hull: swap (printed by mkHQ3.py). -/
import Derived.Maps.Own
import Derived.Laws.OwnMore
import Derived.Test.YtpgfldcoojfheaaGreatDoorM0
import Derived.Test.YtpgfldcoojfheaaGreatDoorM5
set_option maxRecDepth 1000000
set_option maxHeartbeats 16000000
namespace Go.Proofs.YtpgfldcoojfheaaGreatDoor
open Go.RowKit
section
variable {cap g : Nat} {W w : World} {A : Option Addr} {ms : List HuM}
theorem onlyAt_trans {X Y : World} (h : OnlyAt W X g) (h' : OnlyAt X Y g) : OnlyAt W Y g :=
 ⟨h'.os.trans h.os,h'.tape.trans h.tape,h'.output.trans h.output,Nat.le_trans h.size h'.size,fun k hk hne=>(h'.block k (Nat.lt_of_lt_of_le hk h.size) hne).trans (h.block k hk hne)⟩
def Keeps (w : World) (g : Nat) (A : Option Addr) (cap : Nat) (ms : List HuM) : Prop:=∀ W,OnlyAt w W g → SlM W W.heap.size A cap ms
theorem Keeps.on (h : Keeps w g A cap ms) (ho : OnlyAt w W g) : Keeps W g A cap ms:=fun X hx=>h X (onlyAt_trans ho hx)
theorem Keeps.below (h : Keeps w g A cap ms) (hb : BW w W) : Keeps W g A cap ms:=h.on (OnlyAt.of_below hb g)
theorem Keeps.sl (h : Keeps w g A cap ms) (hb : BW w W) : SlM W W.heap.size A cap ms:=h W (OnlyAt.of_below hb g)
theorem MOk.only {B : Nat} {m : HuM} (h : MOk w B m) (ho : OnlyAt w W g) (hB : B ≤ g) : MOk W B m:=⟨ho.rd1 h.on hB,h.le,h.cm,h.nm,h.ons,h.sz⟩
theorem Keeps.own {base n : Nat} {v : Value} (h : w.ownsRow base 47 7 v n (ms.flatMap encM)) (hn : n = ms.length) (hg : g < base) (hok : ∀ W,OnlyAt w W g → ∀ m ∈ ms,MOk W W.heap.size m) : ∃ A cap,v = .slice A ms.length cap ∧ Keeps w g A cap ms:=by
 obtain ⟨A,cap,e,_⟩:=SlM.of_own h hn (hok w (OnlyAt.of_below (belowR w) g));refine ⟨A,cap,e,fun W ho=>?_⟩
 obtain ⟨A2,cap2,e2,hs⟩:=SlM.of_own (own_only h ho hg) hn (hok W ho);rw [e] at e2;injection e2 with e3 _ e4
 subst e3 e4;exact hs
def MutPost (ms : List HuM) (c : HcM) (gs : Nat) (w : World) (e : Ending) (w' : World) : Prop:=∃ r : Int,e = .returned (iv r) ∧ OnlyAt w w' gs ∧ (r ≠ 0 → chgP (psOf ms) c.c = none ∧ (c.what = 2 → hasP (psOf ms) c.name = true → r = 9)) ∧ (r = 0 → ∃ out A cap,Blk w' gs 109 #[.slice A out.length cap] ∧ chgP (psOf ms) c.c = some (psOf out) ∧ Keeps w' gs A cap out)
theorem mutNo {c : HcM} {gs : Nat} {w' : World} {r : Int} (h0 : r ≠ 0) (h : chgP (psOf ms) c.c = none) (hb : BW w w') (h9 : c.what = 2 → hasP (psOf ms) c.name = true → r = 9:=by first | exact fun h=>absurd (show (1:Int) = 2 from h) (by decide) | exact fun h=>absurd (show (3:Int) = 2 from h) (by decide)) : MutPost ms c gs w (.returned (iv r)) w':=⟨r,rfl,OnlyAt.of_below hb gs,fun _=>⟨h,h9⟩,fun h1=>absurd h1 h0⟩
theorem add148_any (A : Option Addr) (ms : List HuM) (c : HcM) (B cap gs : Nat) (w : World) (hB : B ≤ gs) (hg : Blk w gs 109 #[.slice A ms.length cap]) (hK : Keeps w gs A cap ms) (hM : MOk w B c.part) (hok : ShipOk (psOf ms)) (hwh : c.what = 1) (hnm : c.name.toList.isEmpty = true) :
  Calls Tryz.prog 148 #[.pointer (some ⟨gs,0,none⟩),cV c] w (MutPost ms c gs w):=by
 have hn12 : ms.length ≤ 12:=by have:=hok.len; simpa using this
 obtain ⟨W1,hW1,hb1,hz1,hq⟩:=cBox w c;have hgl:=hg.lt;have HG:=Lq (hg.keep hb1);have HK:=Lq (hK.below hb1);have HM:=Lq (hM.below hb1 (Nat.le_trans hB (Nat.le_of_lt hgl)));have HB1:=Lq hb1;have HOK:=Lq hok;have hgl1 : gs < W1.heap.size:=by omega
 clear hg hK hM hb1 hok;obtain ⟨what,day,nm,⟨⟨name,kind,first,last,on,wlo,whi⟩,Ao,ca⟩⟩:=c;obtain rfl : what = 1:=hwh;have HNM:=Lq hnm;obtain ⟨gc,hgc⟩:=ex w.heap.size;rw [hgc] at hq;have HS : Hid (∀ W,BW W1 W → W.cell? ⟨gs,0,none⟩ = some (.slice A ms.length cap) ∧ W.cell? ⟨gc,3,none⟩ = some (.string name) ∧ W.cell? ⟨gc,4,none⟩ = some (iv kind) ∧ W.cell? ⟨gc,5,none⟩ = some (iv first) ∧ W.cell? ⟨gc,6,none⟩ = some (iv last) ∧ W.cell? ⟨gc,7,none⟩ = some (.slice Ao on.length ca) ∧ W.cell? ⟨gc,8,none⟩ = some (iv wlo) ∧ W.cell? ⟨gc,9,none⟩ = some (iv whi)):=Lq fun W hb=>have k:=hq.keep hb; ⟨(HG.out.keep hb).c 0,k.c 3,k.c 4,k.c 5,k.c 6,k.c 7,k.c 8,k.c 9⟩
 have HCK : Hid (∀ W,BW W1 W → Calls Tryz.prog 126 #[.pointer (some ⟨gs,0,none⟩),.agg #[.string name,iv kind,iv first,iv last,.slice Ao on.length ca,iv wlo,iv whi],iv ms.length,.slice none 0 0] W (ErrIff (PartOk (HuP.mk name kind first last on wlo whi) (psOf ms) (psOf ms)) W)):=Lq fun W hb=>by
  have hs:=HK.out.sl hb;have h:=check126_any A none ms [] ⟨(HuP.mk name kind first last on wlo whi),Ao,ca⟩ W.heap.size cap 0 gs ms.length W (Nat.le_refl _) hs.rd MsRd.nil ((HM.out.below hb (by omega)).more (Nat.le_trans (by omega) hb.size)) hs.le hs.max (Nat.zero_le _) (Nat.le_refl _) (HS.out W hb).1
  rw [List.take_of_length_le (by simp),show psOf [] = [] from rfl,List.append_nil] at h
  exact h
 have HCL : Hid (∀ W,BW W1 W → Calls Tryz.prog 179 #[.slice A ms.length cap] W (OwnMs ms W)):=Lq fun W hb=>clone179_any A ms W.heap.size cap W (Nat.le_refl _) (HK.out.sl hb) hn12
 obtain ⟨q0,q3,q4,q5,q6,q7,q8,q9⟩:=HS.out _ (belowR W1);have hgw:=hq.lt;clear hq hnm;by_cases h12 : 12 ≤ ms.length
 ·have h12b : (ms.length : Int) ≥ 12:=by omega
  go_enter Tryz.func148,Tryz.ntmps148
  go_wp2_with fail
  go_ret
  exact mutNo (by decide) (chgP_add_no rfl (fun h=>by have:=h.1; simp at this; omega)) HB1.out
 ·have h12b : ¬ (ms.length : Int) ≥ 12:=by omega
  go_enter Tryz.func148,Tryz.ntmps148
  go_wp2_with fail
  go_region_held3 (fun W=>W.cell? ⟨gs,0,none⟩ = some (.slice A ms.length cap) ∧ W.cell? ⟨gc,3,none⟩ = some (.string name) ∧ W.cell? ⟨gc,4,none⟩ = some (iv kind) ∧ W.cell? ⟨gc,5,none⟩ = some (iv first) ∧ W.cell? ⟨gc,6,none⟩ = some (iv last) ∧ W.cell? ⟨gc,7,none⟩ = some (.slice Ao on.length ca) ∧ W.cell? ⟨gc,8,none⟩ = some (iv wlo) ∧ W.cell? ⟨gc,9,none⟩ = some (iv whi)) (first | exact HS.out _ (undrew0 hb5) | exact HS.out _ (belowDr (belowR _))) ((go_at_call 126; ((with_reducible refine (HCK.out _ (belowDr (belowR _))).mono ?_); rintro e w5 ⟨r,rfl,hr,hb5⟩)))
  have HB5:=Lq (undrew0 hb5);have HR:=Lq hr;clear hb5 hr q0 q3 q4 q5 q6 q7 q8 q9;obtain ⟨q0,q3,q4,q5,q6,q7,q8,q9⟩:=HS.out _ HB5.out;by_cases hr0 : r = 0
  ·subst hr0;have HR0:=Lq (HR.out.1 rfl);clear HR;go_wp2_with fail
   go_upto_region 6 with fail
   refine reg148_6 (ms:=ms) (by omega) rfl (HG.out.keep HB5.out) (fun W hb=>HS.out W (belowT HB5.out hb)) ?_ (fun W hb=>HCL.out W (belowT HB5.out hb))
   intro u26 u27 u28 u29 u30 u31 u32 u33 u34 u35 u36 u37 u38 u39 g c W' hown hb;have HO:=Lq hown;have HB:=Lq (belowT HB5.out hb);have hsz5:=HB5.out.size;clear hown hb q0 q3 q4 q5 q6 q7 q8 q9;go_wp2_with fail
   go_ret
   refine ⟨0,rfl,onlyAt_trans (OnlyAt.of_below (belowT HB1.out HB.out) gs) (OnlyAt.of_set (belowR W') gs 0 _),fun h=>absurd rfl h,fun _=>?_⟩
   have hset : OnlyAt W' (W'.setCell ⟨gs,0,none⟩ (.slice (some ⟨g,0,none⟩) (ms.length + 1) c)) gs:=OnlyAt.of_set (belowR W') gs 0 _;have hrow : (W'.setCell ⟨gs,0,none⟩ (.slice (some ⟨g,0,none⟩) (ms.length + 1) c)).ownsRow w5.heap.size 47 7 (.slice (some ⟨g,0,none⟩) (ms.length + 1) c) (ms.length + 1) ((ms ++ [HuM.mk (HuP.mk name kind first last on wlo whi) Ao ca]).flatMap encM):=by
    have:=own_only HO.out hset (by omega)
    simpa [List.flatMap_append,encM] using this
   obtain ⟨A2,cap2,e2,hkp⟩:=Keeps.own (g:=gs) hrow (by simp) (by omega) (fun W ho q hq=>by
    have hall:=onlyAt_trans (onlyAt_trans (OnlyAt.of_below HB.out gs) hset) ho;rcases List.mem_append.1 hq with hq | hq
    ·exact (HK.out W hall).rd.ok q hq
    ·obtain rfl:=List.mem_singleton.1 hq;exact (HM.out.only hall hB).more (Nat.le_trans (by omega) hall.size))
   refine ⟨_,A2,cap2, ?_, ?_,hkp⟩
   ·have hb2:=(HG.out.keep HB.out).set_ 0 (.slice (some ⟨g,0,none⟩) (ms.length + 1) c);simp only [List.setIfInBounds_toArray,List.set_cons_zero] at hb2;rw [← e2];exact hb2
   ·rw [chgP_add_ok rfl HNM.out (by simp; omega) HR0.out,psOf_snoc]; rfl
  ·have hr1 : (r != 0) = true:=by simpa using hr0
   go_wp2_with fail
   go_ret
   exact mutNo hr0 (chgP_add_no rfl (fun h=>hr0 (HR.out.2 h.2))) (belowT HB1.out HB5.out)
end
theorem rdN_only {α : Type} {k : Nat} {enc : α → List Value} {w W : World} {B b off gs : Nat} {xs : List α} (h : RdN k enc w B (some ⟨b,off,none⟩) xs) (ho : OnlyAt w W gs) (hne : b ≠ gs) (hlt : b < W.heap.size) : RdN k enc W W.heap.size (some ⟨b,off,none⟩) xs:=by
 intro i x hx;obtain ⟨b2,off2,e,_,hc⟩:=h i x hx;injection e with e
 injection e with e1 e2
 subst e1 e2;exact ⟨b,off,rfl,hlt,fun j u hu=>ho.cell (hc j u hu) hne⟩
theorem take150_any (A : Option Addr) (ms : List HuM) (c : HcM) (cap gs : Nat) (w : World) (hg : Blk w gs 109 #[.slice A ms.length cap]) (hK : Keeps w gs A cap ms) (hok : ShipOk (psOf ms)) (hwh : c.what = 2) (hbp : bareP c.part.p = true) :
  Calls Tryz.prog 150 #[.pointer (some ⟨gs,0,none⟩),cV c] w (MutPost ms c gs w):=by
 have hn12 : ms.length ≤ 12:=by have:=hok.len; simpa using this
 obtain ⟨W1,hW1,hb1,hz1,hq⟩:=cBox w c;have hgl:=hg.lt;have HG:=Lq (hg.keep hb1);have HK:=Lq (hK.below hb1);have HB1:=Lq hb1;have hgl1 : gs < W1.heap.size:=by omega
 clear hg hK hb1 hok;obtain ⟨what,day,nm,⟨⟨name,kind,first,last,on,wlo,whi⟩,Ao,ca⟩⟩:=c;obtain rfl : what = 2:=hwh;have HBP:=Lq hbp;obtain ⟨gc,hgc⟩:=ex w.heap.size;rw [hgc] at hq;have HS : Hid (∀ W,BW W1 W → W.cell? ⟨gs,0,none⟩ = some (.slice A ms.length cap) ∧ W.cell? ⟨gc,2,none⟩ = some (.string nm) ∧ gc < W.heap.size):=Lq fun W hb=>have k:=hq.keep hb; ⟨(HG.out.keep hb).c 0,k.c 2,k.lt⟩
 obtain ⟨r,hr⟩:=ex (posP (psOf ms) nm);have HF : Hid (∀ W,BW W1 W → Calls Tryz.prog 49 #[.pointer (some ⟨gs,0,none⟩),.string nm] W (Rt W (iv r))):=Lq fun W hb=>hr ▸ find49_any A ms W.heap.size cap gs nm W (Nat.le_refl _) (Nat.le_trans (HK.out.sl hb).le (HK.out.sl hb).max) (HK.out.sl hb).rd (HS.out W hb).1
 obtain ⟨bs,hbs⟩:=ex (anyP (fun q=>standsB q nm) (psOf ms))
 have HT : Hid (∀ W,BW W1 W → Calls Tryz.prog 141 #[.slice A ms.length cap,.func (.func 180) #[] #[.pointer (some ⟨gc,0,none⟩)]] W (Rt W (.bool bs))):=Lq fun W hb=>hbs ▸ con_taken (fun q=>standsB q nm) A ms W.heap.size cap (.pointer (some ⟨gc,0,none⟩)) W (Nat.le_trans (HK.out.sl hb).le (HK.out.sl hb).max) (Nat.le_refl _) (HK.out.sl hb).rd (fun W2 m hb2 hm=>take180_any m nm gc W2.heap.size W2 (Nat.le_refl _) ((HK.out.sl (belowT hb hb2)).rd.ok m hm) (HS.out W2 (belowT hb hb2)).2.1)
 have HCL : Hid (∀ W,BW W1 W → Calls Tryz.prog 179 #[.slice A ms.length cap] W (OwnMs ms W)):=Lq fun W hb=>clone179_any A ms W.heap.size cap W (Nat.le_refl _) (HK.out.sl hb) hn12
 have KR:=Lq hr;have KS:=Lq hbs;obtain ⟨x0,x1,x2⟩:=HS.out _ (belowR W1);clear hq hbp hr hbs;go_enter Tryz.func150,Tryz.ntmps150
 go_wp2_with fail
 refine (HF.out _ (belowR W1)).mono ?_;rintro e w2 ⟨rfl,hb⟩;have HB2:=Lq hb;clear hb hW1 x0 x1 x2;obtain ⟨x0,x1,x2⟩:=HS.out _ HB2.out;by_cases hr0 : r < 0
 ·go_wp2_with fail
  go_ret
  exact mutNo (by decide) (chgP_take_no rfl (fun h=>by have h1:=posP_neg.1 (by rw [KR.out]; exact hr0 : posP (psOf ms) nm < 0); have h2:=h.1; simp only [HcM.c] at h2; rw [h1] at h2; cases h2)) (belowT HB1.out HB2.out) (fun _ hh=>by have h1:=posP_neg.1 (by rw [KR.out]; exact hr0 : posP (psOf ms) nm < 0); simp only at hh; rw [h1] at hh; cases hh)
 ·have hh : hasP (psOf ms) nm = true:=by
   cases h : hasP (psOf ms) nm with
   | true=>rfl
   | false=>have:=posP_neg.2 h; rw [KR.out] at this; exact absurd this hr0
  obtain ⟨hp1,hil,_⟩:=posP_at hh;obtain ⟨i,hi⟩:=ex (idxP (psOf ms) nm);rw [hi] at hp1 hil;have hil2 : i < ms.length:=by simpa using hil
  obtain rfl : r = (i : Int):=by rw [← KR.out]; exact hp1
  have HH:=Lq hh;have HI:=Lq hi;have hi0 : (0 : Int) ≤ (i : Int):=by omega
  clear hh hp1 hil hi;go_wp2_with fail
  refine (HT.out _ HB2.out).mono ?_;rintro e w3 ⟨rfl,hb⟩;have HB3:=Lq (belowT HB2.out hb);clear hb x0 x1 x2;obtain ⟨x0,x1,x2⟩:=HS.out _ HB3.out;cases bs with
  | true =>
   go_wp2_with fail
   go_ret
   exact mutNo (by decide) (chgP_take_no rfl (fun h=>by have h1 : anyP (fun q=>standsB q nm) (psOf ms) = false:=anyP_no.2 h.2; rw [KS.out] at h1; cases h1)) (belowT HB1.out HB3.out) (fun _ _=>rfl)
  | false =>
   go_wp2_with fail
   refine (HCL.out _ HB3.out).mono ?_;rintro e w5 ⟨v5,rfl,ho,hb⟩;have HB5:=Lq (belowT HB3.out hb);obtain ⟨g,c5,rfl,hgb,hgl5,hc5⟩:=own_form ho (by omega)
   have hgs : gs < g:=Nat.lt_of_lt_of_le (Nat.lt_of_lt_of_le hgl1 HB3.out.size) hgb;have hcm : c5 ≤ maxLen:=by
    obtain ⟨A9,c9,h1,_,_,h2,h3⟩:=own_rdN encM_len ho;injection h1 with _ _ h1
    subst h1;exact h3
   have HD:=Lq (del181_any ms _ g c5 i w5 ho hil2 hn12);have hg3 : w3.heap.size ≤ g:=hgb;clear hb ho x0 x1 x2;obtain ⟨x0,x1,x2⟩:=HS.out _ HB5.out;go_wp2_with fail
   refine HD.out.mono ?_;rintro e w6 ⟨rfl,ho6,hr6⟩;have hb6 : BW W1 w6:=ho6.below HB5.out (Nat.le_trans HB3.out.size hg3);have HB6:=Lq hb6;have HR6:=Lq hr6;have hgl6 : g < w6.heap.size:=Nat.lt_of_lt_of_le hgl5 ho6.size;have bg:=HG.out.keep hb6;have x0':=bg.c 0;have xf:=bg.frozen 0;have xl:=bg.lt;clear ho6 hr6 hb6 bg x0 x1 x2;go_wp2_with fail
   go_ret
   have hset : OnlyAt w6 (w6.setCell ⟨gs,0,none⟩ (.slice (some ⟨g,0,none⟩) (ms.length - 1) c5)) gs:=OnlyAt.of_set (belowR w6) gs 0 _;have hel : (ms.eraseIdx i).length = ms.length - 1:=List.length_eraseIdx_of_lt hil2;refine ⟨0,rfl,onlyAt_trans (OnlyAt.of_below (belowT HB1.out HB6.out) gs) hset,fun h=>absurd rfl h,fun _=>⟨ms.eraseIdx i,some ⟨g,0,none⟩,c5, ?_, ?_, ?_⟩⟩
   ·have hb2:=(HG.out.keep HB6.out).set_ 0 (.slice (some ⟨g,0,none⟩) (ms.length - 1) c5);simp only [List.setIfInBounds_toArray,List.set_cons_zero] at hb2;rw [hel];exact hb2
   ·rw [chgP_take_ok rfl HBP.out HH.out (anyP_no.1 KS.out),erase_map,← HI.out]; rfl
   ·intro W ho;have hall:=onlyAt_trans (onlyAt_trans (OnlyAt.of_below HB6.out gs) hset) ho;have hl : g < W.heap.size:=Nat.lt_of_lt_of_le hgl6 (onlyAt_trans hset ho).size;refine ⟨⟨rdN_only HR6.out (onlyAt_trans hset ho) (by omega) hl,fun q hq=>(HK.out W hall).rd.ok q (List.mem_of_mem_eraseIdx hq)⟩,by omega,hcm,fun h=>(by cases h),fun a ha=>?_⟩
    injection ha with ha
    subst ha;exact ⟨rfl,hl⟩
theorem verb147_any (c : HcM) (w : World) : Calls Tryz.prog 147 #[cV c] w (Rt w (.bool c.name.toList.isEmpty)):=by
 obtain ⟨what,day,nm,⟨⟨name,kind,first,last,on,wlo,whi⟩,Ao,ca⟩⟩:=c;go_enter Tryz.func147,Tryz.ntmps147
 go_wp2
 go_ret
 exact ⟨ret_bool rfl,belowA (belowR _) _⟩
theorem verb151_any (c : HcM) (w : World) : Calls Tryz.prog 151 #[cV c] w (Rt w (.bool true)):=by
 obtain ⟨what,day,nm,⟨⟨name,kind,first,last,on,wlo,whi⟩,Ao,ca⟩⟩:=c;go_enter Tryz.func151,Tryz.ntmps151
 go_wp2
 go_ret
 exact ⟨rfl,belowA (belowR _) _⟩
theorem plain70_any (m : HuM) (w : World) : Calls Tryz.prog 70 #[mV m] w (Rt w (.agg #[.string m.p.name,iv m.p.kind,iv m.p.first,iv m.p.last,iv m.p.wlo,iv m.p.whi])):=by
 obtain ⟨⟨name,kind,first,last,on,wlo,whi⟩,Ao,ca⟩:=m;go_enter Tryz.func70,Tryz.ntmps70
 go_wp2
 exact bodyPost_ret (v:=.agg #[.string name,iv kind,iv first,iv last,iv wlo,iv whi]) (by simp [results,Tryz.results70,go_sem]) rfl ⟨rfl,belowA (belowA (belowR _) _) _⟩
theorem verb149_any (c : HcM) (w : World) (hM : c.part.p.on.length ≤ maxLen) : Calls Tryz.prog 149 #[cV c] w (Rt w (.bool (bareP c.part.p))):=by
 obtain ⟨what,day,nm,⟨⟨name,kind,first,last,on,wlo,whi⟩,Ao,ca⟩⟩:=c;have hon : on.length ≤ 9223372036854775807:=by simp only [maxLen] at hM; omega
 clear hM;have HP:=Lq (fun W=>plain70_any ⟨⟨name,kind,first,last,on,wlo,whi⟩,Ao,ca⟩ W)
 go_enter Tryz.func149,Tryz.ntmps149
 go_wp2_with fail
 refine (HP.out _).mono ?_;rintro e w2 ⟨rfl,hb⟩;obtain ⟨hc,hf⟩:=bcell hb;have HB:=Lq (belowT (belowA (belowR w) _) hb);clear hb;go_wp2
 all_goals
  go_ret
  exact ⟨ret_bool (by simp_all [bareP] <;> (rw [Bool.eq_iff_iff]; simp)),HB.out⟩
def verbV (f : Nat) : Value:=.agg #[.func (.func f) #[] #[],.func (.func (f + 1)) #[] #[]]
open Classical in
noncomputable def verbR : Value → Option (DataW Unit × List MemPlace)
 | .agg cs=>match cs.toList with
  | [.func (.func f) _ _,_]=>if cs = #[.func (.func f) #[] #[],.func (.func (f + 1)) #[] #[]] then some (.lit (.int .i64 f),[]) else none
  | _=>none
 | _=>none
theorem verbR_mk (f : Nat) : verbR (verbV f) = some (.lit (.int .i64 f),[]):=by simp [verbR,verbV]
def verbD : DataW Unit:=(((DataW.map []).put (.int .i64 1) (.lit (.int .i64 147))).put (.int .i64 2) (.lit (.int .i64 149))).put (.int .i64 3) (.lit (.int .i64 151))
def VerbsAt (w : World) (b : Nat) : Prop:=w.ownsMap Tryz.prog 3 verbR b 3 verbD
theorem Tryz.law3 : Maps.Keyed Tryz.prog 3:=Maps.int_keyed Tryz.underlying3
theorem verbs127_any (w : World) : Calls Tryz.prog 127 #[] w fun e w'=>∃ b,e = .returned (.map (some b)) ∧ VerbsAt w' b ∧ Below w.heap.size w w' ∧ w.heap.size ≤ b:=by
 have hmm:=@run_makeMap Tryz.prog;have h0:=World.ownsMap_made w Tryz.prog 3 verbR;obtain ⟨w1,hr1,h1,g1⟩:=h0.update (t:=212) Tryz.law3 Tryz.underlying212 (by unfold maxLen; omega) (key:=iv 1) (val:=verbV 147) (Maps.keyOf_int_mk Tryz.underlying3 (by decide)) (verbR_mk 147)
 obtain ⟨w2,hr2,h2,g2⟩:=h1.update (t:=212) Tryz.law3 Tryz.underlying212 (by unfold maxLen; omega) (key:=iv 2) (val:=verbV 149) (Maps.keyOf_int_mk Tryz.underlying3 (by decide)) (verbR_mk 149)
 obtain ⟨w3,hr3,h3,g3⟩:=h2.update (t:=212) Tryz.law3 Tryz.underlying212 (by unfold maxLen; omega) (key:=iv 3) (val:=verbV 151) (Maps.keyOf_int_mk Tryz.underlying3 (by decide)) (verbR_mk 151)
 have HB : Hid (BW w w3):=Lq (((((belowA (belowR w) (.map #[] 0)).grown g1 (by simp) (fun k hk=>by injection hk with hk; omega)).grown g2 ((by have:=g1.size; simp at this; omega)) (fun k hk=>by injection hk with hk; omega)).grown g3 ((by have:=g1.size; have:=g2.size; simp at *; omega)) (fun k hk=>by injection hk with hk; omega)))
 have H3:=Lq h3;simp only [verbV] at hr1 hr2 hr3;clear h0 h1 h2 h3 g1 g2 g3;go_enter Tryz.func127,Tryz.ntmps127
 go_wp2
 go_ret
 exact ⟨_,rfl,H3.out,HB.out,Nat.le_refl _⟩
section
variable {b f : Nat} {n : Int} {w : World}
theorem Tryz.zero216 (w : World) : (zeroValue 216).run Tryz.prog w = .ok (.agg #[.nilFunc,.nilFunc]) w:=by kernel_rfl
theorem verb_one (zd : DataW Unit) : verbD.atKey (.int .i64 1) zd = .lit (.int .i64 147):=by rfl
theorem verb_two (zd : DataW Unit) : verbD.atKey (.int .i64 2) zd = .lit (.int .i64 149):=by rfl
theorem verb_three (zd : DataW Unit) : verbD.atKey (.int .i64 3) zd = .lit (.int .i64 151):=by rfl
theorem verb_none (n : Int) (zd : DataW Unit) (h1 : n ≠ 1) (h2 : n ≠ 2) (h3 : n ≠ 3) : verbD.atKey (.int .i64 n) zd = zd:=by
 have hD : verbD = .map [(.int .i64 1,.lit (.int .i64 147)),(.int .i64 2,.lit (.int .i64 149)),(.int .i64 3,.lit (.int .i64 151))]:=by rfl
 rw [hD];simp [DataW.atKey,Lit.sameKey,Ne.symm h1,Ne.symm h2,Ne.symm h3]
theorem verbR_inv {v : Value} {y : DataW Unit × List MemPlace} (h : verbR v = some y) (hy : y.1 = .lit (.int .i64 f)) : v = verbV f:=by
 unfold verbR at h;split at h
 ·rename_i cs;split at h
  ·rename_i g a b c heq;split at h
   ·rename_i hcs;injection h with h
    subst h;simp at hy;have hgf : g = f:=Int.ofNat.inj hy;subst hgf;rw [hcs]; rfl
   ·cases h
  ·cases h
 ·cases h
theorem look_yes (h : VerbsAt w b) (hn : Lit.wf (.int .i64 n) = true) (hat : ∀ zd,verbD.atKey (.int .i64 n) zd = .lit (.int .i64 f)) : (Instr.lookup 212 (.map (some b)) (.int .i64 n) true).run Tryz.prog w = .ok (.tuple #[verbV f,.bool true]) w:=by
 obtain ⟨es,clock,hb,F,_,hD⟩:=h;rcases Maps.fit_look true Tryz.law3 Tryz.underlying212 (Tryz.zero216 w) hb F (Maps.keyOf_int_mk Tryz.underlying3 hn) with ⟨hrun,_,hz⟩ | ⟨e0,y,_,_,hrun,hR,hz,_⟩
 ·exfalso;have h1:=hz .nil;rw [← hD,hat] at h1;cases h1
 ·have h1:=hz .nil;rw [← hD,hat] at h1;rw [hrun,verbR_inv hR h1.symm];rfl
theorem look_no (h : VerbsAt w b) (hn : Lit.wf (.int .i64 n) = true) (h1 : n ≠ 1) (h2 : n ≠ 2) (h3 : n ≠ 3) : (Instr.lookup 212 (.map (some b)) (.int .i64 n) true).run Tryz.prog w = .ok (.tuple #[.agg #[.nilFunc,.nilFunc],.bool false]) w:=by
 obtain ⟨es,clock,hb,F,_,hD⟩:=h;rcases Maps.fit_look true Tryz.law3 Tryz.underlying212 (Tryz.zero216 w) hb F (Maps.keyOf_int_mk Tryz.underlying3 hn) with ⟨hrun,_,hz⟩ | ⟨e0,y,_,_,hrun,hR,hz,_⟩
 ·rw [hrun]; rfl
 ·exfalso;have a:=hz .nil;have b:=hz (.lit (.bool true));rw [← hD,verb_none n _ h1 h2 h3] at a b;rw [← a] at b;cases b
end
def FreshPost (m : HuM) (w : World) (e : Ending) (w' : World) : Prop:=∃ A c,e = .returned (.agg #[.string m.p.name,iv m.p.kind,iv m.p.first,iv m.p.last,.slice A m.p.on.length c,iv m.p.wlo,iv m.p.whi]) ∧ OwnOn w' ⟨m.p,A,c⟩ ∧ w'.ownsRow w.heap.size 9 1 (.slice A m.p.on.length c) m.p.on.length (m.p.on.map .string) ∧ Below w.heap.size w w'
theorem fresh48_any (m : HuM) (B : Nat) (w : World) (hB : B ≤ w.heap.size) (hM : MOk w B m) : Calls Tryz.prog 48 #[mV m] w (FreshPost m w):=by
 obtain ⟨W1,hW1,hb1,hz1,hq⟩:=mBox w m;obtain ⟨W2,hW2⟩:=ex (W1.alloc (.cells #[.string ⟨#[]⟩,.int .i64 0,.int .i64 0,.int .i64 0,.slice none 0 0,.int .i64 0,.int .i64 0] 47));have hb2 : BW W1 W2:=by rw [← hW2]; exact belowA (belowR _) _
 have hq2 : Blk W2 W1.heap.size 47 #[.string ⟨#[]⟩,.int .i64 0,.int .i64 0,.int .i64 0,.slice none 0 0,.int .i64 0,.int .i64 0]:=by rw [← hW2]; exact Blk.new W1 47 _
 have hb12:=belowT hb1 hb2;have HC:=Lq (clone95_any m.A m.p.on B m.cap W2 (Nat.le_trans hB hb12.size) (hM.on.below hb12 hB) hM.sz);have HNM:=Lq hM.nm;have HON:=Lq hM.ons;have HSZ:=Lq hM.sz;have HB:=Lq hb12;have HX:=Lq (hq.keep hb2);have HY:=Lq hq2;obtain ⟨⟨name,kind,first,last,on,wlo,whi⟩,Ao,ca⟩:=m;obtain ⟨k0,k1,k2,k3,k4,k5,k6⟩:=HX.out.c7;obtain ⟨gx,hgx⟩:=ex w.heap.size;obtain ⟨gy,hgy⟩:=ex W1.heap.size;rw [hgx] at HX k0 k1 k2 k3 k4 k5 k6;rw [hgy] at HY;have hne : gx ≠ gy:=by omega
 have hgy3 : w.heap.size ≤ gy:=by omega
 have hgw : gx < W2.heap.size:=HX.out.lt;have hgy2 : gy < W2.heap.size:=HY.out.lt;clear hM hb1 hb2 hq2 hb12 hq hz1;go_enter Tryz.func48,Tryz.ntmps48
 go_wp2_with fail
 refine HC.out.mono ?_;rintro e w3 ⟨v,rfl,ho,hb⟩;obtain ⟨A5,c5,rfl⟩:=own_slice ho;have HO:=Lq ho;have HB3:=Lq (belowT HB.out hb);have hx3:=HX.out.keep hb;have hy3:=HY.out.keep hb;have hsz3:=hb.size;clear hb ho hW1 hW2 k0 k1 k2 k3 k4 k5 k6;have k4:=hx3.c 4;have f4:=hx3.frozen 4;have l4:=hx3.lt;have l5:=hy3.lt;obtain ⟨W4,hW4⟩:=ex (w3.setCell ⟨gx,4,none⟩ (.slice A5 on.length c5));have hx4 : Blk W4 gx 47 #[.string name,iv kind,iv first,iv last,.slice A5 on.length c5,iv wlo,iv whi]:=by
  have h:=hx3.set_ 4 (.slice A5 on.length c5);simp only [List.setIfInBounds_toArray,List.set_cons_zero,List.set_cons_succ] at h;rw [← hW4]; exact h
 have hy4 : Blk W4 gy 47 #[.string ⟨#[]⟩,.int .i64 0,.int .i64 0,.int .i64 0,.slice none 0 0,.int .i64 0,.int .i64 0]:=by
  rw [← hW4]; exact hy3.far (p:=⟨gx,4,none⟩) (by simp only; omega) _
 have o4 : OnlyAt w3 W4 gx:=by rw [← hW4]; exact OnlyAt.of_set (belowR w3) gx 4 _
 obtain ⟨k0,k1,k2,k3,k44,k5,k6⟩:=hx4.c7;obtain ⟨y0,y1,y2,y3,y4,y5,y6⟩:=hy4.c7;obtain ⟨e0,e1,e2,e3,e4,e5,e6⟩:=(⟨hy4.frozen 0,hy4.frozen 1,hy4.frozen 2,hy4.frozen 3,hy4.frozen 4,hy4.frozen 5,hy4.frozen 6⟩ : _ ∧ _ ∧ _ ∧ _ ∧ _ ∧ _ ∧ _);have m4:=hx4.lt;have m5:=hy4.lt;obtain ⟨W5,hW5⟩:=ex (((((((W4.setCell ⟨gy,0,none⟩ (.string name)).setCell ⟨gy,1,none⟩ (iv kind)).setCell ⟨gy,2,none⟩ (iv first)).setCell ⟨gy,3,none⟩ (iv last)).setCell ⟨gy,4,none⟩ (.slice A5 on.length c5)).setCell ⟨gy,5,none⟩ (iv wlo)).setCell ⟨gy,6,none⟩ (iv whi));have hy5 : Blk W5 gy 47 #[.string name,iv kind,iv first,iv last,.slice A5 on.length c5,iv wlo,iv whi]:=by rw [← hW5]; exact seven _ _ _ _ _ _ _ hy4
 have o5 : OnlyAt W4 W5 gy:=by rw [← hW5]; exact ((((((((OnlyAt.of_below (belowR W4) gy).set 0 _).set 1 _).set 2 _).set 3 _).set 4 _).set 5 _).set 6 _)
 obtain ⟨d0,d1,d2,d3,d4,d5,d6⟩:=hy5.c7;have hge : W2.heap.size ≤ w3.heap.size:=hsz3;have hrow : W5.ownsRow W2.heap.size 9 1 (.slice A5 on.length c5) on.length (on.map .string):=own_only (own_only HO.out o4 (by omega)) o5 (by omega)
 have HROW:=Lq hrow;have hbel : BW w W5:=o5.below (o4.below HB3.out (Nat.le_of_eq hgx)) hgy3;have HBEL:=Lq hbel;have hwz : w.heap.size ≤ W2.heap.size:=HB.out.size;clear hx3 hy3 hx4 hy4 hy5 o4 o5 hrow hbel;go_wp2_with fail
 exact bodyPost_ret (v:=.agg #[.string name,iv kind,iv first,iv last,.slice A5 on.length c5,iv wlo,iv whi]) (by simp [results,Tryz.results48,go_sem,d0,d1,d2,d3,d4,d5,d6]) rfl ⟨A5,c5,rfl,⟨own_zero HROW.out,HNM.out,HON.out,HSZ.out⟩,own_base HROW.out hwz,HBEL.out⟩
theorem flat_set7 : ∀ (L : List HuM) (d : Nat) (m : HuM),d < L.length → (((((((L.flatMap encM).set (d * 7) (.string m.p.name)).set (d * 7 + 1) (iv m.p.kind)).set (d * 7 + 2) (iv m.p.first)).set (d * 7 + 3) (iv m.p.last)).set (d * 7 + 4) (.slice m.A m.p.on.length m.cap)).set (d * 7 + 5) (iv m.p.wlo)).set (d * 7 + 6) (iv m.p.whi) = (L.set d m).flatMap encM:=by
 intro L;induction L with
 | nil=>intro d m h; simp at h
 | cons a L ih =>
  intro d m h;cases d with
  | zero=>simp [encM]
  | succ d =>
   have:=ih d m (by simpa using h)
   simp only [List.flatMap_cons,List.set_cons_succ,← this];simp only [show (d + 1) * 7 = (encM a).length + d * 7 by rw [encM_len]; omega,Nat.add_assoc]
   simp only [List.set_append_right _ _ (Nat.le_add_right _ _),Nat.add_sub_cancel_left]
theorem flat_set4 : ∀ (L : List HuM) (d : Nat) (q : HuM) (on : List ByteArray) (A : Option Addr) (c : Nat),L[d]? = some q → on.length = q.p.on.length → (L.flatMap encM).set (d * 7 + 4) (.slice A q.p.on.length c) = (L.set d ⟨{ q.p with on:=on },A,c⟩).flatMap encM:=by
 intro L;induction L with
 | nil=>intro d q on A c h; simp at h
 | cons a L ih =>
  intro d q on A c h hl;cases d with
  | zero =>
   simp at h;subst h;simp [encM,hl]
  | succ d =>
   have:=ih d q on A c (by simpa using h) hl
   simp only [List.flatMap_cons,List.set_cons_succ,← this];rw [show (d + 1) * 7 + 4 = (encM a).length + (d * 7 + 4) by rw [encM_len]; omega,List.set_append_right _ _ (Nat.le_add_right _ _),Nat.add_sub_cancel_left]
section
variable {V W w : World} {a b base cap g gs : Nat} {L : List HuM}
structure Kept2 (V w : World) (a b : Nat) : Prop where
 os : w.os = V.os
 tape : w.tape = V.tape
 output : w.output = V.output
 size : V.heap.size ≤ w.heap.size
 block : ∀ k,k < V.heap.size → k ≠ a → k ≠ b → w.heap[k]? = V.heap[k]?
theorem Kept2.of_below (h : BW V w) : Kept2 V w a b:=⟨h.os,h.tape,h.output,h.size,fun k hk _ _=>h.block k hk⟩
theorem Kept2.of_only (h : OnlyAt V w a) : Kept2 V w a b:=⟨h.os,h.tape,h.output,h.size,fun k hk hne _=>h.block k hk hne⟩
theorem Kept2.of_only2 (h : OnlyAt V w b) : Kept2 V w a b:=⟨h.os,h.tape,h.output,h.size,fun k hk _ hne=>h.block k hk hne⟩
theorem Kept2.trans {x : World} (h : Kept2 V w a b) (h' : Kept2 w x a b) : Kept2 V x a b :=
 ⟨h'.os.trans h.os,h'.tape.trans h.tape,h'.output.trans h.output,Nat.le_trans h.size h'.size,fun k hk h1 h2=>(h'.block k (Nat.lt_of_lt_of_le hk h.size) h1 h2).trans (h.block k hk h1 h2)⟩
def NmOk (w : World) (a b : Nat) (m : HuM) : Prop:=∀ W,Kept2 w W a b → MOk W W.heap.size m
theorem NmOk.kept {m : HuM} (h : NmOk w a b m) (hk : Kept2 w W a b) : NmOk W a b m:=fun X hx=>h X (hk.trans hx)
theorem NmOk.of_keeps {A : Option Addr} {ms : List HuM} {m : HuM} (h : Keeps w gs A cap ms) (hb : BW w W) (hg : w.heap.size ≤ g) (hm : m ∈ ms) : NmOk W g gs m:=fun X hx=>by
 have ho : OnlyAt w X gs:=⟨hx.os.trans hb.os,hx.tape.trans hb.tape,hx.output.trans hb.output,Nat.le_trans hb.size hx.size,fun k hk hne=>(hx.block k (Nat.lt_of_lt_of_le hk hb.size) (by omega) hne).trans (hb.block k hk)⟩
 exact (h X ho).rd.ok m hm
theorem NmOk.of_ok {B : Nat} {m : HuM} (h : MOk w B m) (hB : B ≤ gs) (hg : B ≤ g) (hw : B ≤ w.heap.size) : NmOk w g gs m:=fun X hx=>by
 have hb : Below B w X:=⟨hx.os,hx.tape,hx.output,hx.size,fun k hk=>hx.block k (by omega) (by omega) (by omega)⟩
 exact (h.below hb (Nat.le_refl _)).more (Nat.le_trans hw hx.size)
theorem NmOk.of_own {m : HuM} (h : OwnOn w m) (h1 : ∀ k,(Value.slice m.A m.p.on.length m.cap).ownBlock = some k → k ≠ g ∧ k ≠ gs) : NmOk w g gs m:=fun X hx=>by
 have ho : X.ownsRow 0 9 1 (.slice m.A m.p.on.length m.cap) m.p.on.length (m.p.on.map .string):=ownKeep h.ow fun k hk=>hx.block k (h.ow.lt k hk).2 (h1 k hk).1 (h1 k hk).2
 exact OwnOn.ok ⟨ho,h.nm,h.ons,h.sz⟩
theorem setRow7 (h : w.ownsRow base 47 7 (.slice (some ⟨g,0,none⟩) L.length cap) L.length (L.flatMap encM)) (d : Nat) (m : HuM) (hd : d < L.length) :
  (((((((w.setCell ⟨g,d * 7,none⟩ (.string m.p.name)).setCell ⟨g,d * 7 + 1,none⟩ (iv m.p.kind)).setCell ⟨g,d * 7 + 2,none⟩ (iv m.p.first)).setCell ⟨g,d * 7 + 3,none⟩ (iv m.p.last)).setCell ⟨g,d * 7 + 4,none⟩ (.slice m.A m.p.on.length m.cap)).setCell ⟨g,d * 7 + 5,none⟩ (iv m.p.wlo)).setCell ⟨g,d * 7 + 6,none⟩ (iv m.p.whi)).ownsRow base 47 7 (.slice (some ⟨g,0,none⟩) L.length cap) L.length ((L.set d m).flatMap encM):=by
 rw [← flat_set7 L d m hd];exact ((((((((h.stored (d * 7) _).1.stored (d * 7 + 1) _).1.stored (d * 7 + 2) _).1.stored (d * 7 + 3) _).1.stored (d * 7 + 4) _).1.stored (d * 7 + 5) _).1.stored (d * 7 + 6) _).1)
theorem setRow4 (h : w.ownsRow base 47 7 (.slice (some ⟨g,0,none⟩) L.length cap) L.length (L.flatMap encM)) {d : Nat} {q : HuM} (hq : L[d]? = some q) (on : List ByteArray) (A : Option Addr) (c : Nat) (hl : on.length = q.p.on.length) :
  (w.setCell ⟨g,d * 7 + 4,none⟩ (.slice A q.p.on.length c)).ownsRow base 47 7 (.slice (some ⟨g,0,none⟩) L.length cap) L.length ((L.set d ⟨{ q.p with on:=on },A,c⟩).flatMap encM):=by
 rw [← flat_set4 L d q on A c hq hl];exact (h.stored (d * 7 + 4) _).1
end
section
variable {n s : ByteArray} {k : Nat}
theorem swap_head (l : List HuP) (p : Nat) (s : ByteArray) (x : HuP) (hp : p < l.length) : (swapP l p s x).take (p + 1) = l.take p ++ [x]:=by
 unfold swapP;have h : (l.take p).length = p:=by rw [List.length_take]; omega
 rw [List.take_append,h,show p + 1 - p = 1 by omega,List.take_take,Nat.min_eq_right (by omega)]
 rfl
theorem set_split (l : List HuP) (p : Nat) (x : HuP) (hp : p < l.length) : l.set p x = l.take p ++ [x] ++ l.drop (p + 1):=by
 rw [List.set_eq_take_append_cons_drop,if_pos hp];simp
theorem set_same {α : Type} {l : List α} {i : Nat} {x : α} (h : l[i]? = some x) : l.set i x = l:=by
 obtain ⟨h1,rfl⟩:=List.getElem?_eq_some_iff.1 h;exact List.set_getElem_self h1
theorem swap_set {l : List ByteArray} {r : Int} (hd : (l.map ByteArray.toList).Nodup) (hr : strI l s = r) (h0 : ¬ r < 0) : ∃ k : Nat,r = (k : Int) ∧ k < l.length ∧ l.map (swapS s n) = l.set k n:=by
 unfold strI idxI at hr;by_cases hl : l.findIdx (fun o=>eqS s o) < l.length
 ·rw [if_pos hl] at hr;refine ⟨_,hr.symm,hl,List.ext_getElem? fun i=>?_⟩
  have hk : eqS s (l[l.findIdx (fun o=>eqS s o)]) = true:=List.findIdx_getElem (w:=hl)
  rw [List.getElem?_map,List.getElem?_set];by_cases hi : l.findIdx (fun o=>eqS s o) = i
  ·subst hi;rw [if_pos rfl,if_pos hl,List.getElem?_eq_getElem hl];simp only [Option.map_some,swapS];rw [eqS_comm,if_pos hk]
  ·rw [if_neg hi];cases hx : l[i]? with
   | none=>rfl
   | some o =>
    simp only [Option.map_some,swapS];rw [if_neg];intro he;obtain ⟨h2,h3⟩:=List.getElem?_eq_some_iff.1 hx;have h1 : (l.map ByteArray.toList)[l.findIdx (fun o=>eqS s o)]'(by simpa using hl) = (l.map ByteArray.toList)[i]'(by simpa using h2):=by
     rw [List.getElem_map,List.getElem_map,h3];exact (eqS_iff.1 hk).symm.trans (eqS_iff.1 he).symm
    have hh : l.findIdx (fun o=>eqS s o) < (l.map ByteArray.toList).length:=by rw [List.length_map]; exact hl
    exact hi ((List.getElem?_inj hh hd).1 (by rw [List.getElem?_eq_getElem hh,List.getElem?_eq_getElem (by rw [List.length_map]; exact h2),h1]))
 ·rw [if_neg hl] at hr;omega
theorem psOf_set (ms : List HuM) (p : Nat) (m : HuM) : psOf (ms.set p m) = (psOf ms).set p m.p:=by simp only [psOf,List.map_set]
theorem swapO_id {q : HuP} (h : standsB q s = false) : swapO s n q = q:=by
 unfold swapO;have : q.on.map (swapS s n) = q.on:=by
  refine (List.map_congr_left (fun o ho=>?_)).trans (List.map_id _)
  unfold swapS;rw [if_neg]
  ·rfl
  ·intro he;exact stands_false h o ho (eqS_iff.1 he)
 rw [this]
theorem swap_next {l M : List HuP} {p : Nat} {x q : HuP} (hp : p < l.length) (hk : p < k) (hq : l[k]? = some q) (hM : M = (swapP l p s x).take k ++ l.drop k) : M[k]? = some q ∧ (swapP l p s x).take (k + 1) ++ l.drop (k + 1) = M.set k (swapO s x.name q):=by
 obtain ⟨hl,e⟩:=List.getElem?_eq_some_iff.1 hq;have hT:=swapP_gt (s:=s) (x:=x) hp hq hk;have hlen : ((swapP l p s x).take k).length = k:=by rw [List.length_take,swapP_len hp]; omega
 have hd : l.drop k = q::l.drop (k + 1):=by rw [List.drop_eq_getElem_cons hl,e]
 subst hM;refine ⟨by rw [List.getElem?_append_right (by omega),hlen,Nat.sub_self,hd]; rfl, ?_⟩
 rw [List.set_append_right _ _ (by omega),hlen,Nat.sub_self,hd,List.set_cons_zero,List.take_add_one,hT]
 simp
theorem msrd_drop {w : World} {B cap : Nat} {A : Option Addr} {ms : List HuM} (h : SlM w B A cap ms) : MsRd w B (if cap = k then A else A.map fun x=>x.add (k * 7)) (ms.drop k):=by
 refine ⟨?_,fun m hm=>h.rd.ok m (List.mem_of_mem_drop hm)⟩
 cases A with
 | none =>
  have : ms = []:=List.length_eq_zero_iff.1 (by have:=h.le; have:=h.nil0 rfl; omega)
  subst this;simp only [List.drop_nil];exact RdN.nil
 | some a =>
  by_cases hc : cap = k
  ·have : ms.drop k = []:=List.drop_eq_nil_of_le (by have:=h.le; omega)
   rw [this];exact RdN.nil
  ·rw [if_neg hc];obtain ⟨hs,_⟩:=h.off a rfl;obtain ⟨b,off,sp⟩:=a;simp only at hs;subst hs;have:=RdN.drop h.rd.rd k
   simpa [add_off] using this
theorem swap152_any (A : Option Addr) (ms : List HuM) (c : HcM) (B cap gs : Nat) (w : World) (hB : B ≤ gs) (hg : Blk w gs 109 #[.slice A ms.length cap]) (hK : Keeps w gs A cap ms) (hM : MOk w B c.part) (hok : ShipOk (psOf ms)) (hwh : c.what = 3) :
  Calls Tryz.prog 152 #[.pointer (some ⟨gs,0,none⟩),cV c] w (MutPost ms c gs w):=by
 have hn12 : ms.length ≤ 12:=by have:=hok.len; simpa using this
 obtain ⟨W1,hW1,hb1,hz1,hq⟩:=cBox w c;have hgl:=hg.lt;have HG:=Lq (hg.keep hb1);have HK:=Lq (hK.below hb1);have HM:=Lq (hM.below hb1 (Nat.le_trans hB (Nat.le_of_lt hgl)));have HB1:=Lq hb1;have HOK:=Lq hok;have hgl1 : gs < W1.heap.size:=by omega
 clear hg hK hM hb1 hok;obtain ⟨what,day,nm,⟨⟨name,kind,first,last,on,wlo,whi⟩,Ao,ca⟩⟩:=c;obtain rfl : what = 3:=hwh;obtain ⟨gc,hgc⟩:=ex w.heap.size;rw [hgc] at hq;have HCB : Hid (∀ W,BW W1 W → Blk W gc 49 #[iv 3,iv day,.string nm,.string name,iv kind,iv first,iv last,.slice Ao on.length ca,iv wlo,iv whi]):=Lq fun W hb=>hq.keep hb
 have HS : Hid (∀ W,BW W1 W → W.cell? ⟨gs,0,none⟩ = some (.slice A ms.length cap) ∧ W.cell? ⟨gc,3,none⟩ = some (.string name) ∧ W.cell? ⟨gc,4,none⟩ = some (iv kind) ∧ W.cell? ⟨gc,5,none⟩ = some (iv first) ∧ W.cell? ⟨gc,6,none⟩ = some (iv last) ∧ W.cell? ⟨gc,7,none⟩ = some (.slice Ao on.length ca) ∧ W.cell? ⟨gc,8,none⟩ = some (iv wlo) ∧ W.cell? ⟨gc,9,none⟩ = some (iv whi)):=Lq fun W hb=>have k:=hq.keep hb; ⟨(HG.out.keep hb).c 0,k.c 3,k.c 4,k.c 5,k.c 6,k.c 7,k.c 8,k.c 9⟩
 obtain ⟨r,hr⟩:=ex (posP (psOf ms) nm);have HF : Hid (∀ W,BW W1 W → Calls Tryz.prog 49 #[.pointer (some ⟨gs,0,none⟩),.string nm] W (Rt W (iv r))):=Lq fun W hb=>hr ▸ find49_any A ms W.heap.size cap gs nm W (Nat.le_refl _) (Nat.le_trans (HK.out.sl hb).le (HK.out.sl hb).max) (HK.out.sl hb).rd (HS.out W hb).1
 have HCL : Hid (∀ W,BW W1 W → Calls Tryz.prog 179 #[.slice A ms.length cap] W (OwnMs ms W)):=Lq fun W hb=>clone179_any A ms W.heap.size cap W (Nat.le_refl _) (HK.out.sl hb) hn12
 have KR:=Lq hr;have hcm : cap ≤ maxLen:=(HK.out.sl (belowR W1)).max;have hcl : ms.length ≤ cap:=(HK.out.sl (belowR W1)).le;have hca9 : cap ≤ 9223372036854775807:=by simp only [maxLen] at hcm; omega
 obtain ⟨x0,x3,x4,x5,x6,x7,x8,x9⟩:=HS.out _ (belowR W1);have x2:=(HCB.out _ (belowR W1)).c 2;have xl:=(HCB.out _ (belowR W1)).lt;clear hq hr;go_enter Tryz.func152,Tryz.ntmps152
 go_wp2_with fail
 refine (HF.out _ (belowR W1)).mono ?_;rintro e w2 ⟨rfl,hb⟩;have HB2:=Lq hb;clear hb hW1 x0 x2 x3 x4 x5 x6 x7 x8 x9 xl;obtain ⟨x0,x3,x4,x5,x6,x7,x8,x9⟩:=HS.out _ HB2.out;have x2:=(HCB.out _ HB2.out).c 2;have xl:=(HCB.out _ HB2.out).lt;by_cases hr0 : r < 0
 ·go_wp2_with fail
  go_ret
  exact mutNo (by decide) (chgP_swap_no rfl (fun h=>by have h1:=posP_neg.1 (by rw [KR.out]; exact hr0 : posP (psOf ms) nm < 0); have h2:=h.1; simp only [HcM.c] at h2; rw [h1] at h2; cases h2)) (belowT HB1.out HB2.out)
 ·have hh : hasP (psOf ms) nm = true:=by
   cases h : hasP (psOf ms) nm with
   | true=>rfl
   | false=>have:=posP_neg.2 h; rw [KR.out] at this; exact absurd this hr0
  obtain ⟨hp1,hil,yp,hyp,hyn⟩:=posP_at hh;obtain ⟨p,hp⟩:=ex (idxP (psOf ms) nm);rw [hp] at hp1 hil hyp;have hp2 : p < ms.length:=by simpa using hil
  obtain rfl : r = (p : Int):=by rw [← KR.out]; exact hp1
  have HH:=Lq hh;have HI:=Lq hp;have hp0 : (0 : Int) ≤ (p : Int):=by omega
  have hp3 : (p : Int) + 1 ≤ (ms.length : Int):=by omega
  have hp4 : (p : Int) + 1 ≤ (cap : Int):=by omega
  have hw : IntKind.i64.wrap ((p : Int) + 1) = (p : Int) + 1:=by rw [IntKind.wrap_i64]; omega
  have hng : ¬ ((p : Int) + 1 < 0):=by omega
  have htn : ((p : Int) + 1).toNat = p + 1:=by omega
  obtain ⟨A2,hA2⟩:=ex (if cap = p + 1 then A else A.map fun x=>x.add ((p + 1) * 7))
  have HCK : Hid (∀ W,BW W1 W → Calls Tryz.prog 126 #[.pointer (some ⟨gs,0,none⟩),.agg #[.string name,iv kind,iv first,iv last,.slice Ao on.length ca,iv wlo,iv whi],iv p,.slice A2 (ms.length - (p + 1)) (cap - (p + 1))] W (ErrIff (PartOk (HuP.mk name kind first last on wlo whi) ((psOf ms).take p) ((psOf ms).eraseIdx p)) W)):=Lq fun W hb=>by
   have hs:=HK.out.sl hb;have hdl : (ms.drop (p + 1)).length = ms.length - (p + 1):=List.length_drop;have h:=check126_any A (if cap = p + 1 then A else A.map fun x=>x.add ((p + 1) * 7)) ms (ms.drop (p + 1)) ⟨(HuP.mk name kind first last on wlo whi),Ao,ca⟩ W.heap.size cap (cap - (p + 1)) gs p W (Nat.le_refl _) hs.rd (msrd_drop hs) ((HM.out.below hb (by omega)).more (Nat.le_trans (by omega) hb.size)) hs.le hs.max (by rw [hdl]; unfold maxLen; omega) (Nat.le_of_lt hp2) (HS.out W hb).1
   rw [hdl,show psOf (ms.drop (p + 1)) = (psOf ms).drop (p + 1) by simp only [psOf,List.map_drop],← List.eraseIdx_eq_take_drop_succ,hA2] at h
   exact h
  clear hh hp1 hil hp;go_wp2_with fail
  go_region_held3 (fun W=>W.cell? ⟨gs,0,none⟩ = some (.slice A ms.length cap) ∧ W.cell? ⟨gc,3,none⟩ = some (.string name) ∧ W.cell? ⟨gc,4,none⟩ = some (iv kind) ∧ W.cell? ⟨gc,5,none⟩ = some (iv first) ∧ W.cell? ⟨gc,6,none⟩ = some (iv last) ∧ W.cell? ⟨gc,7,none⟩ = some (.slice Ao on.length ca) ∧ W.cell? ⟨gc,8,none⟩ = some (iv wlo) ∧ W.cell? ⟨gc,9,none⟩ = some (iv whi)) (first | exact HS.out _ (belowT HB2.out (undrew0 hb5)) | exact HS.out _ (belowT HB2.out (belowDr (belowR _)))) ((go_at_call 126; ((with_reducible refine (HCK.out _ (belowT HB2.out (belowDr (belowR _)))).mono ?_); rintro e w5 ⟨r5,rfl,hr5,hb5⟩)))
  have HB5:=Lq (belowT HB2.out (undrew0 hb5));have HR:=Lq hr5;clear hb5 hr5 x0 x2 x3 x4 x5 x6 x7 x8 x9 xl hw hA2;obtain ⟨x0,x3,x4,x5,x6,x7,x8,x9⟩:=HS.out _ HB5.out;by_cases hr50 : r5 = 0
  ·subst hr50;have HPO:=Lq (HR.out.1 rfl);clear HR;go_wp2_with fail
   refine (HCL.out _ HB5.out).mono ?_;rintro e w6 ⟨v6,rfl,ho,hb⟩;obtain ⟨g,c6,rfl,hgb,hgl6,hc6⟩:=own_form ho (by omega)
   have HB6:=Lq (belowT HB5.out hb);have hgs : gs < g:=Nat.lt_of_lt_of_le (Nat.lt_of_lt_of_le hgl1 HB5.out.size) hgb;have hgW1 : W1.heap.size ≤ g:=Nat.le_trans HB5.out.size hgb;have hcm6 : c6 ≤ maxLen:=by
    obtain ⟨A9,c9,h1,_,_,h2,h3⟩:=own_rdN encM_len ho;injection h1 with _ _ h1
    subst h1;exact h3
   have hc69 : c6 ≤ 9223372036854775807:=by simp only [maxLen] at hcm6; omega
   obtain ⟨old,hold⟩ : ∃ x,ms[p]? = some x:=⟨_,List.getElem?_eq_getElem hp2⟩;have hcell : ∀ j u,(encM old)[j]? = some u → w6.cell? ⟨g,p * 7 + j,none⟩ = some u:=fun j u hu=>by
    have h1:=flat_get encM_len ms p old hold j u hu;have h2:=ho.cellAt (p * 7 + j) (by have:=(List.getElem?_eq_some_iff.1 h1).1; rw [flat_len encM_len] at this; exact this)
    rw [h2,h1]
   have hfz : ∀ j,w6.frozen? ⟨g,j,none⟩ = false:=fun j=>ho.frozenAt j
   have y0 : w6.cell? ⟨g,p * 7,none⟩ = some (.string old.p.name):=hcell 0 _ rfl;obtain ⟨y1,y2,y3,y4,y5,y6⟩ : _ ∧ _ ∧ _ ∧ _ ∧ _ ∧ _:=⟨hcell 1 _ rfl,hcell 2 _ rfl,hcell 3 _ rfl,hcell 4 _ rfl,hcell 5 _ rfl,hcell 6 _ rfl⟩;obtain ⟨f0,f1,f2,f3,f4,f5,f6⟩ : _ ∧ _ ∧ _ ∧ _ ∧ _ ∧ _ ∧ _:=⟨hfz (p * 7),hfz (p * 7 + 1),hfz (p * 7 + 2),hfz (p * 7 + 3),hfz (p * 7 + 4),hfz (p * 7 + 5),hfz (p * 7 + 6)⟩;have hrow:=setRow7 ho p ⟨(HuP.mk name kind first last on wlo whi),Ao,ca⟩ hp2;obtain ⟨W7,hW7⟩:=ex (((((((w6.setCell ⟨g,p * 7,none⟩ (.string name)).setCell ⟨g,p * 7 + 1,none⟩ (iv kind)).setCell ⟨g,p * 7 + 2,none⟩ (iv first)).setCell ⟨g,p * 7 + 3,none⟩ (iv last)).setCell ⟨g,p * 7 + 4,none⟩ (.slice Ao on.length ca)).setCell ⟨g,p * 7 + 5,none⟩ (iv wlo)).setCell ⟨g,p * 7 + 6,none⟩ (iv whi));have ho7 : OnlyAt w6 W7 g:=by rw [← hW7]; exact ((((((((OnlyAt.of_below (belowR w6) g).set (p * 7) _).set (p * 7 + 1) _).set (p * 7 + 2) _).set (p * 7 + 3) _).set (p * 7 + 4) _).set (p * 7 + 5) _).set (p * 7 + 6) _)
   simp only [hW7] at hrow;have HROW:=Lq hrow;have HB7:=Lq (ho7.below HB6.out hgW1);have HN7 : Hid (∀ m ∈ ms.set p ⟨(HuP.mk name kind first last on wlo whi),Ao,ca⟩,NmOk W7 g gs m):=Lq fun m hm=>by
    rcases List.mem_or_eq_of_mem_set hm with hm | rfl
    ·exact (NmOk.of_keeps HK.out HB6.out hgW1 hm).kept (Kept2.of_only ho7)
    ·exact NmOk.of_ok (HM.out.below HB7.out (by omega)) hB (by omega) (Nat.le_trans (by omega) HB7.out.size)
   have HPS7 : Hid (psOf (ms.set p ⟨(HuP.mk name kind first last on wlo whi),Ao,ca⟩) = (swapP (psOf ms) p nm (HuP.mk name kind first last on wlo whi)).take (p + 1) ++ (psOf ms).drop (p + 1)):=Lq (by rw [psOf_set,set_split _ _ _ (by simpa using hp2),swap_head _ _ _ _ (by simpa using hp2)])
   obtain ⟨A3,hA3⟩:=ex (if c6 = p + 1 then some (⟨g,0,none⟩ : Addr) else some ⟨g,(p + 1) * 7,none⟩)
   have hp6 : (p : Int) + 1 ≤ (c6 : Int):=by omega
   clear hcell hfz ho hb hrow ho7 hold hyp x0 x3 x4 x5 x6 x7 x8 x9;obtain ⟨x0,x3,x4,x5,x6,x7,x8,x9⟩:=HS.out _ HB6.out;go_wp2_with fail
   have HK9:=Lq hgW1;clear y0 y1 y2 y3 y4 y5 y6 f0 f1 f2 f3 f4 f5 f6 x0 x3 x4 x5 x6 x7 x8 x9 hW7 hA3;go_loopw [49] (fun i wr=>∃ (j : Nat) (L : List HuM),j ≤ ms.length - (p + 1) ∧ i = iv j ∧ Hid (L.length = ms.length) ∧ Hid (psOf L = (swapP (psOf ms) p nm (HuP.mk name kind first last on wlo whi)).take (p + 1 + j) ++ (psOf ms).drop (p + 1 + j)) ∧ Hid (wr.ownsRow w5.heap.size 47 7 (.slice (some ⟨g,0,none⟩) ms.length c6) ms.length (L.flatMap encM)) ∧ Hid (∀ m ∈ L,NmOk wr g gs m) ∧ Hid (∀ d q,p < d → d < p + 1 + j → (psOf ms)[d]? = some q → standsB q nm = true → meetB q (HuP.mk name kind first last on wlo whi) = true) ∧ Hid (BW W1 wr)) (fun i _=>ms.length - (p + 1) - (intOf i).toNat)
   case atStart=>exact ⟨0,ms.set p ⟨(HuP.mk name kind first last on wlo whi),Ao,ca⟩,Nat.zero_le _,rfl,Lq (by simp),Lq (by simpa using HPS7.out),Lq HROW.out,Lq HN7.out,Lq (fun d q h1 h2=>by omega),HB7⟩
   case round =>
    obtain ⟨j,L,hj,rfl,HLL,HPS,HRW,HNM,HMT,HBR⟩:=hrel;have hj0 : (0 : Int) ≤ (j : Int):=by omega
    by_cases hlt : j < ms.length - (p + 1)
    ·have hd2 : p + 1 + j < ms.length:=by omega
     obtain ⟨q,hq⟩ : ∃ q,L[p + 1 + j]? = some q:=⟨_,List.getElem?_eq_getElem (by rw [HLL.out]; omega)⟩
     obtain ⟨qp,hqp⟩ : ∃ x,(psOf ms)[p + 1 + j]? = some x:=⟨_,List.getElem?_eq_getElem (by simpa using hd2)⟩
     obtain ⟨hMk,hnext⟩:=swap_next (k:=p + 1 + j) (by simpa using hp2) (by omega) hqp HPS.out
     have hqq : q.p = qp:=by rw [ps_at hq] at hMk; injection hMk
     subst hqq;have hcell : ∀ i u,(encM q)[i]? = some u → wr.cell? ⟨g,(p + 1 + j) * 7 + i,none⟩ = some u:=fun i u hu=>by
      have h1:=flat_get encM_len L (p + 1 + j) q hq i u hu;have h2:=HRW.out.cellAt ((p + 1 + j) * 7 + i) (by have:=(List.getElem?_eq_some_iff.1 h1).1; rw [flat_len encM_len,HLL.out] at this; exact this)
      rw [h2,h1]
     have hmq:=HNM.out q (List.mem_iff_getElem?.2 ⟨_,hq⟩) wr (Kept2.of_below (belowR wr));have hix:=fun W (hb : BW wr W)=>index120_any q.A q.p.on wr.heap.size q.cap nm W (Nat.le_trans hmq.le hmq.cm) (hmq.on.below hb (Nat.le_refl _))
     have hdec:=strI_dec q.p.on nm;have HQ:=Lq hq;have HQP:=Lq hqp;have HNX:=Lq hnext;have HMQ:=Lq hmq;have HMK:=Lq hMk;obtain ⟨⟨yn,yk,yf,yl,yon,yw,yz⟩,yA,yc⟩:=q;have y0 : wr.cell? ⟨g,(p + 1 + j) * 7,none⟩ = some (.string yn):=hcell 0 _ rfl;obtain ⟨y1,y2,y3,y4,y5,y6⟩ : _ ∧ _ ∧ _ ∧ _ ∧ _ ∧ _:=⟨hcell 1 _ rfl,hcell 2 _ rfl,hcell 3 _ rfl,hcell 4 _ rfl,hcell 5 _ rfl,hcell 6 _ rfl⟩;simp only at y1 y2 y3 y4 y5 y6 hix hdec;obtain ⟨rk,hrk⟩:=ex (strI yon nm);rw [hrk] at hix hdec;have HIX:=Lq hix;have HRK:=Lq hrk;obtain ⟨bs,hbs⟩:=ex (standsB (HuP.mk yn yk yf yl yon yw yz) nm);have hdec2 : decide (0 ≤ rk) = bs:=by rw [hdec,← hbs]; rfl
     have HBS:=Lq hbs;have x2:=(HCB.out _ HBR.out).c 2;obtain ⟨x0,x3,x4,x5,x6,x7,x8,x9⟩:=HS.out _ HBR.out;have xl:=(HCB.out _ HBR.out).lt;have hpj : (p : Int) + 1 + (j : Int) < (ms.length : Int):=by omega
     clear hcell hix hrk hbs hdec hq hqp hnext hmq hMk;cases bs
     ·have hr3 : rk < 0:=by simpa using hdec2
      clear hdec2;go_wp2_with fail
      go_quiet ((go_at_call 120; exact Calls.quiet_of_same (HIX.out _ (belowN (belowR _) _))))
      clear y0 y1 y2 y3 y4 y5 y6 x0 x2 x3 x4 x5 x6 x7 x8 x9 xl;go_wp2_with fail
      go_roundw
      case rel =>
       refine ⟨j + 1,L,by omega,by go_num,HLL,Lq ?_,Lq ?_,Lq (fun m hm=>(HNM.out m hm).kept (Kept2.of_below (belowN (belowR _) _))),Lq (fun d q h1 h2 h3 h4=>?_),Lq (belowN HBR.out _)⟩
       ·rw [← Nat.add_assoc,HNX.out,swapO_id HBS.out];exact (set_same HMK.out).symm
       ·exact own_below HRW.out (belowN (belowR _) _)
       ·rcases Nat.lt_or_ge d (p + 1 + j) with h5 | h5
        ·exact HMT.out d q h1 h5 h3 h4
        ·obtain rfl : d = p + 1 + j:=by omega
         rw [HQP.out] at h3;injection h3 with h3
         subst h3;rw [HBS.out] at h4;cases h4
      case measure=>simp [intOf]; omega
     ·have hr3 : ¬ rk < 0:=by have:=of_decide_eq_true hdec2; omega
      clear hdec2;obtain ⟨bm,hbm⟩:=ex (meetB (HuP.mk yn yk yf yl yon yw yz) (HuP.mk name kind first last on wlo whi));have HM46 : Hid (∀ W,Calls Tryz.prog 146 #[.agg #[.string yn,iv yk,iv yf,iv yl,.slice yA yon.length yc,iv yw,iv yz],.agg #[.string name,iv kind,iv first,iv last,.slice Ao on.length ca,iv wlo,iv whi]] W (Rt W (.bool bm))):=Lq fun W=>hbm ▸ meet146_any ⟨⟨yn,yk,yf,yl,yon,yw,yz⟩,yA,yc⟩ ⟨(HuP.mk name kind first last on wlo whi),Ao,ca⟩ W
      have HBM:=Lq hbm;have HSY : Hid (∀ W,BW wr W → W.cell? ⟨g,(p + 1 + j) * 7,none⟩ = some (.string yn) ∧ W.cell? ⟨g,(p + 1 + j) * 7 + 1,none⟩ = some (iv yk) ∧ W.cell? ⟨g,(p + 1 + j) * 7 + 2,none⟩ = some (iv yf) ∧ W.cell? ⟨g,(p + 1 + j) * 7 + 3,none⟩ = some (iv yl) ∧ W.cell? ⟨g,(p + 1 + j) * 7 + 4,none⟩ = some (.slice yA yon.length yc) ∧ W.cell? ⟨g,(p + 1 + j) * 7 + 5,none⟩ = some (iv yw) ∧ W.cell? ⟨g,(p + 1 + j) * 7 + 6,none⟩ = some (iv yz) ∧ W.cell? ⟨gc,3,none⟩ = some (.string name) ∧ W.cell? ⟨gc,4,none⟩ = some (iv kind) ∧ W.cell? ⟨gc,5,none⟩ = some (iv first) ∧ W.cell? ⟨gc,6,none⟩ = some (iv last) ∧ W.cell? ⟨gc,7,none⟩ = some (.slice Ao on.length ca) ∧ W.cell? ⟨gc,8,none⟩ = some (iv wlo) ∧ W.cell? ⟨gc,9,none⟩ = some (iv whi)):=Lq fun W hb=>⟨keepC hb y0,keepC hb y1,keepC hb y2,keepC hb y3,keepC hb y4,keepC hb y5,keepC hb y6,keepC hb x3,keepC hb x4,keepC hb x5,keepC hb x6,keepC hb x7,keepC hb x8,keepC hb x9⟩
      clear hbm;go_wp2_with fail
      go_quiet ((go_at_call 120; exact Calls.quiet_of_same (HIX.out _ (belowN (belowR _) _))))
      go_wp2_with fail
      go_region_held3 (fun W=>W.cell? ⟨g,(p + 1 + j) * 7,none⟩ = some (.string yn) ∧ W.cell? ⟨g,(p + 1 + j) * 7 + 1,none⟩ = some (iv yk) ∧ W.cell? ⟨g,(p + 1 + j) * 7 + 2,none⟩ = some (iv yf) ∧ W.cell? ⟨g,(p + 1 + j) * 7 + 3,none⟩ = some (iv yl) ∧ W.cell? ⟨g,(p + 1 + j) * 7 + 4,none⟩ = some (.slice yA yon.length yc) ∧ W.cell? ⟨g,(p + 1 + j) * 7 + 5,none⟩ = some (iv yw) ∧ W.cell? ⟨g,(p + 1 + j) * 7 + 6,none⟩ = some (iv yz) ∧ W.cell? ⟨gc,3,none⟩ = some (.string name) ∧ W.cell? ⟨gc,4,none⟩ = some (iv kind) ∧ W.cell? ⟨gc,5,none⟩ = some (iv first) ∧ W.cell? ⟨gc,6,none⟩ = some (iv last) ∧ W.cell? ⟨gc,7,none⟩ = some (.slice Ao on.length ca) ∧ W.cell? ⟨gc,8,none⟩ = some (iv wlo) ∧ W.cell? ⟨gc,9,none⟩ = some (iv whi)) (first | exact HSY.out _ (belowT (belowN (belowR _) _) (undrew0 hb5)) | exact HSY.out _ (belowT (belowN (belowR _) _) (belowDr (belowR _)))) ((go_at_call 146; ((with_reducible refine (HM46.out _).mono ?_); rintro e w8 ⟨rfl,hb5⟩)))
      have HB8:=Lq (belowT (belowN (belowR wr) _) (undrew0 hb5));clear hb5;cases bm
      ·go_wp2_with fail
       go_ret
       exact mutNo (by decide) (chgP_swap_no rfl (fun h=>by
        have h1:=h.2.2 (HuP.mk yn yk yf yl yon yw yz) (by simp only [HcM.c,HI.out]; exact List.mem_iff_getElem?.2 ⟨j,by rw [List.getElem?_drop]; exact HQP.out⟩) HBS.out
        simp only [HcM.c] at h1;rw [HBM.out] at h1;cases h1)) (belowT HB1.out (belowT HBR.out HB8.out))
      ·have hM8:=(HMQ.out.below HB8.out (Nat.le_refl _));have HCN : Hid (∀ W,BW w8 W → Calls Tryz.prog 95 #[.slice yA yon.length yc] W (OwnSs yon W)):=Lq fun W hb=>clone95_any yA yon w8.heap.size yc W hb.size ((hM8.more HB8.out.size).on.below hb (Nat.le_refl _)) HMQ.out.sz
       obtain ⟨y0,y1,y2,y3,y4,y5,y6,x3,x4,x5,x6,x7,x8,x9⟩:=HSY.out _ HB8.out;clear hM8;go_wp2_with fail
       refine (HCN.out _ (belowR _)).mono ?_;rintro e w9 ⟨v9,rfl,ho9,hb9⟩;have HB9:=Lq (belowT HB8.out hb9);have hdupq : (yon.map ByteArray.toList).Nodup:=(HOK.out.part _ _ HQP.out).dup;obtain ⟨rn,hrn,hrl,hsw⟩:=swap_set (n:=name) hdupq HRK.out (Int.not_lt.2 hr3);subst hrn;have HSW:=Lq hsw;obtain ⟨k,c9,rfl,hk8,hk9,hkc⟩:=own_form ho9 (by omega)
       have hwk : wr.heap.size ≤ k:=Nat.le_trans HB8.out.size hk8;have hgr : g < wr.heap.size:=by
        have h1:=(HRW.out.lt g rfl).2;exact h1
       have hgk : g < k:=by omega
       have hc9m : c9 ≤ 9223372036854775807:=by
        obtain ⟨A9,c99,h1,_,_,h3⟩:=own_str ho9;injection h1 with _ _ h1
        subst h1;simp only [maxLen] at h3;omega
       have hr9:=own_below HRW.out HB9.out;rw [← HLL.out] at hr9;have hf9:=hr9.frozenAt ((p + 1 + j) * 7 + 4);have hr10:=setRow4 hr9 HQ.out (yon.set rn name) (some ⟨k,0,none⟩) c9 (by simp)
       have hg9 : g < w9.heap.size:=Nat.lt_of_lt_of_le hgr HB9.out.size;obtain ⟨W10,hW10⟩:=ex (w9.setCell ⟨g,(p + 1 + j) * 7 + 4,none⟩ (.slice (some ⟨k,0,none⟩) yon.length c9));have o10 : OnlyAt w9 W10 g:=by rw [← hW10]; exact OnlyAt.of_set (belowR w9) g _ _
       simp only [hW10] at hr10;rw [HLL.out] at hr10;have hk10:=own_only ho9 o10 (by have:=HB8.out.size; omega)
       have hkf:=hk10.frozenAt rn;obtain ⟨xk,hxk⟩ : ∃ x,W10.cell? ⟨k,rn,none⟩ = some x:=⟨_,(hk10.cellAt rn (by omega)).trans (List.getElem?_eq_getElem (by rw [List.length_map]; exact hrl))⟩
       have hk11:=(hk10.stored rn (.string name)).1;have hs10:=o10.size;have hy10 : W10.cell? ⟨g,(p + 1 + j) * 7 + 4,none⟩ = some (.slice (some ⟨k,0,none⟩) yon.length c9):=by
        have h1:=flat_get encM_len _ (p + 1 + j) _ (List.getElem?_set_self (l:=L) (a:=⟨HuP.mk yn yk yf yl (yon.set rn name) yw yz,some ⟨k,0,none⟩,c9⟩) (by rw [HLL.out]; omega)) 4 _ rfl
        have h2:=hr10.cellAt ((p + 1 + j) * 7 + 4) (by have:=(List.getElem?_eq_some_iff.1 h1).1; rw [flat_len encM_len,List.length_set,HLL.out] at this; exact this)
        rw [h2,h1];simp
       have hx10:=keepC hb9 x3;have hy9:=keepC hb9 y4;have hfk : W10.frozen? ⟨k,rn,none⟩ = false:=hkf;have hgc1 : gc < g:=by omega
       have hxx : W10.cell? ⟨gc,3,none⟩ = some (.string name):=by rw [← hW10]; exact (World.cell?_setCell_far w9 ⟨g,(p + 1 + j) * 7 + 4,none⟩ ⟨gc,3,none⟩ _ (Nat.ne_of_gt hgc1)).trans hx10
       have hk10l : k < W10.heap.size:=by omega
       go_wp2_with fail
       go_region
       go_wp2_with fail
       go_roundw
       case measure=>simp [intOf]; omega
       case rel =>
        have o11 : OnlyAt W10 (W10.setCell ⟨k,rn,none⟩ (.string name)).drew k:=(OnlyAt.of_set (belowR W10) k rn _).drew;have hb11:=own_below hk11 (belowDr (belowR _));have hkp : Kept2 wr (W10.setCell ⟨k,rn,none⟩ (.string name)).drew g gs:=⟨o11.os.trans (o10.os.trans HB9.out.os),o11.tape.trans (o10.tape.trans HB9.out.tape),o11.output.trans (o10.output.trans HB9.out.output),Nat.le_trans HB9.out.size (Nat.le_trans o10.size o11.size),fun i hi ha hb=>(o11.block i (Nat.lt_of_lt_of_le hi (Nat.le_trans HB9.out.size o10.size)) (by omega)).trans ((o10.block i (Nat.lt_of_lt_of_le hi HB9.out.size) ha).trans (HB9.out.block i hi))⟩
        refine ⟨j + 1,L.set (p + 1 + j) ⟨HuP.mk yn yk yf yl (yon.set rn name) yw yz,some ⟨k,0,none⟩,c9⟩,by omega,by go_num,Lq (by rw [List.length_set]; exact HLL.out),Lq ?_,Lq ?_,Lq ?_,Lq (fun d q h1 h2 h3 h4=>?_),Lq ?_⟩
        ·rw [← Nat.add_assoc,HNX.out,psOf_set];simp only [swapO,HSW.out]
        ·exact o11.own hr10 (by simp only [Value.ownBlock]; intro h; injection h with h; omega)
        ·intro m hm;rcases List.mem_or_eq_of_mem_set hm with hm | rfl
         ·exact (HNM.out m hm).kept hkp
         ·refine NmOk.of_own ⟨?_,HMQ.out.nm, ?_, ?_⟩ ?_
          ·have h1:=own_zero hb11;rw [← List.map_set] at h1
           simpa only [List.length_set] using h1
          ·intro o ho;rcases List.mem_or_eq_of_mem_set ho with ho | rfl
           ·exact HMQ.out.ons o ho
           ·exact HM.out.nm
          ·have:=HMQ.out.sz
           simpa only [List.length_set] using this
          ·intro i hi;simp only [Value.ownBlock] at hi;injection hi with hi
           omega
        ·rcases Nat.lt_or_ge d (p + 1 + j) with h5 | h5
         ·exact HMT.out d q h1 h5 h3 h4
         ·obtain rfl : d = p + 1 + j:=by omega
          rw [HQP.out] at h3;injection h3 with h3
          subst h3;exact HBM.out
        ·exact o11.below (o10.below (belowT HBR.out HB9.out) HK9.out) (by have:=HBR.out.size; omega)
    ·obtain rfl : j = ms.length - (p + 1):=by omega
     have bg:=HG.out.keep HBR.out;have b0:=bg.c 0;have b1:=bg.frozen 0;have b2:=bg.lt;clear bg;go_wp2_with fail
     go_ret
     have hset : OnlyAt wr (wr.setCell ⟨gs,0,none⟩ (.slice (some ⟨g,0,none⟩) ms.length c6)) gs:=OnlyAt.of_set (belowR wr) gs 0 _;refine ⟨0,rfl,onlyAt_trans (OnlyAt.of_below (belowT HB1.out HBR.out) gs) hset,fun h=>absurd rfl h,fun _=>?_⟩
     obtain ⟨A8,c8,e8,hkp⟩:=Keeps.own (g:=gs) (own_only HRW.out hset (by have:=HB5.out.size; omega)) HLL.out.symm (by have:=HB5.out.size; omega) (fun W ho m hm=>HNM.out m hm W ((Kept2.of_only2 hset).trans (Kept2.of_only2 ho)))
     refine ⟨L,A8,c8, ?_, ?_,hkp⟩
     ·have hb2:=(HG.out.keep HBR.out).set_ 0 (.slice (some ⟨g,0,none⟩) ms.length c6);simp only [List.setIfInBounds_toArray,List.set_cons_zero] at hb2;rw [← e8];exact hb2
     ·have hn1 : (psOf ms).length = ms.length:=by simp
      have hps : psOf L = swapP (psOf ms) p nm (HuP.mk name kind first last on wlo whi):=by
       rw [HPS.out,show p + 1 + (ms.length - (p + 1)) = ms.length by omega,List.drop_eq_nil_of_le (by omega),List.append_nil,List.take_of_length_le (by rw [swapP_len (by omega)]; omega)]
      have hh:=chgP_swap_ok (l:=psOf ms) (c:=HcM.c ⟨3,day,nm,⟨(HuP.mk name kind first last on wlo whi),Ao,ca⟩⟩) rfl HH.out (by simp only [HcM.c,HI.out]; exact HPO.out) (by
       simp only [HcM.c,HI.out];intro q hq hs;obtain ⟨d,hd⟩:=List.mem_iff_getElem?.1 hq;rw [List.getElem?_drop] at hd;exact HMT.out (p + 1 + d) q (by omega) (by have:=(List.getElem?_eq_some_iff.1 hd).1; omega) hd hs)
      rw [hh,hps];simp only [HcM.c,HI.out]
  ·have hr1 : (r5 != 0) = true:=by simpa using hr50
   go_wp2_with fail
   go_ret
   exact mutNo hr50 (chgP_swap_no rfl (fun h=>hr50 (HR.out.2 (by have:=h.2.1; simp only [HcM.c,HI.out] at this; exact this)))) (belowT HB1.out HB5.out)
end
end Go.Proofs.YtpgfldcoojfheaaGreatDoor
