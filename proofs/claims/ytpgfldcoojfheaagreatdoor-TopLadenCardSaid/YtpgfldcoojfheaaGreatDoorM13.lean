/- tide: reach over the corners of a box (printed by mkHT5.py). The reference of layer 2: Check (printed by mkHT6.py). The reference of layer 2: Check (printed by mkHT7.py). -/
import Derived.BigGuardPart
import Derived.Test.YtpgfldcoojfheaaGreatDoorM0
import Derived.Test.YtpgfldcoojfheaaGreatDoorM6
import Derived.Test.YtpgfldcoojfheaaGreatDoorM8
import Derived.Test.YtpgfldcoojfheaaGreatDoorM10
import Derived.Test.YtpgfldcoojfheaaGreatDoorM12
set_option maxRecDepth 1000000
set_option maxHeartbeats 16000000
namespace Go.Proofs.YtpgfldcoojfheaaGreatDoor
open Go.RowKit Go.Shelf
section
variable {V W W0 w : World} {g5 g6 : Nat}
attribute [local go_sem] Oper.semAt_some
theorem fourMade (wr : World) (t : TypeId) (a0 a1 a2 a3 b0 b1 b2 b3 : Value) : ∃ Wa W2,wr.alloc (.cells #[a0,a1,a2,a3] t) = Wa ∧ ((((Wa.setCell ⟨wr.heap.size,0,none⟩ b0).setCell ⟨wr.heap.size,1,none⟩ b1).setCell ⟨wr.heap.size,2,none⟩ b2).setCell ⟨wr.heap.size,3,none⟩ b3) = W2 ∧ BW wr W2 ∧ Blk Wa wr.heap.size t #[a0,a1,a2,a3] ∧ BW wr Wa ∧ Blk W2 wr.heap.size t #[b0,b1,b2,b3]:=by
 refine ⟨_,_,rfl,rfl, ?_,Blk.new wr t _,belowA (belowR _) _, ?_⟩
 ·exact (((((OnlyAt.of_below (belowR _) wr.heap.size).set 0 _).set 1 _).set 2 _).set 3 _).below (belowA (belowR _) _) (Nat.le_refl _)
 ·have h:=((((Blk.new wr t #[a0,a1,a2,a3]).set_ 0 b0).set_ 1 b1).set_ 2 b2).set_ 3 b3
  simpa using h
theorem blk_ty {k : Nat} {t s : TypeId} {cs ds : Array Value} (h : Blk W k t cs) (h' : Blk W k s ds) : t = s:=by
 unfold Blk at h h';rw [h] at h';injection h' with h'
 injection h'
theorem AtAt.keepM {M : Nat → Prop} {ga gb gc : Nat} {sink bal bite : Int} (h : AtAt w ga gb gc sink bal bite) (hb : BW w W) (hV : KeepM M W V) (hM : ∀ k,M k → w.heap.size ≤ k) : AtAt V ga gb gc sink bal bite :=
 have f : ∀ k,k < w.heap.size → ¬ M k:=fun k hk hm=>by have:=hM k hm; omega
 ⟨hV.cell (keepC hb h.b5) (f _ (lt_of_cell h.b5)),hV.cell (keepC hb h.b3) (f _ (lt_of_cell h.b3)),hV.cell (keepC hb h.b4) (f _ (lt_of_cell h.b4))⟩
structure ReachI (W0 W : World) (g5 g6 : Nat) (vals : List Int) : Prop where
 keep : KeepM (fun k=>k = g5 ∨ k = g6) W0 W
 os : W.os = W0.os
 tape : W.tape = W0.tape
 output : W.output = W0.output
 s : Blk W g5 29 #[iv (minL vals),iv (maxL vals)]
 f : Blk W g6 4 #[.bool vals.isEmpty]
theorem ReachI.below {vals : List Int} (h : ReachI W0 W g5 g6 vals) (hb : BW W V) : ReachI W0 V g5 g6 vals :=
 ⟨h.keep.trans (KeepM.of_below hb),hb.os.trans h.os,hb.tape.trans h.tape,hb.output.trans h.output,h.s.keep hb,h.f.keep hb⟩
theorem ReachI.below0 {vals : List Int} (h : ReachI W0 W g5 g6 vals) (hb : Below W0.heap.size W V) (h5 : g5 < W0.heap.size) (h6 : g6 < W0.heap.size) : ReachI W0 V g5 g6 vals :=
 ⟨⟨Nat.le_trans h.keep.size hb.size,fun k hk hl=>(hb.block k hl).trans (h.keep.same k hk hl)⟩,hb.os.trans h.os,hb.tape.trans h.tape,hb.output.trans h.output,h.s.same (hb.block _ h5),h.f.same (hb.block _ h6)⟩
theorem ReachI.fin {vals : List Int} (h : ReachI W0 W g5 g6 vals) (hb : BW w W0) (h5 : w.heap.size ≤ g5) (h6 : w.heap.size ≤ g6) : BW w W :=
 ⟨h.os.trans hb.os,h.tape.trans hb.tape,h.output.trans hb.output,Nat.le_trans hb.size h.keep.size,fun k hk=>(h.keep.same k (by omega) (Nat.lt_of_lt_of_le hk hb.size)).trans (hb.block k hk)⟩
theorem KeepM.set1 (k : Nat) (u : Value) : KeepM (fun k=>k = g5 ∨ k = g6) W (W.setCell ⟨g5,k,none⟩ u):=⟨by simp,fun i hi _=>Below.heap_setCell _ _ _ _ (fun e=>hi (.inl e))⟩
theorem KeepM.set2 (k : Nat) (u : Value) : KeepM (fun k=>k = g5 ∨ k = g6) W (W.setCell ⟨g6,k,none⟩ u):=⟨by simp,fun i hi _=>Below.heap_setCell _ _ _ _ (fun e=>hi (.inr e))⟩
theorem setOs (W : World) (a : Addr) (u : Value) : (W.setCell a u).os = W.os:=rfl
theorem setTape (W : World) (a : Addr) (u : Value) : (W.setCell a u).tape = W.tape:=rfl
theorem setOut (W : World) (a : Addr) (u : Value) : (W.setCell a u).output = W.output:=rfl
theorem ReachI.put {vals : List Int} (h : ReachI W0 W g5 g6 vals) (hv : vals ≠ []) (n : Int) : ReachI W0 ((W.setCell ⟨g5,0,none⟩ (iv (min (minL vals) n))).setCell ⟨g5,1,none⟩ (iv (max (maxL vals) n))) g5 g6 (vals ++ [n]):=by
 have hne : g6 ≠ g5:=fun e=>by
  subst e;exact absurd (blk_ty h.s h.f) (by decide)
 refine ⟨(h.keep.trans (KeepM.set1 0 _)).trans (KeepM.set1 1 _),h.os,h.tape,h.output, ?_, ?_⟩
 ·rw [minL_snoc _ _ hv,maxL_snoc _ _ hv];have:=(h.s.set_ 0 (iv (min (minL vals) n))).set_ 1 (iv (max (maxL vals) n))
  simpa using this
 ·have:=(h.f.far hne (p:=⟨g5,0,none⟩) (iv (min (minL vals) n))).far hne (p:=⟨g5,1,none⟩) (iv (max (maxL vals) n));cases vals with
  | nil=>exact absurd rfl hv
  | cons a r=>exact this
theorem ReachI.put0 (h : ReachI W0 W g5 g6 []) (n : Int) : ReachI W0 (((((W.setCell ⟨g5,0,none⟩ (iv n)).setCell ⟨g5,1,none⟩ (iv n)).setCell ⟨g6,0,none⟩ (.bool false)).setCell ⟨g5,0,none⟩ (iv n)).setCell ⟨g5,1,none⟩ (iv n)) g5 g6 [n]:=by
 have hne : g6 ≠ g5:=fun e=>by
  subst e;exact absurd (blk_ty h.s h.f) (by decide)
 refine ⟨((((h.keep.trans (KeepM.set1 0 _)).trans (KeepM.set1 1 _)).trans (KeepM.set2 0 _)).trans (KeepM.set1 0 _)).trans (KeepM.set1 1 _),by rw [setOs,setOs,setOs,setOs,setOs]; exact h.os,by rw [setTape,setTape,setTape,setTape,setTape]; exact h.tape,by rw [setOut,setOut,setOut,setOut,setOut]; exact h.output, ?_, ?_⟩
 ·have:=((((h.s.set_ 0 (iv n)).set_ 1 (iv n)).far (p:=⟨g6,0,none⟩) hne.symm (.bool false)).set_ 0 (iv n)).set_ 1 (iv n)
  simpa [minL,maxL] using this
 ·have:=((((h.f.far hne (p:=⟨g5,0,none⟩) (iv n)).far hne (p:=⟨g5,1,none⟩) (iv n)).set_ 0 (.bool false)).far hne (p:=⟨g5,0,none⟩) (iv n)).far hne (p:=⟨g5,1,none⟩) (iv n)
  simpa using this
theorem lie124_any (c : C4) (w : World) (hc : C4Ok c) : Calls Tryz.prog 124 #[c4V c] w (Rt w (iv (lieV c))):=by
 obtain ⟨W1,hW1⟩:=ex (w.alloc (.cells #[iv c.a,iv c.b,iv c.c,iv c.d] 123));have b1 : BW w W1:=by rw [← hW1]; exact belowA (belowR w) _
 have q1 : Blk W1 w.heap.size 123 #[iv c.a,iv c.b,iv c.c,iv c.d]:=by rw [← hW1]; exact Blk.new w 123 _
 obtain ⟨g,hg⟩:=ex w.heap.size;rw [hg] at q1;obtain ⟨d0,d2⟩ : _ ∧ _:=⟨q1.c 0,q1.c 2⟩;obtain ⟨ca,cb,cc,cd⟩:=c;simp only at d0 d2 hW1 q1 ⊢;have hs:=hc.s;have hh:=hc.h;simp only at hs hh;have HV : Hid (lieV ⟨ca,cb,cc,cd⟩ = 1000 * cc / ca):=Lq rfl;obtain ⟨n,hn⟩:=ex (1000 * cc);have hnb : -1000000000 ≤ n ∧ n ≤ 1000000000:=by omega
 have HD:=Lq (fun W=>down105_any n ca W hs.1 (by omega) hnb)
 have HB1:=Lq b1;have e6 : IntKind.i64.wrap n = n:=by rw [IntKind.wrap_i64]; omega
 rw [hn] at HV;clear hc b1 q1 hs hh;go_enter Tryz.func124,Tryz.ntmps124
 go_wp2_with (go_at_call 105; refine (HD.out _).mono ?_; rintro e w' ⟨rfl,rfl⟩)
 go_ret
 exact ⟨ret_int HV.out.symm,HB1.out⟩
theorem lie125_any (c : C4) (w : World) (hc : C4Ok c) : Calls Tryz.prog 125 #[c4V c] w (Rt w (iv (lieV c))):=by
 obtain ⟨W1,hW1⟩:=ex (w.alloc (.cells #[iv c.a,iv c.b,iv c.c,iv c.d] 123));have b1 : BW w W1:=by rw [← hW1]; exact belowA (belowR w) _
 have q1 : Blk W1 w.heap.size 123 #[iv c.a,iv c.b,iv c.c,iv c.d]:=by rw [← hW1]; exact Blk.new w 123 _
 obtain ⟨g,hg⟩:=ex w.heap.size;rw [hg] at q1;obtain ⟨d0,d2⟩ : _ ∧ _:=⟨q1.c 0,q1.c 2⟩;obtain ⟨ca,cb,cc,cd⟩:=c;simp only at d0 d2 hW1 q1 ⊢;have hs:=hc.s;have hh:=hc.h;simp only at hs hh;have HV : Hid (lieV ⟨ca,cb,cc,cd⟩ = 1000 * cc / ca):=Lq rfl;obtain ⟨n,hn⟩:=ex (1000 * cc);have hnb : -1000000000 ≤ n ∧ n ≤ 1000000000:=by omega
 have HD:=Lq (fun W=>down105_any n ca W hs.1 (by omega) hnb)
 have HB1:=Lq b1;have e6 : IntKind.i64.wrap n = n:=by rw [IntKind.wrap_i64]; omega
 rw [hn] at HV;clear hc b1 q1 hs hh;go_enter Tryz.func125,Tryz.ntmps125
 go_wp2_with (go_at_call 105; refine (HD.out _).mono ?_; rintro e w' ⟨rfl,rfl⟩)
 go_ret
 exact ⟨ret_int HV.out.symm,HB1.out⟩
theorem reach56_at (tb : Nat) (x : BxT) (ga gb gc : Nat) (sink bal bite : Int) (w : World) (htb : Blk w tb 127 #[iv x.slo,iv x.shi,iv x.dlo,iv x.dhi,iv x.hlo,iv x.hhi,iv x.wlo,iv x.whi]) (hx : BxOk x) (h : AtAt w ga gb gc sink bal bite) (hk : SbOk sink bal bite) :
  Calls Tryz.prog 56 #[.func (.func 103) #[] #[.pointer (some ⟨tb,0,none⟩)],atF ga gb gc] w (Rt w (.agg #[iv (minL ((corL x).map (atV sink bal bite))),iv (maxL ((corL x).map (atV sink bal bite)))])):=by
 obtain ⟨W1,hW1⟩:=ex (w.alloc (.cells #[atF ga gb gc] 130));obtain ⟨W2,hW2⟩:=ex (W1.alloc (.cells #[iv 0,iv 0] 29));obtain ⟨W3,hW3⟩:=ex (W2.alloc (.cells #[iv 0,iv 0] 29));obtain ⟨Wa,W4,hWa,hW4,hb4,hqa,hba,hq6⟩:=oneMade W3 4 (.bool false) (.bool true);have b1 : BW w W1:=by rw [← hW1]; exact belowA (belowR w) _
 have b2 : BW W1 W2:=by rw [← hW2]; exact belowA (belowR _) _
 have b3 : BW W2 W3:=by rw [← hW3]; exact belowA (belowR _) _
 have q3 : Blk W1 w.heap.size 130 #[atF ga gb gc]:=by rw [← hW1]; exact Blk.new w 130 _
 have q4 : Blk W2 W1.heap.size 29 #[iv 0,iv 0]:=by rw [← hW2]; exact Blk.new W1 29 _
 have q5 : Blk W3 W2.heap.size 29 #[iv 0,iv 0]:=by rw [← hW3]; exact Blk.new W2 29 _
 have z1 : W1.heap.size = w.heap.size + 1:=by rw [← hW1]; simp
 have z2 : W2.heap.size = W1.heap.size + 1:=by rw [← hW2]; simp
 have z3 : W3.heap.size = W2.heap.size + 1:=by rw [← hW3]; simp
 obtain ⟨g3,hg3⟩:=ex w.heap.size;obtain ⟨g4,hg4⟩:=ex W1.heap.size;obtain ⟨g5,hg5⟩:=ex W2.heap.size;obtain ⟨g6,hg6⟩:=ex W3.heap.size;rw [hg3] at q3;rw [hg4] at q4;rw [hg5] at q5;rw [hg6] at hW4 hqa hq6;have hbw4:=belowT b1 (belowT b2 (belowT b3 hb4));have HBW4:=Lq hbw4;have HNE : Hid (w.heap.size ≤ g3 ∧ g3 < g4 ∧ g4 < g5 ∧ g5 < g6 ∧ g6 < W4.heap.size ∧ tb < w.heap.size):=Lq (by have:=hq6.lt; have:=htb.lt; omega)
 have HIT:=Lq (corners103_iter tb x W4 (htb.keep hbw4));have HAT : Hid (∀ V,KeepM (fun k=>k = g5 ∨ k = g6) W4 V → ∀ c,c ∈ corL x → Calls Tryz.prog 104 #[c4V c,.pointer (some ⟨ga,0,none⟩),.pointer (some ⟨gb,0,none⟩),.pointer (some ⟨gc,0,none⟩)] V (Rt V (iv (atV sink bal bite c)))):=Lq fun V hV c hc=>(fun V hV c hc=>at104_any ga gb gc c sink bal bite V (h.keepM hbw4 hV (fun k hk=>by omega)) hc hk) V hV c (corL_ok hx hc)
 have q34:=q3.keep (belowT b2 (belowT b3 hb4));have q44:=q4.keep (belowT b3 hb4);have HF : Hid (∀ V,KeepM (fun k=>k = g5 ∨ k = g6) W4 V → V.cell? ⟨g3,0,none⟩ = some (atF ga gb gc)):=Lq fun V hV=>hV.cell (q34.c 0) (by have:=HNE.out; omega)
 have HQ4 : Hid (∀ V,KeepM (fun k=>k = g5 ∨ k = g6) W4 V → Blk V g4 29 #[iv 0,iv 0]):=Lq fun V hV=>q44.same (hV.same g4 (by have:=HNE.out; omega) q44.lt)
 have HI0 : Hid (ReachI W4 W4 g5 g6 []):=Lq ⟨KeepM.refl _ _,rfl,rfl,rfl,q5.keep hb4,hq6⟩;have af:=hqa.frozen 0;have ac:=hqa.c 0;have al:=hqa.lt;have h0:=HF.out W4 (KeepM.refl _ _);obtain ⟨CL,hCL⟩:=ex (corL x);rw [hCL] at HIT HAT ⊢;clear h hk htb hx b1 b2 b3 q3 q4 q5 z1 z2 z3 hb4 hqa hba hq6 hbw4 q34 q44 hCL;refine (callsIn_wide (n:=0)).1 ?_;refine callsIn_of_wp_marks Tryz.func56 rfl trivial ?_ rfl;simp only [Tryz.ntmps56,List.size_toArray,List.length_cons,List.length_nil,Nat.reduceAdd,Nat.reduceSub,Array.replicate_succ,Array.replicate_zero,List.push_toArray,List.append_toArray,List.nil_append,List.cons_append]
 gi_wp2_with fail
 clear af ac al h0 hWa hW4 hW1 hW2 hW3 hg3 hg4 hg5 hg6;refine rangeFunc_gen 0 103 #[.pointer (some ⟨tb,0,none⟩)] c4V CL (fun k=>k = g5 ∨ k = g6) (fun k=>k ≠ tb) rfl HIT.out (fun k hk=>by have:=HNE.out; omega) (by have:=HNE.out; omega) (fun args w=>enters_of Tryz.func103 (by kernel_rfl) rfl args w)
  (fun pre W=>ReachI W4 W g5 g6 (pre.map (atV sink bal bite))) ?_ HI0.out ?_ ?_
 ·exact fun s X Y hX hb=>hX.below0 hb (by have:=HNE.out; omega) (by have:=HNE.out; omega)
 ·intro m l2 pre c W hI hpre hsz;have HC:=Lq (fun V hV=>HAT.out V hV c (hpre.subset (by simp)))
  obtain ⟨ca,cb,cc,cd⟩:=c;simp only [c4V];obtain ⟨Wa,Wb,hWa,hWb,hb1,hqa,hba,hq1⟩:=fourMade W 123 (iv 0) (iv 0) (iv 0) (iv 0) (iv ca) (iv cb) (iv cc) (iv cd);obtain ⟨g7,hg7⟩:=ex W.heap.size;rw [hg7] at hWb hqa hq1;have HB1:=Lq hb1;have HQ1:=Lq hq1;have hg7' : W4.heap.size + 2 < g7:=by omega
  obtain ⟨af0,af1,af2,af3⟩:=hqa.f4;obtain ⟨ac0,ac1,ac2,ac3⟩:=hqa.c4;have al:=hqa.lt;clear hb1 hqa hba hq1 hsz hI
  gi_wp2_with fail
  refine ⟨HB1.out, ?_⟩;rintro W2 hI hg2 hs2;have hq2 : Blk W2 g7 123 #[iv ca,iv cb,iv cc,iv cd]:=HQ1.out.grown hg2 (fun e=>by injection e with e; omega)
  obtain ⟨d0,d1,d2,d3⟩:=hq2.c4;have f0:=HF.out W2 hI.keep;have HI:=Lq hI;have HCA:=Lq (HC.out W2 hI.keep);clear hq2 hg2 hs2 af0 af1 af2 af3 ac0 ac1 ac2 ac3 al hWa hWb hg7 hI hpre
  gi_wp2_with fail
  refine ⟨trivial,hdd _,(CallsIn.inRound l2 (callsIn_wide.2 HCA.out)).mono ?_⟩;rintro e w7 ⟨rfl,hb⟩;have HI7:=Lq (HI.out.below hb);have hmap : (pre ++ [(⟨ca,cb,cc,cd⟩ : C4)]).map (atV sink bal bite) = pre.map (atV sink bal bite) ++ [(atV sink bal bite) ⟨ca,cb,cc,cd⟩]:=by rw [List.map_append]; rfl
  obtain ⟨n,hn⟩:=ex ((atV sink bal bite) ⟨ca,cb,cc,cd⟩);obtain ⟨vals,hvals⟩:=ex (pre.map (atV sink bal bite));rw [hn,hvals] at hmap;rw [hvals] at HI7;have HMP:=Lq hmap;have hnE : iv ((atV sink bal bite) ⟨ca,cb,cc,cd⟩) = iv n:=by rw [hn]
  have HWK : Hid (KeepM (fun k=>k = g5 ∨ k = g6) W2 w7):=Lq (KeepM.of_below hb)
  rw [hn];have hne : g6 ≠ g5:=by have:=HNE.out; omega
  have hne2 : g5 ≠ g6:=hne.symm;clear hb hmap hn hvals hnE d0 d1 d2 d3 f0 HCA HC HI;by_cases hv : vals = []
  ·subst hv;have hI7:=HI7.out;have s0 : w7.cell? ⟨g5,0,none⟩ = some (iv 0):=hI7.s.c 0;have s1 : w7.cell? ⟨g5,1,none⟩ = some (iv 0):=hI7.s.c 1;have sf:=hI7.s.frozen 0;have sg:=hI7.s.frozen 1;have sl:=hI7.s.lt;have f0 : w7.cell? ⟨g6,0,none⟩ = some (.bool true):=hI7.f.c 0;have ff:=hI7.f.frozen 0;have fl:=hI7.f.lt;have HO:=Lq (one91_any n w7);clear hI7
   gi_wp2_with fail
   refine ⟨trivial,hdd _,(CallsIn.inRound l2 (callsIn_wide.2 HO.out)).mono ?_⟩;rintro e w8 ⟨rfl,hb⟩;have hI8:=HI7.out.below hb;have HI8:=Lq hI8;have HWK8:=Lq (HWK.out.trans (KeepM.of_below hb));clear s0 s1 sf sg sl f0 ff fl HO hb;have s0 : w8.cell? ⟨g5,0,none⟩ = some (iv 0):=hI8.s.c 0;have s1 : w8.cell? ⟨g5,1,none⟩ = some (iv 0):=hI8.s.c 1;have sf:=hI8.s.frozen 0;have sg:=hI8.s.frozen 1;have sl:=hI8.s.lt;have f0 : w8.cell? ⟨g6,0,none⟩ = some (.bool true):=hI8.f.c 0;have ff:=hI8.f.frozen 0;have fl:=hI8.f.lt;have hp:=hI8.put0 n;have HP:=Lq hp;have HKP : Hid (KeepM (fun k=>k = g5 ∨ k = g6) W2 (((((w8.setCell ⟨g5,0,none⟩ (iv n)).setCell ⟨g5,1,none⟩ (iv n)).setCell ⟨g6,0,none⟩ (.bool false)).setCell ⟨g5,0,none⟩ (iv n)).setCell ⟨g5,1,none⟩ (iv n))):=Lq (((((HWK8.out.trans (KeepM.set1 0 _)).trans (KeepM.set1 1 _)).trans (KeepM.set2 0 _)).trans (KeepM.set1 0 _)).trans (KeepM.set1 1 _))
   clear hI8 hp
   gi_wp2_with fail
   refine ⟨HKP.out, ?_⟩;show ReachI _ _ _ _ ((pre ++ [(⟨ca,cb,cc,cd⟩ : C4)]).map (atV sink bal bite))
   rw [HMP.out];exact HP.out
  ·have hI7:=HI7.out;have hp:=hI7.put hv n;obtain ⟨mn,hmn⟩:=ex (minL vals);obtain ⟨mx,hmx⟩:=ex (maxL vals);have hie : vals.isEmpty = false:=by cases vals with | nil=>exact absurd rfl hv | cons a r=>rfl
   have hs:=hI7.s;have hf:=hI7.f;rw [hmn,hmx] at hs hp;rw [hie] at hf;have s0:=hs.c 0;have s1:=hs.c 1;have sf:=hs.frozen 0;have sg:=hs.frozen 1;have sl:=hs.lt;have f0:=hf.c 0;clear hI7 hs hf hmn hmx hie HI7;by_cases h1 : mn ≤ n <;> by_cases h2 : n ≤ mx
   ·rw [show min mn n = mn by omega,show max mx n = mx by omega] at hp
    have HP:=Lq hp;have HKP : Hid (KeepM (fun k=>k = g5 ∨ k = g6) W2 ((w7.setCell ⟨g5,0,none⟩ (iv mn)).setCell ⟨g5,1,none⟩ (iv mx))):=Lq ((HWK.out.trans (KeepM.set1 0 _)).trans (KeepM.set1 1 _))
    clear hp hv
    gi_wp2_with fail
    refine ⟨HKP.out, ?_⟩;show ReachI _ _ _ _ ((pre ++ [(⟨ca,cb,cc,cd⟩ : C4)]).map (atV sink bal bite))
    rw [HMP.out];exact HP.out
   ·rw [show min mn n = mn by omega,show max mx n = n by omega] at hp
    have HP:=Lq hp;have HKP : Hid (KeepM (fun k=>k = g5 ∨ k = g6) W2 ((w7.setCell ⟨g5,0,none⟩ (iv mn)).setCell ⟨g5,1,none⟩ (iv n))):=Lq ((HWK.out.trans (KeepM.set1 0 _)).trans (KeepM.set1 1 _))
    clear hp hv
    gi_wp2_with fail
    refine ⟨HKP.out, ?_⟩;show ReachI _ _ _ _ ((pre ++ [(⟨ca,cb,cc,cd⟩ : C4)]).map (atV sink bal bite))
    rw [HMP.out];exact HP.out
   ·rw [show min mn n = n by omega,show max mx n = mx by omega] at hp
    have HP:=Lq hp;have HKP : Hid (KeepM (fun k=>k = g5 ∨ k = g6) W2 ((w7.setCell ⟨g5,0,none⟩ (iv n)).setCell ⟨g5,1,none⟩ (iv mx))):=Lq ((HWK.out.trans (KeepM.set1 0 _)).trans (KeepM.set1 1 _))
    clear hp hv
    gi_wp2_with fail
    refine ⟨HKP.out, ?_⟩;show ReachI _ _ _ _ ((pre ++ [(⟨ca,cb,cc,cd⟩ : C4)]).map (atV sink bal bite))
    rw [HMP.out];exact HP.out
   ·rw [show min mn n = n by omega,show max mx n = n by omega] at hp
    have HP:=Lq hp;have HKP : Hid (KeepM (fun k=>k = g5 ∨ k = g6) W2 ((w7.setCell ⟨g5,0,none⟩ (iv n)).setCell ⟨g5,1,none⟩ (iv n))):=Lq ((HWK.out.trans (KeepM.set1 0 _)).trans (KeepM.set1 1 _))
    clear hp hv
    gi_wp2_with fail
    refine ⟨HKP.out, ?_⟩;show ReachI _ _ _ _ ((pre ++ [(⟨ca,cb,cc,cd⟩ : C4)]).map (atV sink bal bite))
    rw [HMP.out];exact HP.out
 ·intro W hI hsz hD;have HD:=Lq hD;obtain ⟨mn,hmn⟩:=ex (minL (CL.map (atV sink bal bite)));obtain ⟨mx,hmx⟩:=ex (maxL (CL.map (atV sink bal bite)));have hs:=hI.s;rw [hmn,hmx] at hs;have h4:=HQ4.out W hI.keep;have s0:=hs.c 0;have s1:=hs.c 1;have n0:=h4.c 0;have n1:=h4.c 1;have nf:=h4.frozen 0;have nf1:=h4.frozen 1;have nl:=h4.lt;have HI:=Lq hI;obtain ⟨W9,hW9⟩:=ex ((W.setCell ⟨g4,0,none⟩ (iv mn)).setCell ⟨g4,1,none⟩ (iv mx));have d0 : W9.cell? ⟨g4,0,none⟩ = some (iv mn):=by rw [← hW9]; exact ((h4.set_ 0 _).set_ 1 _).cell 0
  have d1 : W9.cell? ⟨g4,1,none⟩ = some (iv mx):=by rw [← hW9]; exact ((h4.set_ 0 _).set_ 1 _).cell 1
  have HW9 : Hid (W9 = (W.setCell ⟨g4,0,none⟩ (iv mn)).setCell ⟨g4,1,none⟩ (iv mx)):=Lq hW9.symm;have HDX : Hid (W9.heap[W4.heap.size]? = some (.deferred (some []))):=Lq (by
   rw [← hW9,Below.heap_setCell _ _ _ _ (by show _ ≠ g4; have:=HNE.out; omega),Below.heap_setCell _ _ _ _ (by show _ ≠ g4; have:=HNE.out; omega)]
   exact HD.out)
  have HBX : Hid (BW w W9):=Lq (by
   have h1:=HI.out.fin HBW4.out (by have:=HNE.out; omega) (by have:=HNE.out; omega)
   rw [← hW9];exact belowS (belowS h1 (by show _ ≤ g4; have:=HNE.out; omega) _) (by show _ ≤ g4; have:=HNE.out; omega) _)
  clear hI hD hs h4 hsz
  gi_wp2_with fail
  refine ⟨by simp,.inl ⟨_,_,rfl,run_takeDeferred HDX.out, ?_⟩⟩
  have hby : BW w (W9.putObj W4.heap.size (.deferred none)):=⟨HBX.out.os,HBX.out.tape,HBX.out.output,by rw [show (W9.putObj W4.heap.size (.deferred none)).heap.size = W9.heap.size by simp [World.putObj]]; exact HBX.out.size,fun k hk=>(World.putObj_heap_other (by have:=HBW4.out.size; omega)).trans (HBX.out.block k hk)⟩
  have y0 : (W9.putObj W4.heap.size (.deferred none)).cell? ⟨g4,0,none⟩ = some (iv mn):=(cell_put HDX.out rfl _ _).trans d0;have y1 : (W9.putObj W4.heap.size (.deferred none)).cell? ⟨g4,1,none⟩ = some (iv mx):=(cell_put HDX.out rfl _ _).trans d1;exact ⟨.agg #[iv mn,iv mx],by simp [results,Tryz.results56,go_sem,y0,y1],by rw [hmn,hmx],hby⟩
theorem reach56_lie124 (tb : Nat) (x : BxT)  (w : World) (htb : Blk w tb 127 #[iv x.slo,iv x.shi,iv x.dlo,iv x.dhi,iv x.hlo,iv x.hhi,iv x.wlo,iv x.whi]) (hx : BxOk x)  :
  Calls Tryz.prog 56 #[.func (.func 103) #[] #[.pointer (some ⟨tb,0,none⟩)],.func (.func 124) #[] #[]] w (Rt w (.agg #[iv (minL ((corL x).map (lieV))),iv (maxL ((corL x).map (lieV)))])):=by
 obtain ⟨W1,hW1⟩:=ex (w.alloc (.cells #[.func (.func 124) #[] #[]] 130));obtain ⟨W2,hW2⟩:=ex (W1.alloc (.cells #[iv 0,iv 0] 29));obtain ⟨W3,hW3⟩:=ex (W2.alloc (.cells #[iv 0,iv 0] 29));obtain ⟨Wa,W4,hWa,hW4,hb4,hqa,hba,hq6⟩:=oneMade W3 4 (.bool false) (.bool true);have b1 : BW w W1:=by rw [← hW1]; exact belowA (belowR w) _
 have b2 : BW W1 W2:=by rw [← hW2]; exact belowA (belowR _) _
 have b3 : BW W2 W3:=by rw [← hW3]; exact belowA (belowR _) _
 have q3 : Blk W1 w.heap.size 130 #[.func (.func 124) #[] #[]]:=by rw [← hW1]; exact Blk.new w 130 _
 have q4 : Blk W2 W1.heap.size 29 #[iv 0,iv 0]:=by rw [← hW2]; exact Blk.new W1 29 _
 have q5 : Blk W3 W2.heap.size 29 #[iv 0,iv 0]:=by rw [← hW3]; exact Blk.new W2 29 _
 have z1 : W1.heap.size = w.heap.size + 1:=by rw [← hW1]; simp
 have z2 : W2.heap.size = W1.heap.size + 1:=by rw [← hW2]; simp
 have z3 : W3.heap.size = W2.heap.size + 1:=by rw [← hW3]; simp
 obtain ⟨g3,hg3⟩:=ex w.heap.size;obtain ⟨g4,hg4⟩:=ex W1.heap.size;obtain ⟨g5,hg5⟩:=ex W2.heap.size;obtain ⟨g6,hg6⟩:=ex W3.heap.size;rw [hg3] at q3;rw [hg4] at q4;rw [hg5] at q5;rw [hg6] at hW4 hqa hq6;have hbw4:=belowT b1 (belowT b2 (belowT b3 hb4));have HBW4:=Lq hbw4;have HNE : Hid (w.heap.size ≤ g3 ∧ g3 < g4 ∧ g4 < g5 ∧ g5 < g6 ∧ g6 < W4.heap.size ∧ tb < w.heap.size):=Lq (by have:=hq6.lt; have:=htb.lt; omega)
 have HIT:=Lq (corners103_iter tb x W4 (htb.keep hbw4));have HAT : Hid (∀ V,KeepM (fun k=>k = g5 ∨ k = g6) W4 V → ∀ c,c ∈ corL x → Calls Tryz.prog 124 #[c4V c] V (Rt V (iv (lieV c)))):=Lq fun V hV c hc=>(fun V _ c hc=>lie124_any c V hc) V hV c (corL_ok hx hc)
 have q34:=q3.keep (belowT b2 (belowT b3 hb4));have q44:=q4.keep (belowT b3 hb4);have HF : Hid (∀ V,KeepM (fun k=>k = g5 ∨ k = g6) W4 V → V.cell? ⟨g3,0,none⟩ = some (.func (.func 124) #[] #[])):=Lq fun V hV=>hV.cell (q34.c 0) (by have:=HNE.out; omega)
 have HQ4 : Hid (∀ V,KeepM (fun k=>k = g5 ∨ k = g6) W4 V → Blk V g4 29 #[iv 0,iv 0]):=Lq fun V hV=>q44.same (hV.same g4 (by have:=HNE.out; omega) q44.lt)
 have HI0 : Hid (ReachI W4 W4 g5 g6 []):=Lq ⟨KeepM.refl _ _,rfl,rfl,rfl,q5.keep hb4,hq6⟩;have af:=hqa.frozen 0;have ac:=hqa.c 0;have al:=hqa.lt;have h0:=HF.out W4 (KeepM.refl _ _);obtain ⟨CL,hCL⟩:=ex (corL x);rw [hCL] at HIT HAT ⊢;clear  htb hx b1 b2 b3 q3 q4 q5 z1 z2 z3 hb4 hqa hba hq6 hbw4 q34 q44 hCL;refine (callsIn_wide (n:=0)).1 ?_;refine callsIn_of_wp_marks Tryz.func56 rfl trivial ?_ rfl;simp only [Tryz.ntmps56,List.size_toArray,List.length_cons,List.length_nil,Nat.reduceAdd,Nat.reduceSub,Array.replicate_succ,Array.replicate_zero,List.push_toArray,List.append_toArray,List.nil_append,List.cons_append]
 gi_wp2_with fail
 clear af ac al h0 hWa hW4 hW1 hW2 hW3 hg3 hg4 hg5 hg6;refine rangeFunc_gen 0 103 #[.pointer (some ⟨tb,0,none⟩)] c4V CL (fun k=>k = g5 ∨ k = g6) (fun k=>k ≠ tb) rfl HIT.out (fun k hk=>by have:=HNE.out; omega) (by have:=HNE.out; omega) (fun args w=>enters_of Tryz.func103 (by kernel_rfl) rfl args w)
  (fun pre W=>ReachI W4 W g5 g6 (pre.map (lieV))) ?_ HI0.out ?_ ?_
 ·exact fun s X Y hX hb=>hX.below0 hb (by have:=HNE.out; omega) (by have:=HNE.out; omega)
 ·intro m l2 pre c W hI hpre hsz;have HC:=Lq (fun V hV=>HAT.out V hV c (hpre.subset (by simp)))
  obtain ⟨ca,cb,cc,cd⟩:=c;simp only [c4V];obtain ⟨Wa,Wb,hWa,hWb,hb1,hqa,hba,hq1⟩:=fourMade W 123 (iv 0) (iv 0) (iv 0) (iv 0) (iv ca) (iv cb) (iv cc) (iv cd);obtain ⟨g7,hg7⟩:=ex W.heap.size;rw [hg7] at hWb hqa hq1;have HB1:=Lq hb1;have HQ1:=Lq hq1;have hg7' : W4.heap.size + 2 < g7:=by omega
  obtain ⟨af0,af1,af2,af3⟩:=hqa.f4;obtain ⟨ac0,ac1,ac2,ac3⟩:=hqa.c4;have al:=hqa.lt;clear hb1 hqa hba hq1 hsz hI
  gi_wp2_with fail
  refine ⟨HB1.out, ?_⟩;rintro W2 hI hg2 hs2;have hq2 : Blk W2 g7 123 #[iv ca,iv cb,iv cc,iv cd]:=HQ1.out.grown hg2 (fun e=>by injection e with e; omega)
  obtain ⟨d0,d1,d2,d3⟩:=hq2.c4;have f0:=HF.out W2 hI.keep;have HI:=Lq hI;have HCA:=Lq (HC.out W2 hI.keep);clear hq2 hg2 hs2 af0 af1 af2 af3 ac0 ac1 ac2 ac3 al hWa hWb hg7 hI hpre
  gi_wp2_with fail
  refine ⟨trivial,hdd _,(CallsIn.inRound l2 (callsIn_wide.2 HCA.out)).mono ?_⟩;rintro e w7 ⟨rfl,hb⟩;have HI7:=Lq (HI.out.below hb);have hmap : (pre ++ [(⟨ca,cb,cc,cd⟩ : C4)]).map (lieV) = pre.map (lieV) ++ [(lieV) ⟨ca,cb,cc,cd⟩]:=by rw [List.map_append]; rfl
  obtain ⟨n,hn⟩:=ex ((lieV) ⟨ca,cb,cc,cd⟩);obtain ⟨vals,hvals⟩:=ex (pre.map (lieV));rw [hn,hvals] at hmap;rw [hvals] at HI7;have HMP:=Lq hmap;have hnE : iv ((lieV) ⟨ca,cb,cc,cd⟩) = iv n:=by rw [hn]
  have HWK : Hid (KeepM (fun k=>k = g5 ∨ k = g6) W2 w7):=Lq (KeepM.of_below hb)
  rw [hn];have hne : g6 ≠ g5:=by have:=HNE.out; omega
  have hne2 : g5 ≠ g6:=hne.symm;clear hb hmap hn hvals hnE d0 d1 d2 d3 f0 HCA HC HI;by_cases hv : vals = []
  ·subst hv;have hI7:=HI7.out;have s0 : w7.cell? ⟨g5,0,none⟩ = some (iv 0):=hI7.s.c 0;have s1 : w7.cell? ⟨g5,1,none⟩ = some (iv 0):=hI7.s.c 1;have sf:=hI7.s.frozen 0;have sg:=hI7.s.frozen 1;have sl:=hI7.s.lt;have f0 : w7.cell? ⟨g6,0,none⟩ = some (.bool true):=hI7.f.c 0;have ff:=hI7.f.frozen 0;have fl:=hI7.f.lt;have HO:=Lq (one91_any n w7);clear hI7
   gi_wp2_with fail
   refine ⟨trivial,hdd _,(CallsIn.inRound l2 (callsIn_wide.2 HO.out)).mono ?_⟩;rintro e w8 ⟨rfl,hb⟩;have hI8:=HI7.out.below hb;have HI8:=Lq hI8;have HWK8:=Lq (HWK.out.trans (KeepM.of_below hb));clear s0 s1 sf sg sl f0 ff fl HO hb;have s0 : w8.cell? ⟨g5,0,none⟩ = some (iv 0):=hI8.s.c 0;have s1 : w8.cell? ⟨g5,1,none⟩ = some (iv 0):=hI8.s.c 1;have sf:=hI8.s.frozen 0;have sg:=hI8.s.frozen 1;have sl:=hI8.s.lt;have f0 : w8.cell? ⟨g6,0,none⟩ = some (.bool true):=hI8.f.c 0;have ff:=hI8.f.frozen 0;have fl:=hI8.f.lt;have hp:=hI8.put0 n;have HP:=Lq hp;have HKP : Hid (KeepM (fun k=>k = g5 ∨ k = g6) W2 (((((w8.setCell ⟨g5,0,none⟩ (iv n)).setCell ⟨g5,1,none⟩ (iv n)).setCell ⟨g6,0,none⟩ (.bool false)).setCell ⟨g5,0,none⟩ (iv n)).setCell ⟨g5,1,none⟩ (iv n))):=Lq (((((HWK8.out.trans (KeepM.set1 0 _)).trans (KeepM.set1 1 _)).trans (KeepM.set2 0 _)).trans (KeepM.set1 0 _)).trans (KeepM.set1 1 _))
   clear hI8 hp
   gi_wp2_with fail
   refine ⟨HKP.out, ?_⟩;show ReachI _ _ _ _ ((pre ++ [(⟨ca,cb,cc,cd⟩ : C4)]).map (lieV))
   rw [HMP.out];exact HP.out
  ·have hI7:=HI7.out;have hp:=hI7.put hv n;obtain ⟨mn,hmn⟩:=ex (minL vals);obtain ⟨mx,hmx⟩:=ex (maxL vals);have hie : vals.isEmpty = false:=by cases vals with | nil=>exact absurd rfl hv | cons a r=>rfl
   have hs:=hI7.s;have hf:=hI7.f;rw [hmn,hmx] at hs hp;rw [hie] at hf;have s0:=hs.c 0;have s1:=hs.c 1;have sf:=hs.frozen 0;have sg:=hs.frozen 1;have sl:=hs.lt;have f0:=hf.c 0;clear hI7 hs hf hmn hmx hie HI7;by_cases h1 : mn ≤ n <;> by_cases h2 : n ≤ mx
   ·rw [show min mn n = mn by omega,show max mx n = mx by omega] at hp
    have HP:=Lq hp;have HKP : Hid (KeepM (fun k=>k = g5 ∨ k = g6) W2 ((w7.setCell ⟨g5,0,none⟩ (iv mn)).setCell ⟨g5,1,none⟩ (iv mx))):=Lq ((HWK.out.trans (KeepM.set1 0 _)).trans (KeepM.set1 1 _))
    clear hp hv
    gi_wp2_with fail
    refine ⟨HKP.out, ?_⟩;show ReachI _ _ _ _ ((pre ++ [(⟨ca,cb,cc,cd⟩ : C4)]).map (lieV))
    rw [HMP.out];exact HP.out
   ·rw [show min mn n = mn by omega,show max mx n = n by omega] at hp
    have HP:=Lq hp;have HKP : Hid (KeepM (fun k=>k = g5 ∨ k = g6) W2 ((w7.setCell ⟨g5,0,none⟩ (iv mn)).setCell ⟨g5,1,none⟩ (iv n))):=Lq ((HWK.out.trans (KeepM.set1 0 _)).trans (KeepM.set1 1 _))
    clear hp hv
    gi_wp2_with fail
    refine ⟨HKP.out, ?_⟩;show ReachI _ _ _ _ ((pre ++ [(⟨ca,cb,cc,cd⟩ : C4)]).map (lieV))
    rw [HMP.out];exact HP.out
   ·rw [show min mn n = n by omega,show max mx n = mx by omega] at hp
    have HP:=Lq hp;have HKP : Hid (KeepM (fun k=>k = g5 ∨ k = g6) W2 ((w7.setCell ⟨g5,0,none⟩ (iv n)).setCell ⟨g5,1,none⟩ (iv mx))):=Lq ((HWK.out.trans (KeepM.set1 0 _)).trans (KeepM.set1 1 _))
    clear hp hv
    gi_wp2_with fail
    refine ⟨HKP.out, ?_⟩;show ReachI _ _ _ _ ((pre ++ [(⟨ca,cb,cc,cd⟩ : C4)]).map (lieV))
    rw [HMP.out];exact HP.out
   ·rw [show min mn n = n by omega,show max mx n = n by omega] at hp
    have HP:=Lq hp;have HKP : Hid (KeepM (fun k=>k = g5 ∨ k = g6) W2 ((w7.setCell ⟨g5,0,none⟩ (iv n)).setCell ⟨g5,1,none⟩ (iv n))):=Lq ((HWK.out.trans (KeepM.set1 0 _)).trans (KeepM.set1 1 _))
    clear hp hv
    gi_wp2_with fail
    refine ⟨HKP.out, ?_⟩;show ReachI _ _ _ _ ((pre ++ [(⟨ca,cb,cc,cd⟩ : C4)]).map (lieV))
    rw [HMP.out];exact HP.out
 ·intro W hI hsz hD;have HD:=Lq hD;obtain ⟨mn,hmn⟩:=ex (minL (CL.map (lieV)));obtain ⟨mx,hmx⟩:=ex (maxL (CL.map (lieV)));have hs:=hI.s;rw [hmn,hmx] at hs;have h4:=HQ4.out W hI.keep;have s0:=hs.c 0;have s1:=hs.c 1;have n0:=h4.c 0;have n1:=h4.c 1;have nf:=h4.frozen 0;have nf1:=h4.frozen 1;have nl:=h4.lt;have HI:=Lq hI;obtain ⟨W9,hW9⟩:=ex ((W.setCell ⟨g4,0,none⟩ (iv mn)).setCell ⟨g4,1,none⟩ (iv mx));have d0 : W9.cell? ⟨g4,0,none⟩ = some (iv mn):=by rw [← hW9]; exact ((h4.set_ 0 _).set_ 1 _).cell 0
  have d1 : W9.cell? ⟨g4,1,none⟩ = some (iv mx):=by rw [← hW9]; exact ((h4.set_ 0 _).set_ 1 _).cell 1
  have HW9 : Hid (W9 = (W.setCell ⟨g4,0,none⟩ (iv mn)).setCell ⟨g4,1,none⟩ (iv mx)):=Lq hW9.symm;have HDX : Hid (W9.heap[W4.heap.size]? = some (.deferred (some []))):=Lq (by
   rw [← hW9,Below.heap_setCell _ _ _ _ (by show _ ≠ g4; have:=HNE.out; omega),Below.heap_setCell _ _ _ _ (by show _ ≠ g4; have:=HNE.out; omega)]
   exact HD.out)
  have HBX : Hid (BW w W9):=Lq (by
   have h1:=HI.out.fin HBW4.out (by have:=HNE.out; omega) (by have:=HNE.out; omega)
   rw [← hW9];exact belowS (belowS h1 (by show _ ≤ g4; have:=HNE.out; omega) _) (by show _ ≤ g4; have:=HNE.out; omega) _)
  clear hI hD hs h4 hsz
  gi_wp2_with fail
  refine ⟨by simp,.inl ⟨_,_,rfl,run_takeDeferred HDX.out, ?_⟩⟩
  have hby : BW w (W9.putObj W4.heap.size (.deferred none)):=⟨HBX.out.os,HBX.out.tape,HBX.out.output,by rw [show (W9.putObj W4.heap.size (.deferred none)).heap.size = W9.heap.size by simp [World.putObj]]; exact HBX.out.size,fun k hk=>(World.putObj_heap_other (by have:=HBW4.out.size; omega)).trans (HBX.out.block k hk)⟩
  have y0 : (W9.putObj W4.heap.size (.deferred none)).cell? ⟨g4,0,none⟩ = some (iv mn):=(cell_put HDX.out rfl _ _).trans d0;have y1 : (W9.putObj W4.heap.size (.deferred none)).cell? ⟨g4,1,none⟩ = some (iv mx):=(cell_put HDX.out rfl _ _).trans d1;exact ⟨.agg #[iv mn,iv mx],by simp [results,Tryz.results56,go_sem,y0,y1],by rw [hmn,hmx],hby⟩
theorem reach56_lie125 (tb : Nat) (x : BxT)  (w : World) (htb : Blk w tb 127 #[iv x.slo,iv x.shi,iv x.dlo,iv x.dhi,iv x.hlo,iv x.hhi,iv x.wlo,iv x.whi]) (hx : BxOk x)  :
  Calls Tryz.prog 56 #[.func (.func 103) #[] #[.pointer (some ⟨tb,0,none⟩)],.func (.func 125) #[] #[]] w (Rt w (.agg #[iv (minL ((corL x).map (lieV))),iv (maxL ((corL x).map (lieV)))])):=by
 obtain ⟨W1,hW1⟩:=ex (w.alloc (.cells #[.func (.func 125) #[] #[]] 130));obtain ⟨W2,hW2⟩:=ex (W1.alloc (.cells #[iv 0,iv 0] 29));obtain ⟨W3,hW3⟩:=ex (W2.alloc (.cells #[iv 0,iv 0] 29));obtain ⟨Wa,W4,hWa,hW4,hb4,hqa,hba,hq6⟩:=oneMade W3 4 (.bool false) (.bool true);have b1 : BW w W1:=by rw [← hW1]; exact belowA (belowR w) _
 have b2 : BW W1 W2:=by rw [← hW2]; exact belowA (belowR _) _
 have b3 : BW W2 W3:=by rw [← hW3]; exact belowA (belowR _) _
 have q3 : Blk W1 w.heap.size 130 #[.func (.func 125) #[] #[]]:=by rw [← hW1]; exact Blk.new w 130 _
 have q4 : Blk W2 W1.heap.size 29 #[iv 0,iv 0]:=by rw [← hW2]; exact Blk.new W1 29 _
 have q5 : Blk W3 W2.heap.size 29 #[iv 0,iv 0]:=by rw [← hW3]; exact Blk.new W2 29 _
 have z1 : W1.heap.size = w.heap.size + 1:=by rw [← hW1]; simp
 have z2 : W2.heap.size = W1.heap.size + 1:=by rw [← hW2]; simp
 have z3 : W3.heap.size = W2.heap.size + 1:=by rw [← hW3]; simp
 obtain ⟨g3,hg3⟩:=ex w.heap.size;obtain ⟨g4,hg4⟩:=ex W1.heap.size;obtain ⟨g5,hg5⟩:=ex W2.heap.size;obtain ⟨g6,hg6⟩:=ex W3.heap.size;rw [hg3] at q3;rw [hg4] at q4;rw [hg5] at q5;rw [hg6] at hW4 hqa hq6;have hbw4:=belowT b1 (belowT b2 (belowT b3 hb4));have HBW4:=Lq hbw4;have HNE : Hid (w.heap.size ≤ g3 ∧ g3 < g4 ∧ g4 < g5 ∧ g5 < g6 ∧ g6 < W4.heap.size ∧ tb < w.heap.size):=Lq (by have:=hq6.lt; have:=htb.lt; omega)
 have HIT:=Lq (corners103_iter tb x W4 (htb.keep hbw4));have HAT : Hid (∀ V,KeepM (fun k=>k = g5 ∨ k = g6) W4 V → ∀ c,c ∈ corL x → Calls Tryz.prog 125 #[c4V c] V (Rt V (iv (lieV c)))):=Lq fun V hV c hc=>(fun V _ c hc=>lie125_any c V hc) V hV c (corL_ok hx hc)
 have q34:=q3.keep (belowT b2 (belowT b3 hb4));have q44:=q4.keep (belowT b3 hb4);have HF : Hid (∀ V,KeepM (fun k=>k = g5 ∨ k = g6) W4 V → V.cell? ⟨g3,0,none⟩ = some (.func (.func 125) #[] #[])):=Lq fun V hV=>hV.cell (q34.c 0) (by have:=HNE.out; omega)
 have HQ4 : Hid (∀ V,KeepM (fun k=>k = g5 ∨ k = g6) W4 V → Blk V g4 29 #[iv 0,iv 0]):=Lq fun V hV=>q44.same (hV.same g4 (by have:=HNE.out; omega) q44.lt)
 have HI0 : Hid (ReachI W4 W4 g5 g6 []):=Lq ⟨KeepM.refl _ _,rfl,rfl,rfl,q5.keep hb4,hq6⟩;have af:=hqa.frozen 0;have ac:=hqa.c 0;have al:=hqa.lt;have h0:=HF.out W4 (KeepM.refl _ _);obtain ⟨CL,hCL⟩:=ex (corL x);rw [hCL] at HIT HAT ⊢;clear  htb hx b1 b2 b3 q3 q4 q5 z1 z2 z3 hb4 hqa hba hq6 hbw4 q34 q44 hCL;refine (callsIn_wide (n:=0)).1 ?_;refine callsIn_of_wp_marks Tryz.func56 rfl trivial ?_ rfl;simp only [Tryz.ntmps56,List.size_toArray,List.length_cons,List.length_nil,Nat.reduceAdd,Nat.reduceSub,Array.replicate_succ,Array.replicate_zero,List.push_toArray,List.append_toArray,List.nil_append,List.cons_append]
 gi_wp2_with fail
 clear af ac al h0 hWa hW4 hW1 hW2 hW3 hg3 hg4 hg5 hg6;refine rangeFunc_gen 0 103 #[.pointer (some ⟨tb,0,none⟩)] c4V CL (fun k=>k = g5 ∨ k = g6) (fun k=>k ≠ tb) rfl HIT.out (fun k hk=>by have:=HNE.out; omega) (by have:=HNE.out; omega) (fun args w=>enters_of Tryz.func103 (by kernel_rfl) rfl args w)
  (fun pre W=>ReachI W4 W g5 g6 (pre.map (lieV))) ?_ HI0.out ?_ ?_
 ·exact fun s X Y hX hb=>hX.below0 hb (by have:=HNE.out; omega) (by have:=HNE.out; omega)
 ·intro m l2 pre c W hI hpre hsz;have HC:=Lq (fun V hV=>HAT.out V hV c (hpre.subset (by simp)))
  obtain ⟨ca,cb,cc,cd⟩:=c;simp only [c4V];obtain ⟨Wa,Wb,hWa,hWb,hb1,hqa,hba,hq1⟩:=fourMade W 123 (iv 0) (iv 0) (iv 0) (iv 0) (iv ca) (iv cb) (iv cc) (iv cd);obtain ⟨g7,hg7⟩:=ex W.heap.size;rw [hg7] at hWb hqa hq1;have HB1:=Lq hb1;have HQ1:=Lq hq1;have hg7' : W4.heap.size + 2 < g7:=by omega
  obtain ⟨af0,af1,af2,af3⟩:=hqa.f4;obtain ⟨ac0,ac1,ac2,ac3⟩:=hqa.c4;have al:=hqa.lt;clear hb1 hqa hba hq1 hsz hI
  gi_wp2_with fail
  refine ⟨HB1.out, ?_⟩;rintro W2 hI hg2 hs2;have hq2 : Blk W2 g7 123 #[iv ca,iv cb,iv cc,iv cd]:=HQ1.out.grown hg2 (fun e=>by injection e with e; omega)
  obtain ⟨d0,d1,d2,d3⟩:=hq2.c4;have f0:=HF.out W2 hI.keep;have HI:=Lq hI;have HCA:=Lq (HC.out W2 hI.keep);clear hq2 hg2 hs2 af0 af1 af2 af3 ac0 ac1 ac2 ac3 al hWa hWb hg7 hI hpre
  gi_wp2_with fail
  refine ⟨trivial,hdd _,(CallsIn.inRound l2 (callsIn_wide.2 HCA.out)).mono ?_⟩;rintro e w7 ⟨rfl,hb⟩;have HI7:=Lq (HI.out.below hb);have hmap : (pre ++ [(⟨ca,cb,cc,cd⟩ : C4)]).map (lieV) = pre.map (lieV) ++ [(lieV) ⟨ca,cb,cc,cd⟩]:=by rw [List.map_append]; rfl
  obtain ⟨n,hn⟩:=ex ((lieV) ⟨ca,cb,cc,cd⟩);obtain ⟨vals,hvals⟩:=ex (pre.map (lieV));rw [hn,hvals] at hmap;rw [hvals] at HI7;have HMP:=Lq hmap;have hnE : iv ((lieV) ⟨ca,cb,cc,cd⟩) = iv n:=by rw [hn]
  have HWK : Hid (KeepM (fun k=>k = g5 ∨ k = g6) W2 w7):=Lq (KeepM.of_below hb)
  rw [hn];have hne : g6 ≠ g5:=by have:=HNE.out; omega
  have hne2 : g5 ≠ g6:=hne.symm;clear hb hmap hn hvals hnE d0 d1 d2 d3 f0 HCA HC HI;by_cases hv : vals = []
  ·subst hv;have hI7:=HI7.out;have s0 : w7.cell? ⟨g5,0,none⟩ = some (iv 0):=hI7.s.c 0;have s1 : w7.cell? ⟨g5,1,none⟩ = some (iv 0):=hI7.s.c 1;have sf:=hI7.s.frozen 0;have sg:=hI7.s.frozen 1;have sl:=hI7.s.lt;have f0 : w7.cell? ⟨g6,0,none⟩ = some (.bool true):=hI7.f.c 0;have ff:=hI7.f.frozen 0;have fl:=hI7.f.lt;have HO:=Lq (one91_any n w7);clear hI7
   gi_wp2_with fail
   refine ⟨trivial,hdd _,(CallsIn.inRound l2 (callsIn_wide.2 HO.out)).mono ?_⟩;rintro e w8 ⟨rfl,hb⟩;have hI8:=HI7.out.below hb;have HI8:=Lq hI8;have HWK8:=Lq (HWK.out.trans (KeepM.of_below hb));clear s0 s1 sf sg sl f0 ff fl HO hb;have s0 : w8.cell? ⟨g5,0,none⟩ = some (iv 0):=hI8.s.c 0;have s1 : w8.cell? ⟨g5,1,none⟩ = some (iv 0):=hI8.s.c 1;have sf:=hI8.s.frozen 0;have sg:=hI8.s.frozen 1;have sl:=hI8.s.lt;have f0 : w8.cell? ⟨g6,0,none⟩ = some (.bool true):=hI8.f.c 0;have ff:=hI8.f.frozen 0;have fl:=hI8.f.lt;have hp:=hI8.put0 n;have HP:=Lq hp;have HKP : Hid (KeepM (fun k=>k = g5 ∨ k = g6) W2 (((((w8.setCell ⟨g5,0,none⟩ (iv n)).setCell ⟨g5,1,none⟩ (iv n)).setCell ⟨g6,0,none⟩ (.bool false)).setCell ⟨g5,0,none⟩ (iv n)).setCell ⟨g5,1,none⟩ (iv n))):=Lq (((((HWK8.out.trans (KeepM.set1 0 _)).trans (KeepM.set1 1 _)).trans (KeepM.set2 0 _)).trans (KeepM.set1 0 _)).trans (KeepM.set1 1 _))
   clear hI8 hp
   gi_wp2_with fail
   refine ⟨HKP.out, ?_⟩;show ReachI _ _ _ _ ((pre ++ [(⟨ca,cb,cc,cd⟩ : C4)]).map (lieV))
   rw [HMP.out];exact HP.out
  ·have hI7:=HI7.out;have hp:=hI7.put hv n;obtain ⟨mn,hmn⟩:=ex (minL vals);obtain ⟨mx,hmx⟩:=ex (maxL vals);have hie : vals.isEmpty = false:=by cases vals with | nil=>exact absurd rfl hv | cons a r=>rfl
   have hs:=hI7.s;have hf:=hI7.f;rw [hmn,hmx] at hs hp;rw [hie] at hf;have s0:=hs.c 0;have s1:=hs.c 1;have sf:=hs.frozen 0;have sg:=hs.frozen 1;have sl:=hs.lt;have f0:=hf.c 0;clear hI7 hs hf hmn hmx hie HI7;by_cases h1 : mn ≤ n <;> by_cases h2 : n ≤ mx
   ·rw [show min mn n = mn by omega,show max mx n = mx by omega] at hp
    have HP:=Lq hp;have HKP : Hid (KeepM (fun k=>k = g5 ∨ k = g6) W2 ((w7.setCell ⟨g5,0,none⟩ (iv mn)).setCell ⟨g5,1,none⟩ (iv mx))):=Lq ((HWK.out.trans (KeepM.set1 0 _)).trans (KeepM.set1 1 _))
    clear hp hv
    gi_wp2_with fail
    refine ⟨HKP.out, ?_⟩;show ReachI _ _ _ _ ((pre ++ [(⟨ca,cb,cc,cd⟩ : C4)]).map (lieV))
    rw [HMP.out];exact HP.out
   ·rw [show min mn n = mn by omega,show max mx n = n by omega] at hp
    have HP:=Lq hp;have HKP : Hid (KeepM (fun k=>k = g5 ∨ k = g6) W2 ((w7.setCell ⟨g5,0,none⟩ (iv mn)).setCell ⟨g5,1,none⟩ (iv n))):=Lq ((HWK.out.trans (KeepM.set1 0 _)).trans (KeepM.set1 1 _))
    clear hp hv
    gi_wp2_with fail
    refine ⟨HKP.out, ?_⟩;show ReachI _ _ _ _ ((pre ++ [(⟨ca,cb,cc,cd⟩ : C4)]).map (lieV))
    rw [HMP.out];exact HP.out
   ·rw [show min mn n = n by omega,show max mx n = mx by omega] at hp
    have HP:=Lq hp;have HKP : Hid (KeepM (fun k=>k = g5 ∨ k = g6) W2 ((w7.setCell ⟨g5,0,none⟩ (iv n)).setCell ⟨g5,1,none⟩ (iv mx))):=Lq ((HWK.out.trans (KeepM.set1 0 _)).trans (KeepM.set1 1 _))
    clear hp hv
    gi_wp2_with fail
    refine ⟨HKP.out, ?_⟩;show ReachI _ _ _ _ ((pre ++ [(⟨ca,cb,cc,cd⟩ : C4)]).map (lieV))
    rw [HMP.out];exact HP.out
   ·rw [show min mn n = n by omega,show max mx n = n by omega] at hp
    have HP:=Lq hp;have HKP : Hid (KeepM (fun k=>k = g5 ∨ k = g6) W2 ((w7.setCell ⟨g5,0,none⟩ (iv n)).setCell ⟨g5,1,none⟩ (iv n))):=Lq ((HWK.out.trans (KeepM.set1 0 _)).trans (KeepM.set1 1 _))
    clear hp hv
    gi_wp2_with fail
    refine ⟨HKP.out, ?_⟩;show ReachI _ _ _ _ ((pre ++ [(⟨ca,cb,cc,cd⟩ : C4)]).map (lieV))
    rw [HMP.out];exact HP.out
 ·intro W hI hsz hD;have HD:=Lq hD;obtain ⟨mn,hmn⟩:=ex (minL (CL.map (lieV)));obtain ⟨mx,hmx⟩:=ex (maxL (CL.map (lieV)));have hs:=hI.s;rw [hmn,hmx] at hs;have h4:=HQ4.out W hI.keep;have s0:=hs.c 0;have s1:=hs.c 1;have n0:=h4.c 0;have n1:=h4.c 1;have nf:=h4.frozen 0;have nf1:=h4.frozen 1;have nl:=h4.lt;have HI:=Lq hI;obtain ⟨W9,hW9⟩:=ex ((W.setCell ⟨g4,0,none⟩ (iv mn)).setCell ⟨g4,1,none⟩ (iv mx));have d0 : W9.cell? ⟨g4,0,none⟩ = some (iv mn):=by rw [← hW9]; exact ((h4.set_ 0 _).set_ 1 _).cell 0
  have d1 : W9.cell? ⟨g4,1,none⟩ = some (iv mx):=by rw [← hW9]; exact ((h4.set_ 0 _).set_ 1 _).cell 1
  have HW9 : Hid (W9 = (W.setCell ⟨g4,0,none⟩ (iv mn)).setCell ⟨g4,1,none⟩ (iv mx)):=Lq hW9.symm;have HDX : Hid (W9.heap[W4.heap.size]? = some (.deferred (some []))):=Lq (by
   rw [← hW9,Below.heap_setCell _ _ _ _ (by show _ ≠ g4; have:=HNE.out; omega),Below.heap_setCell _ _ _ _ (by show _ ≠ g4; have:=HNE.out; omega)]
   exact HD.out)
  have HBX : Hid (BW w W9):=Lq (by
   have h1:=HI.out.fin HBW4.out (by have:=HNE.out; omega) (by have:=HNE.out; omega)
   rw [← hW9];exact belowS (belowS h1 (by show _ ≤ g4; have:=HNE.out; omega) _) (by show _ ≤ g4; have:=HNE.out; omega) _)
  clear hI hD hs h4 hsz
  gi_wp2_with fail
  refine ⟨by simp,.inl ⟨_,_,rfl,run_takeDeferred HDX.out, ?_⟩⟩
  have hby : BW w (W9.putObj W4.heap.size (.deferred none)):=⟨HBX.out.os,HBX.out.tape,HBX.out.output,by rw [show (W9.putObj W4.heap.size (.deferred none)).heap.size = W9.heap.size by simp [World.putObj]]; exact HBX.out.size,fun k hk=>(World.putObj_heap_other (by have:=HBW4.out.size; omega)).trans (HBX.out.block k hk)⟩
  have y0 : (W9.putObj W4.heap.size (.deferred none)).cell? ⟨g4,0,none⟩ = some (iv mn):=(cell_put HDX.out rfl _ _).trans d0;have y1 : (W9.putObj W4.heap.size (.deferred none)).cell? ⟨g4,1,none⟩ = some (iv mx):=(cell_put HDX.out rfl _ _).trans d1;exact ⟨.agg #[iv mn,iv mx],by simp [results,Tryz.results56,go_sem,y0,y1],by rw [hmn,hmx],hby⟩
end
end Go.Proofs.YtpgfldcoojfheaaGreatDoor
namespace Go.Proofs.YtpgfldcoojfheaaGreatDoor
open Go.RowKit
theorem ranged19_any (n lo hi : Int) (w : World) : Calls Tryz.prog 19 #[iv n,iv lo,iv hi] w fun e w'=>e = .returned (iv (rangedE lo hi n)) ∧ w' = w:=by
 have HI:=Lq (in_any n lo hi w);have HV : Hid (rangedE lo hi n = if inB lo hi n then 0 else 7):=Lq rfl
 obtain ⟨b,hb⟩:=ex (inB lo hi n);rw [hb] at HI HV;clear hb;go_enter Tryz.func19,Tryz.ntmps19
 cases b
 ·go_wp2_with (go_at_call 20; refine HI.out.mono ?_; rintro e w' ⟨rfl,rfl⟩)
  go_ret
  exact ⟨ret_int HV.out.symm,rfl⟩
 ·go_wp2_with (go_at_call 20; refine HI.out.mono ?_; rintro e w' ⟨rfl,rfl⟩)
  go_ret
  exact ⟨ret_int HV.out.symm,rfl⟩
theorem worst_new3 (a b c : Int) (V : World) : Calls Tryz.prog 17 #[.slice (some ⟨V.heap.size,0,none⟩) 3 3] (V.alloc (.cells #[iv a,iv b,iv c] 36)) fun e w'=>e = .returned (iv (worstE [a,b,c])) ∧ BW V w':=by
 have hq : Blk (V.alloc (.cells #[iv a,iv b,iv c] 36)) V.heap.size 36 #[iv a,iv b,iv c]:=Blk.new V 36 _;refine (worst17_any (some ⟨V.heap.size,0,none⟩) [a,b,c] _ 3 _ (by unfold maxLen; simp) (fun i x hx=>⟨V.heap.size,0,rfl,hq.lt, ?_⟩)).mono ?_
 ·rw [hq.cell]
  match i,hx with
  | 0,hx=>injection hx with hx; subst hx; rfl
  | 1,hx=>injection hx with hx; subst hx; rfl
  | 2,hx=>injection hx with hx; subst hx; rfl
 ·rintro e w' ⟨rfl,hb⟩;exact ⟨rfl,belowT (belowA (belowR V) _) hb⟩
theorem worst_new2 (a b : Int) (V : World) : Calls Tryz.prog 17 #[.slice (some ⟨V.heap.size,0,none⟩) 2 2] (V.alloc (.cells #[iv a,iv b] 36)) fun e w'=>e = .returned (iv (worstE [a,b])) ∧ BW V w':=by
 have hq : Blk (V.alloc (.cells #[iv a,iv b] 36)) V.heap.size 36 #[iv a,iv b]:=Blk.new V 36 _;refine (worst17_any (some ⟨V.heap.size,0,none⟩) [a,b] _ 2 _ (by unfold maxLen; simp) (fun i x hx=>⟨V.heap.size,0,rfl,hq.lt, ?_⟩)).mono ?_
 ·rw [hq.cell]
  match i,hx with
  | 0,hx=>injection hx with hx; subst hx; rfl
  | 1,hx=>injection hx with hx; subst hx; rfl
 ·rintro e w' ⟨rfl,hb⟩;exact ⟨rfl,belowT (belowA (belowR V) _) hb⟩
def tideE (t : TdT) : Int:=worstE [rangedE 0 40000 t.day,rangeE 0 1500 t.hlo t.hhi,rangeE (-200) 200 t.wlo t.whi]
theorem tideE_iff (t : TdT) : tideE t = 0 ↔ TideOk t:=by
 unfold tideE;rw [worst3 (ranged_errV _ _ _) (range_errV _ _ _ _) (range_errV _ _ _ _),ranged_iff,range_iff,range_iff];exact ⟨fun h=>⟨h.1,h.2.1,h.2.2⟩,fun h=>⟨h.day,h.h,h.w⟩⟩
def ErrI (P : Prop) (w : World) (e : Ending) (w' : World) : Prop:=∃ r : Int,e = .returned (iv r) ∧ (r = 0 ↔ P) ∧ BW w w'
theorem tide21_any (A : Option Addr) (ts : List TdT) (cap k : Nat) (t : TdT) (w : World) (H : TsRd w w.heap.size A cap ts) (hk : ts[k]? = some t) :
  Calls Tryz.prog 21 #[.slice A ts.length cap,iv k] w (ErrI (TideOk t ∧ (0 < k → ∀ t',ts[k - 1]? = some t' → t'.day ≤ t.day)) w):=by
 have hkl:=(List.getElem?_eq_some_iff.1 hk).1;have hk0 : (0 : Int) ≤ (k : Int):=by omega
 have hkn : (k : Int) < (ts.length : Int):=by omega
 have hm9 : ts.length ≤ 9223372036854775807:=by have:=H.le; have:=H.max; simp only [maxLen] at this; omega
 obtain ⟨b,off,rfl,_,c0,c1,c2,c3,c4⟩:=H.at hk;have HPV : Hid (0 < k → ∀ V,BW w V → ∃ t',ts[k - 1]? = some t' ∧ V.cell? ⟨b,off + (k - 1) * 5,none⟩ = some (iv t'.day)):=Lq fun h0 V hb=>by
  obtain ⟨t',ht'⟩ : ∃ x,ts[k - 1]? = some x:=⟨_,List.getElem?_eq_getElem (by omega)⟩
  obtain ⟨b',off',e,_,d0,_⟩:=H.at ht';injection e with e
  injection e with e1 e2
  subst e1 e2;exact ⟨t',ht',keepC hb d0⟩
 have HOK:=Lq (tideE_iff t);obtain ⟨td,h1,h2,v1,v2⟩:=t;simp only at c0 c1 c2 c3 c4;have HS : Hid (∀ W,BW w W → W.cell? ⟨b,off + k * 5,none⟩ = some (iv td) ∧ W.cell? ⟨b,off + k * 5 + 1,none⟩ = some (iv h1) ∧ W.cell? ⟨b,off + k * 5 + 2,none⟩ = some (iv h2) ∧ W.cell? ⟨b,off + k * 5 + 3,none⟩ = some (iv v1) ∧ W.cell? ⟨b,off + k * 5 + 4,none⟩ = some (iv v2)):=Lq fun W hb=>⟨keepC hb c0,keepC hb c1,keepC hb c2,keepC hb c3,keepC hb c4⟩
 obtain ⟨e1,he1⟩:=ex (rangedE 0 40000 td);obtain ⟨e2,he2⟩:=ex (rangeE 0 1500 h1 h2);obtain ⟨e3,he3⟩:=ex (rangeE (-200) 200 v1 v2);obtain ⟨r,hr⟩:=ex (worstE [e1,e2,e3]);have hr2 : tideE ⟨td,h1,h2,v1,v2⟩ = r:=by unfold tideE; simp only; rw [he1,he2,he3,hr]
 rw [hr2] at HOK;have H1 : Hid (∀ V,Calls Tryz.prog 19 #[iv td,iv 0,iv 40000] V fun e w'=>e = .returned (iv e1) ∧ w' = V):=Lq fun V=>he1 ▸ ranged19_any td 0 40000 V
 have H2 : Hid (∀ V,BW w V → Calls Tryz.prog 18 #[.agg #[iv h1,iv h2],iv 0,iv 1500] V fun e w'=>e = .returned (iv e2) ∧ BW w w'):=Lq fun V hb=>(he2 ▸ range_any 0 1500 h1 h2 V).mono fun e w' h=>⟨h.1,belowT hb h.2⟩
 have H3 : Hid (∀ V,BW w V → Calls Tryz.prog 18 #[.agg #[iv v1,iv v2],iv (-200),iv 200] V fun e w'=>e = .returned (iv e3) ∧ BW w w'):=Lq fun V hb=>(he3 ▸ range_any (-200) 200 v1 v2 V).mono fun e w' h=>⟨h.1,belowT hb h.2⟩
 have H4 : Hid (∀ V,BW w V → Calls Tryz.prog 17 #[.slice (some ⟨V.heap.size,0,none⟩) 3 3] (V.alloc (.cells #[iv e1,iv e2,iv e3] 36)) fun e w'=>e = .returned (iv r) ∧ BW w w'):=Lq fun V hb=>(hr ▸ worst_new3 e1 e2 e3 V).mono fun e w' h=>⟨h.1,belowT hb h.2⟩
 clear he1 he2 he3 hr hr2 H;have HKN:=Lq hk;clear hk hkl;go_enter Tryz.func21,Tryz.ntmps21
 go_wp2_with fail
 go_region_held3 (fun W=>W.cell? ⟨b,off + k * 5,none⟩ = some (iv td) ∧ W.cell? ⟨b,off + k * 5 + 1,none⟩ = some (iv h1) ∧ W.cell? ⟨b,off + k * 5 + 2,none⟩ = some (iv h2) ∧ W.cell? ⟨b,off + k * 5 + 3,none⟩ = some (iv v1) ∧ W.cell? ⟨b,off + k * 5 + 4,none⟩ = some (iv v2)) (first | exact HS.out _ (belowDr (belowR _)) | (refine HS.out _ ?_; assumption) | exact HS.out _ (belowA hbc _)) ((first | (go_at_call 19; ((with_reducible refine (H1.out _).mono ?_); rintro e wa ⟨rfl,rfl⟩)) | (go_at_call 18; ((with_reducible refine (H2.out _ (belowDr (belowR _))).mono ?_); rintro e wb ⟨rfl,hbb⟩)) | (go_at_call 18; ((with_reducible refine (H3.out _ hbb).mono ?_); rintro e wc ⟨rfl,hbc⟩)) | (go_at_call 17; ((with_reducible refine (H4.out _ hbc).mono ?_); rintro e wd ⟨rfl,hbd⟩))))
 have HB:=Lq hbd;clear hbb hbc hbd;by_cases hr0 : r = 0
 ·subst hr0;have HT:=Lq (HOK.out.1 rfl);clear HOK;cases k with
  | zero =>
   clear HPV;go_wp2_with fail
   go_quiet (fail)
   rename_i nq;have HQ : Hid (BW w (wd.drewN nq)):=Lq (belowN HB.out _);generalize wd.drewN nq = w9 at HQ ⊢;go_wp2_with fail
   go_ret
   exact ⟨0,rfl,⟨fun _=>⟨HT.out,fun h=>absurd h (by omega)⟩,fun _=>rfl⟩,HQ.out⟩
  | succ j =>
   obtain ⟨t',ht',hc'⟩:=HPV.out (by omega) _ HB.out
   obtain ⟨y,hy⟩:=ex t'.day;simp only [Nat.add_sub_cancel] at ht' hc';rw [hy] at hc';have HT':=Lq (show ts[j]? = some t' ∧ t'.day = y from ⟨ht',hy⟩)
   have a0:=(HS.out _ HB.out).1;have hkj : ((j + 1 : Nat) : Int) - 1 = (j : Int):=by omega
   have hkw : IntKind.i64.wrap (((j + 1 : Nat) : Int) - 1) = (j : Int):=by rw [IntKind.wrap_i64]; omega
   have hj0 : (0 : Int) ≤ (j : Int):=by omega
   have hjn : (j : Int) < (ts.length : Int):=by omega
   have hkp : (0 : Int) < ((j + 1 : Nat) : Int):=by omega
   clear HPV ht' hy;by_cases hlt : td < y
   ·go_wp2_with fail
    go_quiet (fail)
    rename_i nq;have HQ : Hid (BW w (wd.drewN nq)):=Lq (belowN HB.out _);generalize wd.drewN nq = w9 at HQ ⊢;go_wp2_with fail
    go_ret
    refine ⟨2,rfl,⟨fun h=>absurd h (by decide),fun h=>?_⟩,HQ.out⟩
    have:=h.2 (by omega) t' HT'.out.1
    rw [HT'.out.2] at this;omega
   ·go_wp2_with fail
    go_quiet (fail)
    rename_i nq;have HQ : Hid (BW w (wd.drewN nq)):=Lq (belowN HB.out _);generalize wd.drewN nq = w9 at HQ ⊢;go_wp2_with fail
    go_ret
    refine ⟨0,rfl,⟨fun _=>⟨HT.out,fun _ t2 h2=>?_⟩,fun _=>rfl⟩,HQ.out⟩
    simp only [Nat.add_sub_cancel] at h2;rw [HT'.out.1] at h2;injection h2 with h2
    subst h2;rw [HT'.out.2];omega
 ·have hrb : (r == 0) = false:=by simpa using hr0
  clear HPV;go_wp2_with fail
  go_quiet (fail)
  rename_i nq;have HQ : Hid (BW w (wd.drewN nq)):=Lq (belowN HB.out _);generalize wd.drewN nq = w9 at HQ ⊢;go_wp2_with fail
  go_ret
  exact ⟨r,rfl,⟨fun h=>absurd h hr0,fun h=>absurd (HOK.out.2 h.1) hr0⟩,HQ.out⟩
theorem check5_any (A : Option Addr) (ts : List TdT) (cap : Nat) (b : TdB) (w : World) (H : TsRd w w.heap.size A cap ts) :
  Calls Tryz.prog 5 #[bV b A ts.length cap,.agg #[iv 0,iv 0,iv 0]] w (Chk3 (BeachOk b ts) w):=by
 obtain ⟨slo,shi,mlo,mhi,bite⟩:=b;obtain ⟨W1,hW1⟩:=ex (w.alloc (.cells #[iv slo,iv shi,iv mlo,iv mhi,iv bite,.slice A ts.length cap] 32));obtain ⟨W2,hW2⟩:=ex (W1.alloc (.cells #[iv 0,iv 0,iv 0] 41));have b1 : BW w W1:=by rw [← hW1]; exact belowA (belowR w) _
 have b2 : BW W1 W2:=by rw [← hW2]; exact belowA (belowR _) _
 have q1 : Blk W1 w.heap.size 32 #[iv slo,iv shi,iv mlo,iv mhi,iv bite,.slice A ts.length cap]:=by rw [← hW1]; exact Blk.new w 32 _
 have q2 : Blk W2 W1.heap.size 41 #[iv 0,iv 0,iv 0]:=by rw [← hW2]; exact Blk.new W1 41 _
 obtain ⟨g2,hg2⟩:=ex w.heap.size;obtain ⟨g3,hg3⟩:=ex W1.heap.size;rw [hg2] at q1;rw [hg3] at q2;have hm9 : ts.length ≤ 9223372036854775807:=by have:=H.le; have:=H.max; simp only [maxLen] at this; omega
 have HH:=Lq ((H.below (belowT b1 b2) (Nat.le_refl _)).more (belowT b1 b2).size);have HB2:=Lq (belowT b1 b2);have q12:=q1.keep b2;have HS : Hid (∀ W,BW W2 W → W.cell? ⟨g2,0,none⟩ = some (iv slo) ∧ W.cell? ⟨g2,1,none⟩ = some (iv shi) ∧ W.cell? ⟨g2,2,none⟩ = some (iv mlo) ∧ W.cell? ⟨g2,3,none⟩ = some (iv mhi) ∧ W.cell? ⟨g2,4,none⟩ = some (iv bite)):=Lq fun W hb=>have k:=q12.keep hb; ⟨k.c 0,k.c 1,k.c 2,k.c 3,k.c 4⟩
 have HA : Hid (∀ W,BW W2 W → W.cell? ⟨g2,5,none⟩ = some (.slice A ts.length cap)):=Lq fun W hb=>(q12.keep hb).c 5
 have HS2 : Hid (∀ W,BW W2 W → W.cell? ⟨g3,0,none⟩ = some (iv 0) ∧ W.cell? ⟨g3,1,none⟩ = some (iv 0) ∧ W.cell? ⟨g3,2,none⟩ = some (iv 0)):=Lq fun W hb=>have k:=q2.keep hb; ⟨k.c 0,k.c 1,k.c 2⟩
 obtain ⟨e1,he1⟩:=ex (rangeE 1 200 slo shi);obtain ⟨e2,he2⟩:=ex (rangeE (-2000000) 2000000 mlo mhi);obtain ⟨e3,he3⟩:=ex (rangedE 0 200 bite);obtain ⟨r,hr⟩:=ex (worstE [e1,e2,e3]);have hok : r = 0 ↔ (1 ≤ slo ∧ slo ≤ shi ∧ shi ≤ 200) ∧ (-2000000 ≤ mlo ∧ mlo ≤ mhi ∧ mhi ≤ 2000000) ∧ 0 ≤ bite ∧ bite ≤ 200:=by
  rw [← hr,← he1,← he2,← he3,worst3 (range_errV _ _ _ _) (range_errV _ _ _ _) (ranged_errV _ _ _),ranged_iff,range_iff,range_iff]
 have HOK:=Lq hok;have H1 : Hid (∀ V,BW W2 V → Calls Tryz.prog 18 #[.agg #[iv slo,iv shi],iv 1,iv 200] V fun e w'=>e = .returned (iv e1) ∧ BW W2 w'):=Lq fun V hb=>(he1 ▸ range_any 1 200 slo shi V).mono fun e w' h=>⟨h.1,belowT hb h.2⟩
 have H2 : Hid (∀ V,BW W2 V → Calls Tryz.prog 18 #[.agg #[iv mlo,iv mhi],iv (-2000000),iv 2000000] V fun e w'=>e = .returned (iv e2) ∧ BW W2 w'):=Lq fun V hb=>(he2 ▸ range_any (-2000000) 2000000 mlo mhi V).mono fun e w' h=>⟨h.1,belowT hb h.2⟩
 have H3 : Hid (∀ V,Calls Tryz.prog 19 #[iv bite,iv 0,iv 200] V fun e w'=>e = .returned (iv e3) ∧ w' = V):=Lq fun V=>he3 ▸ ranged19_any bite 0 200 V
 have H4 : Hid (∀ V,BW W2 V → Calls Tryz.prog 17 #[.slice (some ⟨V.heap.size,0,none⟩) 3 3] (V.alloc (.cells #[iv e1,iv e2,iv e3] 36)) fun e w'=>e = .returned (iv r) ∧ BW W2 w'):=Lq fun V hb=>(hr ▸ worst_new3 e1 e2 e3 V).mono fun e w' h=>⟨h.1,belowT hb h.2⟩
 have HI:=Lq (fun n V=>in_any n 1 12 V)
 have K1 : Hid (∀ V,BW W2 V → Calls Tryz.prog 18 #[.agg #[iv 0,iv 0],iv 0,iv 1500] V fun e w'=>e = .returned (iv 0) ∧ BW W2 w'):=Lq fun V hb=>((show rangeE 0 1500 0 0 = 0 by decide) ▸ range_any 0 1500 0 0 V).mono fun e w' h=>⟨h.1,belowT hb h.2⟩
 have K2 : Hid (∀ V,Calls Tryz.prog 19 #[iv 0,iv 0,iv 50] V fun e w'=>e = .returned (iv 0) ∧ w' = V):=Lq fun V=>(show rangedE 0 50 0 = 0 by decide) ▸ ranged19_any 0 0 50 V
 have K3 : Hid (∀ V,BW W2 V → Calls Tryz.prog 17 #[.slice (some ⟨V.heap.size,0,none⟩) 2 2] (V.alloc (.cells #[iv 0,iv 0] 36)) fun e w'=>e = .returned (iv 0) ∧ BW W2 w'):=Lq fun V hb=>((show worstE [0,0] = 0 by decide) ▸ worst_new2 0 0 V).mono fun e w' h=>⟨h.1,belowT hb h.2⟩
 obtain ⟨c0,c1,c2,c3,c4⟩:=HS.out _ (belowR W2);clear he1 he2 he3 hr hok H b1 b2 q1 q2 q12;go_enter Tryz.func5,Tryz.ntmps5
 go_wp2_with fail
 go_region_held3 (fun W=>W.cell? ⟨g2,0,none⟩ = some (iv slo) ∧ W.cell? ⟨g2,1,none⟩ = some (iv shi) ∧ W.cell? ⟨g2,2,none⟩ = some (iv mlo) ∧ W.cell? ⟨g2,3,none⟩ = some (iv mhi) ∧ W.cell? ⟨g2,4,none⟩ = some (iv bite)) (first | exact HS.out _ (belowDr (belowR _)) | (refine HS.out _ ?_; assumption) | exact HS.out _ (belowA hb2 _)) ((first | (go_at_call 18; ((with_reducible refine (H1.out _ (belowDr (belowR _))).mono ?_); rintro e wa ⟨rfl,hb1⟩)) | (go_at_call 18; ((with_reducible refine (H2.out _ hb1).mono ?_); rintro e wb ⟨rfl,hb2⟩)) | (go_at_call 19; ((with_reducible refine (H3.out _).mono ?_); rintro e wc ⟨rfl,rfl⟩)) | (go_at_call 17; ((with_reducible refine (H4.out _ hb2).mono ?_); rintro e wd ⟨rfl,hb3⟩))))
 have HB3:=Lq hb3;have HB:=Lq (belowT HB2.out hb3);clear hb1 hb2 hb3 H1 H2 H3 H4 hW1 hW2 c0 c1 c2 c3 c4;by_cases hr0 : r = 0
 ·subst hr0;have HT:=Lq (HOK.out.1 rfl);clear HOK;have a5:=HA.out _ HB3.out;obtain ⟨il,hil⟩:=ex (inB 1 12 ts.length);have HIL:=Lq hil;have HI2 : Hid (∀ V,Calls Tryz.prog 20 #[iv ts.length,iv 1,iv 12] V fun e w'=>e = .returned (.bool il) ∧ V = w'):=Lq fun V=>hil ▸ HI.out ts.length V
  clear hil HI;cases il
  ·go_wp2_with (go_at_call 20; refine (HI2.out _).mono ?_; rintro e w' ⟨rfl,rfl⟩)
   go_ret3
   refine chk3No (by decide) (fun h=>?_) HB.out
   have h1:=h.ts.len;have h2:=inB_f HIL.out;omega
  ·have hin:=inB_t HIL.out;go_wp2_with (go_at_call 20; refine (HI2.out _).mono ?_; rintro e w' ⟨rfl,rfl⟩)
   clear a5;go_loopw [8] (fun i wr=>∃ k : Nat,k ≤ ts.length ∧ i = iv k ∧ Hid (∀ j t,j < k → ts[j]? = some t → TideOk t ∧ (0 < j → ∀ t',ts[j - 1]? = some t' → t'.day ≤ t.day)) ∧ Hid (BW W2 wr)) (fun i _=>ts.length - (intOf i).toNat)
   case atStart=>exact ⟨0,by omega,rfl,Lq (fun j m h=>by omega),HB3⟩
   case round =>
    obtain ⟨k,hk,rfl,HP,HBR⟩:=hrel;have a5:=HA.out _ HBR.out;have hk0 : (0 : Int) ≤ (k : Int):=by omega
    by_cases hlt : k < ts.length
    ·obtain ⟨t,ht⟩ : ∃ x,ts[k]? = some x:=⟨_,List.getElem?_eq_getElem hlt⟩;have HT21:=Lq (tide21_any A ts cap k t _ ((HH.out.below HBR.out (Nat.le_refl _)).more HBR.out.size) ht);have HTK:=Lq ht;clear ht;go_wp2_with fail
     refine HT21.out.mono ?_;rintro e w5 ⟨r,rfl,hr,hb⟩;have HR:=Lq hr;have HB5:=Lq (belowT HBR.out hb);clear hr hb a5 HT21;by_cases hr0 : r = 0
     ·subst hr0;have HR0:=Lq (HR.out.1 rfl);clear HR;go_wp2_with fail
      go_roundw
      case rel =>
       refine ⟨k + 1,by omega,by go_num,Lq (fun j t2 hj h2=>?_),HB5⟩
       rcases Nat.lt_or_ge j k with hjk | hjk
       ·exact HP.out j t2 hjk h2
       ·obtain rfl : j = k:=by omega
        rw [HTK.out] at h2;injection h2 with h2
        subst h2;exact HR0.out
      case measure=>simp [intOf]; omega
     ·have hr1 : (r != 0) = true:=by simpa using hr0
      go_wp2_with fail
      go_ret3
      exact chk3No hr0 (fun h=>hr0 (HR.out.2 (h.ts.one k _ HTK.out))) (belowT HB2.out HB5.out)
    ·obtain rfl : k = ts.length:=by omega
     have HBO : Hid (BeachOk ⟨slo,shi,mlo,mhi,bite⟩ ts):=Lq ⟨HT.out.1,HT.out.2.1,HT.out.2.2,⟨by omega,fun i t hi=>HP.out i t (List.getElem?_eq_some_iff.1 hi).1 hi⟩⟩
     obtain ⟨s0,s1,s2⟩:=HS2.out _ HBR.out;clear HP;go_wp2_with fail
     go_region_held3 (fun W=>W.cell? ⟨g3,0,none⟩ = some (iv 0) ∧ W.cell? ⟨g3,1,none⟩ = some (iv 0) ∧ W.cell? ⟨g3,2,none⟩ = some (iv 0)) (first | exact HS2.out _ (belowDr HBR.out) | (refine HS2.out _ ?_; assumption) | exact HS2.out _ (belowA hb1 _)) ((first | (go_at_call 18; ((with_reducible refine (K1.out _ (belowDr HBR.out)).mono ?_); rintro e wa ⟨rfl,hb1⟩)) | (go_at_call 19; ((with_reducible refine (K2.out _).mono ?_); rintro e wc ⟨rfl,rfl⟩)) | (go_at_call 17; ((with_reducible refine (K3.out _ hb1).mono ?_); rintro e wd ⟨rfl,hb3⟩))))
     have HB9:=Lq (belowT HB2.out hb3);clear hb1 hb3 s0 s1 s2;go_wp2_with fail
     go_ret3
     exact chk3Ok HBO.out HB9.out
 ·have hr1 : (r != 0) = true:=by simpa using hr0
  go_wp2_with fail
  go_ret3
  exact chk3No hr0 (fun h=>hr0 (HOK.out.2 ⟨h.s,h.m,h.bite⟩)) HB.out
end Go.Proofs.YtpgfldcoojfheaaGreatDoor
