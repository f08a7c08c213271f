/- The examples of layer 1: the plan (printed by mkHA2.py). The examples of layer 1: the plan as a whole (printed by mkHA3.py). The examples of layer 1: what they come to. -/
import Derived.Lib.Strings
import Derived.Test.YtpgfldcoojfheaaGreatDoorM0
import Derived.Test.YtpgfldcoojfheaaGreatDoorM9
import Derived.Test.YtpgfldcoojfheaaGreatDoorM22
set_option maxRecDepth 1000000
set_option maxHeartbeats 16000000
namespace Go.Proofs.YtpgfldcoojfheaaGreatDoor
open Go.RowKit
section
variable {V w : World} {z1 z10 z11 z12 z13 z14 z15 z16 z17 z18 z19 z20 z21 z22 z26 z4 z5 z6 z7 z8 z9 : Value} {g12 g16 g19 g2 n : Nat} {Q : Exit → Act → World → Prop}
theorem rd3 {P : Program} {ops : Array Oper} {md : Region.Mode} {S : World → Prop} {fuel : Nat} {listed l1 l2 l3 : Array Bool} {a : Act} (i j k : Nat) {o p q : Oper} (h : ∀ K' : Act → World → Prop,Shut (∀ a w,S w → (S w → wpAnyH P md ops Q S fuel l1 a w) → K' a w) → if Region.wanted o (yielded ops a.tmps) = true then Oper.wp P o a w K' Q else K' (a.put o.dst undef) w)
  (h2 : ∀ K' : Act → World → Prop,Shut (∀ a w,S w → (S w → wpAnyH P md ops Q S fuel l2 a w) → K' a w) → if Region.wanted p (yielded ops a.tmps) = true then Oper.wp P p a w K' Q else K' (a.put p.dst undef) w)
  (h3 : ∀ K' : Act → World → Prop,Shut (∀ a w,S w → (S w → wpAnyH P md ops Q S fuel l3 a w) → K' a w) → if Region.wanted q (yielded ops a.tmps) = true then Oper.wp P q a w K' Q else K' (a.put q.dst undef) w)
  (ho : opN ops i = o:=by
   (conv=>lhs; whnf) <;> rfl)
  (hp : opN ops j = p:=by
   (conv=>lhs; whnf) <;> rfl)
  (hq : opN ops k = q:=by
   (conv=>lhs; whnf) <;> rfl)
  (hi : ops[i]? = some (opN ops i):=by kernel_rfl) (hj : ops[j]? = some (opN ops j):=by kernel_rfl) (hk : ops[k]? = some (opN ops k):=by kernel_rfl) (hr : Region.ready md ops listed = [i,j,k]:=by kernel_rfl)
  (hl : listed.setIfInBounds i true = l1:=by
   simp only [List.setIfInBounds_toArray,List.set_cons_zero,List.set_cons_succ];rfl)
  (hl2 : listed.setIfInBounds j true = l2:=by
   simp only [List.setIfInBounds_toArray,List.set_cons_zero,List.set_cons_succ];rfl)
  (hl3 : listed.setIfInBounds k true = l3:=by
   simp only [List.setIfInBounds_toArray,List.set_cons_zero,List.set_cons_succ];rfl) : wpAnyH P md ops Q S (fuel + 1) listed a w:=by
 subst hl hl2 hl3 ho hp hq;exact wpAnyH_ready hr (by simp) (AllReadyH.cons hi h (AllReadyH.cons hj h2 (AllReadyH.cons hk h3 AllReadyH.nil)))
noncomputable def ops22_2 : Array Oper:=opsOf (regionOf Tryz.f22 2)
abbrev hHA21 (Q : Exit → Act → World → Prop) (V : World) (n g2 g12 : Nat) (z1 z4 z5 z6 z7 z8 z9 z10 z11 z12 : Value) : Prop:=∀ u13 u14 u15 u16 u17 u18 u19 u20 u21 u22 u23 u24 u25 u26 g16 g19 g21 W',BW V W' → Blk W' g16 9 #[.string ⟨#[107,101,101,108]⟩] → Blk W' g19 9 #[.string ⟨#[116,97,110,107,49]⟩,.string ⟨#[107,101,101,108]⟩] → Blk W' g21 47 #[.string ⟨#[107,101,101,108]⟩,iv 2,iv 0,iv 40,.slice none 0 0,iv 9000,iv 10000,.string ⟨#[116,97,110,107,49]⟩,iv 4,iv 10,iv 19,.slice (some ⟨g16,0,none⟩) 1 1,iv 2000,iv 2500,.string ⟨#[100,101,99,107]⟩,iv 1,iv 5,iv 24,.slice (some ⟨g19,0,none⟩) 2 2,iv 3000,iv 3000] → Q .normal ⟨#[iv n,z1,.pointer (some ⟨g2,0,none⟩),.slice (some ⟨g12,0,none⟩) 2 2,z4,z5,z6,z7,z8,z9,z10,z11,z12,u13,u14,u15,u16,u17,u18,u19,u20,u21,u22,u23,u24,u25,u26],[]⟩ ((W'.setCell ⟨g2,0,none⟩ (.slice (some ⟨g21,0,none⟩) 3 3)).setCell ⟨g2,1,none⟩ (.slice (some ⟨g12,0,none⟩) n 2))
theorem st22_2_0_1_2_3_4_5_6_7_8 {g21 : Nat} (HN : Hid (n ≤ 2)) (HG : Hid (Blk V g2 27 #[.slice none 0 0,.slice none 0 0])) (HQ : Hid (hHA21 Q V n g2 g12 z1 z4 z5 z6 z7 z8 z9 z10 z11 z12)) (HB : Hid (BW V w)) (H16 : Hid (Blk w g16 9 #[.string ⟨#[107,101,101,108]⟩])) (H19 : Hid (Blk w g19 9 #[.string ⟨#[116,97,110,107,49]⟩,.string ⟨#[107,101,101,108]⟩])) (H21 : Hid (Blk w g21 47 #[.string ⟨#[107,101,101,108]⟩,iv 2,iv 0,iv 40,.slice none 0 0,iv 9000,iv 10000,.string ⟨#[116,97,110,107,49]⟩,iv 4,iv 10,iv 19,.slice (some ⟨g16,0,none⟩) 1 1,iv 2000,iv 2500,.string ⟨#[100,101,99,107]⟩,iv 1,iv 5,iv 24,.slice (some ⟨g19,0,none⟩) 2 2,iv 3000,iv 3000])) :
  wpAnyH Tryz.prog .any ops22_2 (NoPanic Q) (fun _=>True) 3 #[true,true,true,true,true,true,true,true,true,false,true,true,true,false,false] ⟨#[iv n,z1,.pointer (some ⟨g2,0,none⟩),.slice (some ⟨g12,0,none⟩) 2 2,z4,z5,z6,z7,z8,z9,z10,z11,z12,.agg #[iv 9000,iv 10000],.agg #[.string ⟨#[107,101,101,108]⟩,iv 2,iv 0,iv 40,.slice none 0 0,iv 9000,iv 10000],.agg #[iv 2000,iv 2500],.slice (some ⟨g16,0,none⟩) 1 1,.agg #[.string ⟨#[116,97,110,107,49]⟩,iv 4,iv 10,iv 19,.slice (some ⟨g16,0,none⟩) 1 1,iv 2000,iv 2500],.agg #[iv 3000,iv 3000],.slice (some ⟨g19,0,none⟩) 2 2,.agg #[.string ⟨#[100,101,99,107]⟩,iv 1,iv 5,iv 24,.slice (some ⟨g19,0,none⟩) 2 2,iv 3000,iv 3000],.slice (some ⟨g21,0,none⟩) 3 3,z22,.slice (some ⟨g12,0,none⟩) 2 2,iv n,.slice (some ⟨g12,0,none⟩) n 2,z26],[]⟩ w:=by
 have _hn:=HN.out;refine tk 9 (.agg #[.slice (some ⟨g21,0,none⟩) 3 3]) ?_;refine tk 13 (.agg #[.slice (some ⟨g21,0,none⟩) 3 3,.slice (some ⟨g12,0,none⟩) n 2]) ?_;refine rd1 14 fun K' hK=>?_
 have bg:=HG.out.keep HB.out;have fg:=bg.frozen 0;have fg1:=bg.frozen 1;have lg:=bg.lt;have cg:=bg.c 0;have cg1:=bg.c 1;go_simp;refine hK.out _ _ trivial (fun _=>?_)
 clear hK;refine wpAnyH_done (by kernel_rfl) ?_ _
 exact NoPanic.normal (HQ.out _ _ _ _ _ _ _ _ _ _ _ _ _ _ _ _ _ _ HB.out H16.out H19.out H21.out)
theorem st22_2_0_1_2_3_4_5_6_7 (HN : Hid (n ≤ 2)) (HG : Hid (Blk V g2 27 #[.slice none 0 0,.slice none 0 0])) (HQ : Hid (hHA21 Q V n g2 g12 z1 z4 z5 z6 z7 z8 z9 z10 z11 z12)) (HB : Hid (BW V w)) (H16 : Hid (Blk w g16 9 #[.string ⟨#[107,101,101,108]⟩])) (H19 : Hid (Blk w g19 9 #[.string ⟨#[116,97,110,107,49]⟩,.string ⟨#[107,101,101,108]⟩])) :
  wpAnyH Tryz.prog .any ops22_2 (NoPanic Q) (fun _=>True) 4 #[true,true,true,true,true,true,true,true,false,false,true,true,true,false,false] ⟨#[iv n,z1,.pointer (some ⟨g2,0,none⟩),.slice (some ⟨g12,0,none⟩) 2 2,z4,z5,z6,z7,z8,z9,z10,z11,z12,.agg #[iv 9000,iv 10000],.agg #[.string ⟨#[107,101,101,108]⟩,iv 2,iv 0,iv 40,.slice none 0 0,iv 9000,iv 10000],.agg #[iv 2000,iv 2500],.slice (some ⟨g16,0,none⟩) 1 1,.agg #[.string ⟨#[116,97,110,107,49]⟩,iv 4,iv 10,iv 19,.slice (some ⟨g16,0,none⟩) 1 1,iv 2000,iv 2500],.agg #[iv 3000,iv 3000],.slice (some ⟨g19,0,none⟩) 2 2,.agg #[.string ⟨#[100,101,99,107]⟩,iv 1,iv 5,iv 24,.slice (some ⟨g19,0,none⟩) 2 2,iv 3000,iv 3000],z21,z22,.slice (some ⟨g12,0,none⟩) 2 2,iv n,.slice (some ⟨g12,0,none⟩) n 2,z26],[]⟩ w:=by
 refine rd1 8 (fun K' hK=>?_)
 ·skip;go_simp;have hb:=belowA (belowR w) (.cells #[.string ⟨#[107,101,101,108]⟩,iv 2,iv 0,iv 40,.slice none 0 0,iv 9000,iv 10000,.string ⟨#[116,97,110,107,49]⟩,iv 4,iv 10,iv 19,.slice (some ⟨g16,0,none⟩) 1 1,iv 2000,iv 2500,.string ⟨#[100,101,99,107]⟩,iv 1,iv 5,iv 24,.slice (some ⟨g19,0,none⟩) 2 2,iv 3000,iv 3000] 47);have hq:=Blk.new w 47 #[.string ⟨#[107,101,101,108]⟩,iv 2,iv 0,iv 40,.slice none 0 0,iv 9000,iv 10000,.string ⟨#[116,97,110,107,49]⟩,iv 4,iv 10,iv 19,.slice (some ⟨g16,0,none⟩) 1 1,iv 2000,iv 2500,.string ⟨#[100,101,99,107]⟩,iv 1,iv 5,iv 24,.slice (some ⟨g19,0,none⟩) 2 2,iv 3000,iv 3000];obtain ⟨w1,hw1⟩:=ex (w.alloc (.cells #[.string ⟨#[107,101,101,108]⟩,iv 2,iv 0,iv 40,.slice none 0 0,iv 9000,iv 10000,.string ⟨#[116,97,110,107,49]⟩,iv 4,iv 10,iv 19,.slice (some ⟨g16,0,none⟩) 1 1,iv 2000,iv 2500,.string ⟨#[100,101,99,107]⟩,iv 1,iv 5,iv 24,.slice (some ⟨g19,0,none⟩) 2 2,iv 3000,iv 3000] 47));obtain ⟨g21,hg1⟩:=ex w.heap.size;rw [hw1] at hb hq;rw [hg1] at hq;rw [hw1,hg1];have H21 : Hid (Blk w1 g21 47 #[.string ⟨#[107,101,101,108]⟩,iv 2,iv 0,iv 40,.slice none 0 0,iv 9000,iv 10000,.string ⟨#[116,97,110,107,49]⟩,iv 4,iv 10,iv 19,.slice (some ⟨g16,0,none⟩) 1 1,iv 2000,iv 2500,.string ⟨#[100,101,99,107]⟩,iv 1,iv 5,iv 24,.slice (some ⟨g19,0,none⟩) 2 2,iv 3000,iv 3000]):=Lq hq;have HB1:=Lq (belowT HB.out hb);have H16 : Hid (Blk w1 g16 9 #[.string ⟨#[107,101,101,108]⟩]):=Lq (H16.out.keep hb);have H19 : Hid (Blk w1 g19 9 #[.string ⟨#[116,97,110,107,49]⟩,.string ⟨#[107,101,101,108]⟩]):=Lq (H19.out.keep hb);refine hK.out _ _ trivial (fun _=>?_)
  exact st22_2_0_1_2_3_4_5_6_7_8 HN HG HQ HB1 H16 H19 H21
theorem st22_2_0_1_2_3_4_5_6 (HN : Hid (n ≤ 2)) (HG : Hid (Blk V g2 27 #[.slice none 0 0,.slice none 0 0])) (HQ : Hid (hHA21 Q V n g2 g12 z1 z4 z5 z6 z7 z8 z9 z10 z11 z12)) (HB : Hid (BW V w)) (H16 : Hid (Blk w g16 9 #[.string ⟨#[107,101,101,108]⟩])) (H19 : Hid (Blk w g19 9 #[.string ⟨#[116,97,110,107,49]⟩,.string ⟨#[107,101,101,108]⟩])) :
  wpAnyH Tryz.prog .any ops22_2 (NoPanic Q) (fun _=>True) 5 #[true,true,true,true,true,true,true,false,false,false,true,true,true,false,false] ⟨#[iv n,z1,.pointer (some ⟨g2,0,none⟩),.slice (some ⟨g12,0,none⟩) 2 2,z4,z5,z6,z7,z8,z9,z10,z11,z12,.agg #[iv 9000,iv 10000],.agg #[.string ⟨#[107,101,101,108]⟩,iv 2,iv 0,iv 40,.slice none 0 0,iv 9000,iv 10000],.agg #[iv 2000,iv 2500],.slice (some ⟨g16,0,none⟩) 1 1,.agg #[.string ⟨#[116,97,110,107,49]⟩,iv 4,iv 10,iv 19,.slice (some ⟨g16,0,none⟩) 1 1,iv 2000,iv 2500],.agg #[iv 3000,iv 3000],.slice (some ⟨g19,0,none⟩) 2 2,z20,z21,z22,.slice (some ⟨g12,0,none⟩) 2 2,iv n,.slice (some ⟨g12,0,none⟩) n 2,z26],[]⟩ w:=by
 refine rd1 7 (fun K' hK=>?_)
 ·skip;go_simp;refine (part31_any _ _ _ _ _ _ _ _ _ w).mono ?_;rintro e w1 ⟨rfl,hb⟩;have HB1:=Lq (belowT HB.out hb);have H16 : Hid (Blk w1 g16 9 #[.string ⟨#[107,101,101,108]⟩]):=Lq (H16.out.keep hb);have H19 : Hid (Blk w1 g19 9 #[.string ⟨#[116,97,110,107,49]⟩,.string ⟨#[107,101,101,108]⟩]):=Lq (H19.out.keep hb);refine hK.out _ _ trivial (fun _=>?_)
  exact st22_2_0_1_2_3_4_5_6_7 HN HG HQ HB1 H16 H19
theorem st22_2_0_1_2_3_4_5 (HN : Hid (n ≤ 2)) (HG : Hid (Blk V g2 27 #[.slice none 0 0,.slice none 0 0])) (HQ : Hid (hHA21 Q V n g2 g12 z1 z4 z5 z6 z7 z8 z9 z10 z11 z12)) (HB : Hid (BW V w)) (H16 : Hid (Blk w g16 9 #[.string ⟨#[107,101,101,108]⟩])) :
  wpAnyH Tryz.prog .any ops22_2 (NoPanic Q) (fun _=>True) 6 #[true,true,true,true,true,true,false,false,false,false,true,true,true,false,false] ⟨#[iv n,z1,.pointer (some ⟨g2,0,none⟩),.slice (some ⟨g12,0,none⟩) 2 2,z4,z5,z6,z7,z8,z9,z10,z11,z12,.agg #[iv 9000,iv 10000],.agg #[.string ⟨#[107,101,101,108]⟩,iv 2,iv 0,iv 40,.slice none 0 0,iv 9000,iv 10000],.agg #[iv 2000,iv 2500],.slice (some ⟨g16,0,none⟩) 1 1,.agg #[.string ⟨#[116,97,110,107,49]⟩,iv 4,iv 10,iv 19,.slice (some ⟨g16,0,none⟩) 1 1,iv 2000,iv 2500],.agg #[iv 3000,iv 3000],z19,z20,z21,z22,.slice (some ⟨g12,0,none⟩) 2 2,iv n,.slice (some ⟨g12,0,none⟩) n 2,z26],[]⟩ w:=by
 refine rd1 6 (fun K' hK=>?_)
 ·skip;go_simp;have hb:=belowA (belowR w) (.cells #[.string ⟨#[116,97,110,107,49]⟩,.string ⟨#[107,101,101,108]⟩] 9);have hq:=Blk.new w 9 #[.string ⟨#[116,97,110,107,49]⟩,.string ⟨#[107,101,101,108]⟩];obtain ⟨w1,hw1⟩:=ex (w.alloc (.cells #[.string ⟨#[116,97,110,107,49]⟩,.string ⟨#[107,101,101,108]⟩] 9));obtain ⟨g19,hg1⟩:=ex w.heap.size;rw [hw1] at hb hq;rw [hg1] at hq;rw [hw1,hg1];have H19 : Hid (Blk w1 g19 9 #[.string ⟨#[116,97,110,107,49]⟩,.string ⟨#[107,101,101,108]⟩]):=Lq hq;have HB1:=Lq (belowT HB.out hb);have H16 : Hid (Blk w1 g16 9 #[.string ⟨#[107,101,101,108]⟩]):=Lq (H16.out.keep hb);refine hK.out _ _ trivial (fun _=>?_)
  exact st22_2_0_1_2_3_4_5_6 HN HG HQ HB1 H16 H19
theorem st22_2_0_1_2_3_4_6 (HN : Hid (n ≤ 2)) (HG : Hid (Blk V g2 27 #[.slice none 0 0,.slice none 0 0])) (HQ : Hid (hHA21 Q V n g2 g12 z1 z4 z5 z6 z7 z8 z9 z10 z11 z12)) (HB : Hid (BW V w)) (H16 : Hid (Blk w g16 9 #[.string ⟨#[107,101,101,108]⟩])) (H19 : Hid (Blk w g19 9 #[.string ⟨#[116,97,110,107,49]⟩,.string ⟨#[107,101,101,108]⟩])) :
  wpAnyH Tryz.prog .any ops22_2 (NoPanic Q) (fun _=>True) 6 #[true,true,true,true,true,false,true,false,false,false,true,true,true,false,false] ⟨#[iv n,z1,.pointer (some ⟨g2,0,none⟩),.slice (some ⟨g12,0,none⟩) 2 2,z4,z5,z6,z7,z8,z9,z10,z11,z12,.agg #[iv 9000,iv 10000],.agg #[.string ⟨#[107,101,101,108]⟩,iv 2,iv 0,iv 40,.slice none 0 0,iv 9000,iv 10000],.agg #[iv 2000,iv 2500],.slice (some ⟨g16,0,none⟩) 1 1,.agg #[.string ⟨#[116,97,110,107,49]⟩,iv 4,iv 10,iv 19,.slice (some ⟨g16,0,none⟩) 1 1,iv 2000,iv 2500],z18,.slice (some ⟨g19,0,none⟩) 2 2,z20,z21,z22,.slice (some ⟨g12,0,none⟩) 2 2,iv n,.slice (some ⟨g12,0,none⟩) n 2,z26],[]⟩ w:=by
 refine rd1 5 (fun K' hK=>?_)
 ·skip;go_simp;refine (span32_any 3000 3000 w).mono ?_;rintro e w1 ⟨rfl,hb⟩;have HB1:=Lq (belowT HB.out hb);have H16 : Hid (Blk w1 g16 9 #[.string ⟨#[107,101,101,108]⟩]):=Lq (H16.out.keep hb);have H19 : Hid (Blk w1 g19 9 #[.string ⟨#[116,97,110,107,49]⟩,.string ⟨#[107,101,101,108]⟩]):=Lq (H19.out.keep hb);refine hK.out _ _ trivial (fun _=>?_)
  exact st22_2_0_1_2_3_4_5_6 HN HG HQ HB1 H16 H19
theorem st22_2_0_1_2_3_4 (HN : Hid (n ≤ 2)) (HG : Hid (Blk V g2 27 #[.slice none 0 0,.slice none 0 0])) (HQ : Hid (hHA21 Q V n g2 g12 z1 z4 z5 z6 z7 z8 z9 z10 z11 z12)) (HB : Hid (BW V w)) (H16 : Hid (Blk w g16 9 #[.string ⟨#[107,101,101,108]⟩])) :
  wpAnyH Tryz.prog .any ops22_2 (NoPanic Q) (fun _=>True) 7 #[true,true,true,true,true,false,false,false,false,false,true,true,true,false,false] ⟨#[iv n,z1,.pointer (some ⟨g2,0,none⟩),.slice (some ⟨g12,0,none⟩) 2 2,z4,z5,z6,z7,z8,z9,z10,z11,z12,.agg #[iv 9000,iv 10000],.agg #[.string ⟨#[107,101,101,108]⟩,iv 2,iv 0,iv 40,.slice none 0 0,iv 9000,iv 10000],.agg #[iv 2000,iv 2500],.slice (some ⟨g16,0,none⟩) 1 1,.agg #[.string ⟨#[116,97,110,107,49]⟩,iv 4,iv 10,iv 19,.slice (some ⟨g16,0,none⟩) 1 1,iv 2000,iv 2500],z18,z19,z20,z21,z22,.slice (some ⟨g12,0,none⟩) 2 2,iv n,.slice (some ⟨g12,0,none⟩) n 2,z26],[]⟩ w:=by
 refine rd2 5 6 (fun K' hK=>?_) (fun K' hK=>?_)
 ·skip;go_simp;refine (span32_any 3000 3000 w).mono ?_;rintro e w1 ⟨rfl,hb⟩;have HB1:=Lq (belowT HB.out hb);have H16 : Hid (Blk w1 g16 9 #[.string ⟨#[107,101,101,108]⟩]):=Lq (H16.out.keep hb);refine hK.out _ _ trivial (fun _=>?_)
  exact st22_2_0_1_2_3_4_5 HN HG HQ HB1 H16
 ·skip;go_simp;have hb:=belowA (belowR w) (.cells #[.string ⟨#[116,97,110,107,49]⟩,.string ⟨#[107,101,101,108]⟩] 9);have hq:=Blk.new w 9 #[.string ⟨#[116,97,110,107,49]⟩,.string ⟨#[107,101,101,108]⟩];obtain ⟨w1,hw1⟩:=ex (w.alloc (.cells #[.string ⟨#[116,97,110,107,49]⟩,.string ⟨#[107,101,101,108]⟩] 9));obtain ⟨g19,hg1⟩:=ex w.heap.size;rw [hw1] at hb hq;rw [hg1] at hq;rw [hw1,hg1];have H19 : Hid (Blk w1 g19 9 #[.string ⟨#[116,97,110,107,49]⟩,.string ⟨#[107,101,101,108]⟩]):=Lq hq;have HB1:=Lq (belowT HB.out hb);have H16 : Hid (Blk w1 g16 9 #[.string ⟨#[107,101,101,108]⟩]):=Lq (H16.out.keep hb);refine hK.out _ _ trivial (fun _=>?_)
  exact st22_2_0_1_2_3_4_6 HN HG HQ HB1 H16 H19
theorem st22_2_0_1_2_3_6 (HN : Hid (n ≤ 2)) (HG : Hid (Blk V g2 27 #[.slice none 0 0,.slice none 0 0])) (HQ : Hid (hHA21 Q V n g2 g12 z1 z4 z5 z6 z7 z8 z9 z10 z11 z12)) (HB : Hid (BW V w)) (H16 : Hid (Blk w g16 9 #[.string ⟨#[107,101,101,108]⟩])) (H19 : Hid (Blk w g19 9 #[.string ⟨#[116,97,110,107,49]⟩,.string ⟨#[107,101,101,108]⟩])) :
  wpAnyH Tryz.prog .any ops22_2 (NoPanic Q) (fun _=>True) 7 #[true,true,true,true,false,false,true,false,false,false,true,true,true,false,false] ⟨#[iv n,z1,.pointer (some ⟨g2,0,none⟩),.slice (some ⟨g12,0,none⟩) 2 2,z4,z5,z6,z7,z8,z9,z10,z11,z12,.agg #[iv 9000,iv 10000],.agg #[.string ⟨#[107,101,101,108]⟩,iv 2,iv 0,iv 40,.slice none 0 0,iv 9000,iv 10000],.agg #[iv 2000,iv 2500],.slice (some ⟨g16,0,none⟩) 1 1,z17,z18,.slice (some ⟨g19,0,none⟩) 2 2,z20,z21,z22,.slice (some ⟨g12,0,none⟩) 2 2,iv n,.slice (some ⟨g12,0,none⟩) n 2,z26],[]⟩ w:=by
 refine rd1 4 (fun K' hK=>?_)
 ·skip;go_simp;refine (part31_any _ _ _ _ _ _ _ _ _ w).mono ?_;rintro e w1 ⟨rfl,hb⟩;have HB1:=Lq (belowT HB.out hb);have H16 : Hid (Blk w1 g16 9 #[.string ⟨#[107,101,101,108]⟩]):=Lq (H16.out.keep hb);have H19 : Hid (Blk w1 g19 9 #[.string ⟨#[116,97,110,107,49]⟩,.string ⟨#[107,101,101,108]⟩]):=Lq (H19.out.keep hb);refine hK.out _ _ trivial (fun _=>?_)
  exact st22_2_0_1_2_3_4_6 HN HG HQ HB1 H16 H19
theorem st22_2_0_1_2_3 (HN : Hid (n ≤ 2)) (HG : Hid (Blk V g2 27 #[.slice none 0 0,.slice none 0 0])) (HQ : Hid (hHA21 Q V n g2 g12 z1 z4 z5 z6 z7 z8 z9 z10 z11 z12)) (HB : Hid (BW V w)) (H16 : Hid (Blk w g16 9 #[.string ⟨#[107,101,101,108]⟩])) :
  wpAnyH Tryz.prog .any ops22_2 (NoPanic Q) (fun _=>True) 8 #[true,true,true,true,false,false,false,false,false,false,true,true,true,false,false] ⟨#[iv n,z1,.pointer (some ⟨g2,0,none⟩),.slice (some ⟨g12,0,none⟩) 2 2,z4,z5,z6,z7,z8,z9,z10,z11,z12,.agg #[iv 9000,iv 10000],.agg #[.string ⟨#[107,101,101,108]⟩,iv 2,iv 0,iv 40,.slice none 0 0,iv 9000,iv 10000],.agg #[iv 2000,iv 2500],.slice (some ⟨g16,0,none⟩) 1 1,z17,z18,z19,z20,z21,z22,.slice (some ⟨g12,0,none⟩) 2 2,iv n,.slice (some ⟨g12,0,none⟩) n 2,z26],[]⟩ w:=by
 refine rd2 4 6 (fun K' hK=>?_) (fun K' hK=>?_)
 ·skip;go_simp;refine (part31_any _ _ _ _ _ _ _ _ _ w).mono ?_;rintro e w1 ⟨rfl,hb⟩;have HB1:=Lq (belowT HB.out hb);have H16 : Hid (Blk w1 g16 9 #[.string ⟨#[107,101,101,108]⟩]):=Lq (H16.out.keep hb);refine hK.out _ _ trivial (fun _=>?_)
  exact st22_2_0_1_2_3_4 HN HG HQ HB1 H16
 ·skip;go_simp;have hb:=belowA (belowR w) (.cells #[.string ⟨#[116,97,110,107,49]⟩,.string ⟨#[107,101,101,108]⟩] 9);have hq:=Blk.new w 9 #[.string ⟨#[116,97,110,107,49]⟩,.string ⟨#[107,101,101,108]⟩];obtain ⟨w1,hw1⟩:=ex (w.alloc (.cells #[.string ⟨#[116,97,110,107,49]⟩,.string ⟨#[107,101,101,108]⟩] 9));obtain ⟨g19,hg1⟩:=ex w.heap.size;rw [hw1] at hb hq;rw [hg1] at hq;rw [hw1,hg1];have H19 : Hid (Blk w1 g19 9 #[.string ⟨#[116,97,110,107,49]⟩,.string ⟨#[107,101,101,108]⟩]):=Lq hq;have HB1:=Lq (belowT HB.out hb);have H16 : Hid (Blk w1 g16 9 #[.string ⟨#[107,101,101,108]⟩]):=Lq (H16.out.keep hb);refine hK.out _ _ trivial (fun _=>?_)
  exact st22_2_0_1_2_3_6 HN HG HQ HB1 H16 H19
theorem st22_2_0_1_2_6 (HN : Hid (n ≤ 2)) (HG : Hid (Blk V g2 27 #[.slice none 0 0,.slice none 0 0])) (HQ : Hid (hHA21 Q V n g2 g12 z1 z4 z5 z6 z7 z8 z9 z10 z11 z12)) (HB : Hid (BW V w)) (H19 : Hid (Blk w g19 9 #[.string ⟨#[116,97,110,107,49]⟩,.string ⟨#[107,101,101,108]⟩])) :
  wpAnyH Tryz.prog .any ops22_2 (NoPanic Q) (fun _=>True) 8 #[true,true,true,false,false,false,true,false,false,false,true,true,true,false,false] ⟨#[iv n,z1,.pointer (some ⟨g2,0,none⟩),.slice (some ⟨g12,0,none⟩) 2 2,z4,z5,z6,z7,z8,z9,z10,z11,z12,.agg #[iv 9000,iv 10000],.agg #[.string ⟨#[107,101,101,108]⟩,iv 2,iv 0,iv 40,.slice none 0 0,iv 9000,iv 10000],.agg #[iv 2000,iv 2500],z16,z17,z18,.slice (some ⟨g19,0,none⟩) 2 2,z20,z21,z22,.slice (some ⟨g12,0,none⟩) 2 2,iv n,.slice (some ⟨g12,0,none⟩) n 2,z26],[]⟩ w:=by
 refine rd1 3 (fun K' hK=>?_)
 ·skip;go_simp;have hb:=belowA (belowR w) (.cells #[.string ⟨#[107,101,101,108]⟩] 9);have hq:=Blk.new w 9 #[.string ⟨#[107,101,101,108]⟩];obtain ⟨w1,hw1⟩:=ex (w.alloc (.cells #[.string ⟨#[107,101,101,108]⟩] 9));obtain ⟨g16,hg1⟩:=ex w.heap.size;rw [hw1] at hb hq;rw [hg1] at hq;rw [hw1,hg1];have H16 : Hid (Blk w1 g16 9 #[.string ⟨#[107,101,101,108]⟩]):=Lq hq;have HB1:=Lq (belowT HB.out hb);have H19 : Hid (Blk w1 g19 9 #[.string ⟨#[116,97,110,107,49]⟩,.string ⟨#[107,101,101,108]⟩]):=Lq (H19.out.keep hb);refine hK.out _ _ trivial (fun _=>?_)
  exact st22_2_0_1_2_3_6 HN HG HQ HB1 H16 H19
theorem st22_2_0_1_3_6 (HN : Hid (n ≤ 2)) (HG : Hid (Blk V g2 27 #[.slice none 0 0,.slice none 0 0])) (HQ : Hid (hHA21 Q V n g2 g12 z1 z4 z5 z6 z7 z8 z9 z10 z11 z12)) (HB : Hid (BW V w)) (H16 : Hid (Blk w g16 9 #[.string ⟨#[107,101,101,108]⟩])) (H19 : Hid (Blk w g19 9 #[.string ⟨#[116,97,110,107,49]⟩,.string ⟨#[107,101,101,108]⟩])) :
  wpAnyH Tryz.prog .any ops22_2 (NoPanic Q) (fun _=>True) 8 #[true,true,false,true,false,false,true,false,false,false,true,true,true,false,false] ⟨#[iv n,z1,.pointer (some ⟨g2,0,none⟩),.slice (some ⟨g12,0,none⟩) 2 2,z4,z5,z6,z7,z8,z9,z10,z11,z12,.agg #[iv 9000,iv 10000],.agg #[.string ⟨#[107,101,101,108]⟩,iv 2,iv 0,iv 40,.slice none 0 0,iv 9000,iv 10000],z15,.slice (some ⟨g16,0,none⟩) 1 1,z17,z18,.slice (some ⟨g19,0,none⟩) 2 2,z20,z21,z22,.slice (some ⟨g12,0,none⟩) 2 2,iv n,.slice (some ⟨g12,0,none⟩) n 2,z26],[]⟩ w:=by
 refine rd1 2 (fun K' hK=>?_)
 ·skip;go_simp;refine (span32_any 2000 2500 w).mono ?_;rintro e w1 ⟨rfl,hb⟩;have HB1:=Lq (belowT HB.out hb);have H16 : Hid (Blk w1 g16 9 #[.string ⟨#[107,101,101,108]⟩]):=Lq (H16.out.keep hb);have H19 : Hid (Blk w1 g19 9 #[.string ⟨#[116,97,110,107,49]⟩,.string ⟨#[107,101,101,108]⟩]):=Lq (H19.out.keep hb);refine hK.out _ _ trivial (fun _=>?_)
  exact st22_2_0_1_2_3_6 HN HG HQ HB1 H16 H19
theorem st22_2_0_1_2 (HN : Hid (n ≤ 2)) (HG : Hid (Blk V g2 27 #[.slice none 0 0,.slice none 0 0])) (HQ : Hid (hHA21 Q V n g2 g12 z1 z4 z5 z6 z7 z8 z9 z10 z11 z12)) (HB : Hid (BW V w))  :
  wpAnyH Tryz.prog .any ops22_2 (NoPanic Q) (fun _=>True) 9 #[true,true,true,false,false,false,false,false,false,false,true,true,true,false,false] ⟨#[iv n,z1,.pointer (some ⟨g2,0,none⟩),.slice (some ⟨g12,0,none⟩) 2 2,z4,z5,z6,z7,z8,z9,z10,z11,z12,.agg #[iv 9000,iv 10000],.agg #[.string ⟨#[107,101,101,108]⟩,iv 2,iv 0,iv 40,.slice none 0 0,iv 9000,iv 10000],.agg #[iv 2000,iv 2500],z16,z17,z18,z19,z20,z21,z22,.slice (some ⟨g12,0,none⟩) 2 2,iv n,.slice (some ⟨g12,0,none⟩) n 2,z26],[]⟩ w:=by
 refine rd2 3 6 (fun K' hK=>?_) (fun K' hK=>?_)
 ·skip;go_simp;have hb:=belowA (belowR w) (.cells #[.string ⟨#[107,101,101,108]⟩] 9);have hq:=Blk.new w 9 #[.string ⟨#[107,101,101,108]⟩];obtain ⟨w1,hw1⟩:=ex (w.alloc (.cells #[.string ⟨#[107,101,101,108]⟩] 9));obtain ⟨g16,hg1⟩:=ex w.heap.size;rw [hw1] at hb hq;rw [hg1] at hq;rw [hw1,hg1];have H16 : Hid (Blk w1 g16 9 #[.string ⟨#[107,101,101,108]⟩]):=Lq hq;have HB1:=Lq (belowT HB.out hb);refine hK.out _ _ trivial (fun _=>?_)
  exact st22_2_0_1_2_3 HN HG HQ HB1 H16
 ·skip;go_simp;have hb:=belowA (belowR w) (.cells #[.string ⟨#[116,97,110,107,49]⟩,.string ⟨#[107,101,101,108]⟩] 9);have hq:=Blk.new w 9 #[.string ⟨#[116,97,110,107,49]⟩,.string ⟨#[107,101,101,108]⟩];obtain ⟨w1,hw1⟩:=ex (w.alloc (.cells #[.string ⟨#[116,97,110,107,49]⟩,.string ⟨#[107,101,101,108]⟩] 9));obtain ⟨g19,hg1⟩:=ex w.heap.size;rw [hw1] at hb hq;rw [hg1] at hq;rw [hw1,hg1];have H19 : Hid (Blk w1 g19 9 #[.string ⟨#[116,97,110,107,49]⟩,.string ⟨#[107,101,101,108]⟩]):=Lq hq;have HB1:=Lq (belowT HB.out hb);refine hK.out _ _ trivial (fun _=>?_)
  exact st22_2_0_1_2_6 HN HG HQ HB1 H19
theorem st22_2_0_1_3 (HN : Hid (n ≤ 2)) (HG : Hid (Blk V g2 27 #[.slice none 0 0,.slice none 0 0])) (HQ : Hid (hHA21 Q V n g2 g12 z1 z4 z5 z6 z7 z8 z9 z10 z11 z12)) (HB : Hid (BW V w)) (H16 : Hid (Blk w g16 9 #[.string ⟨#[107,101,101,108]⟩])) :
  wpAnyH Tryz.prog .any ops22_2 (NoPanic Q) (fun _=>True) 9 #[true,true,false,true,false,false,false,false,false,false,true,true,true,false,false] ⟨#[iv n,z1,.pointer (some ⟨g2,0,none⟩),.slice (some ⟨g12,0,none⟩) 2 2,z4,z5,z6,z7,z8,z9,z10,z11,z12,.agg #[iv 9000,iv 10000],.agg #[.string ⟨#[107,101,101,108]⟩,iv 2,iv 0,iv 40,.slice none 0 0,iv 9000,iv 10000],z15,.slice (some ⟨g16,0,none⟩) 1 1,z17,z18,z19,z20,z21,z22,.slice (some ⟨g12,0,none⟩) 2 2,iv n,.slice (some ⟨g12,0,none⟩) n 2,z26],[]⟩ w:=by
 refine rd2 2 6 (fun K' hK=>?_) (fun K' hK=>?_)
 ·skip;go_simp;refine (span32_any 2000 2500 w).mono ?_;rintro e w1 ⟨rfl,hb⟩;have HB1:=Lq (belowT HB.out hb);have H16 : Hid (Blk w1 g16 9 #[.string ⟨#[107,101,101,108]⟩]):=Lq (H16.out.keep hb);refine hK.out _ _ trivial (fun _=>?_)
  exact st22_2_0_1_2_3 HN HG HQ HB1 H16
 ·skip;go_simp;have hb:=belowA (belowR w) (.cells #[.string ⟨#[116,97,110,107,49]⟩,.string ⟨#[107,101,101,108]⟩] 9);have hq:=Blk.new w 9 #[.string ⟨#[116,97,110,107,49]⟩,.string ⟨#[107,101,101,108]⟩];obtain ⟨w1,hw1⟩:=ex (w.alloc (.cells #[.string ⟨#[116,97,110,107,49]⟩,.string ⟨#[107,101,101,108]⟩] 9));obtain ⟨g19,hg1⟩:=ex w.heap.size;rw [hw1] at hb hq;rw [hg1] at hq;rw [hw1,hg1];have H19 : Hid (Blk w1 g19 9 #[.string ⟨#[116,97,110,107,49]⟩,.string ⟨#[107,101,101,108]⟩]):=Lq hq;have HB1:=Lq (belowT HB.out hb);have H16 : Hid (Blk w1 g16 9 #[.string ⟨#[107,101,101,108]⟩]):=Lq (H16.out.keep hb);refine hK.out _ _ trivial (fun _=>?_)
  exact st22_2_0_1_3_6 HN HG HQ HB1 H16 H19
theorem st22_2_0_1_6 (HN : Hid (n ≤ 2)) (HG : Hid (Blk V g2 27 #[.slice none 0 0,.slice none 0 0])) (HQ : Hid (hHA21 Q V n g2 g12 z1 z4 z5 z6 z7 z8 z9 z10 z11 z12)) (HB : Hid (BW V w)) (H19 : Hid (Blk w g19 9 #[.string ⟨#[116,97,110,107,49]⟩,.string ⟨#[107,101,101,108]⟩])) :
  wpAnyH Tryz.prog .any ops22_2 (NoPanic Q) (fun _=>True) 9 #[true,true,false,false,false,false,true,false,false,false,true,true,true,false,false] ⟨#[iv n,z1,.pointer (some ⟨g2,0,none⟩),.slice (some ⟨g12,0,none⟩) 2 2,z4,z5,z6,z7,z8,z9,z10,z11,z12,.agg #[iv 9000,iv 10000],.agg #[.string ⟨#[107,101,101,108]⟩,iv 2,iv 0,iv 40,.slice none 0 0,iv 9000,iv 10000],z15,z16,z17,z18,.slice (some ⟨g19,0,none⟩) 2 2,z20,z21,z22,.slice (some ⟨g12,0,none⟩) 2 2,iv n,.slice (some ⟨g12,0,none⟩) n 2,z26],[]⟩ w:=by
 refine rd2 2 3 (fun K' hK=>?_) (fun K' hK=>?_)
 ·skip;go_simp;refine (span32_any 2000 2500 w).mono ?_;rintro e w1 ⟨rfl,hb⟩;have HB1:=Lq (belowT HB.out hb);have H19 : Hid (Blk w1 g19 9 #[.string ⟨#[116,97,110,107,49]⟩,.string ⟨#[107,101,101,108]⟩]):=Lq (H19.out.keep hb);refine hK.out _ _ trivial (fun _=>?_)
  exact st22_2_0_1_2_6 HN HG HQ HB1 H19
 ·skip;go_simp;have hb:=belowA (belowR w) (.cells #[.string ⟨#[107,101,101,108]⟩] 9);have hq:=Blk.new w 9 #[.string ⟨#[107,101,101,108]⟩];obtain ⟨w1,hw1⟩:=ex (w.alloc (.cells #[.string ⟨#[107,101,101,108]⟩] 9));obtain ⟨g16,hg1⟩:=ex w.heap.size;rw [hw1] at hb hq;rw [hg1] at hq;rw [hw1,hg1];have H16 : Hid (Blk w1 g16 9 #[.string ⟨#[107,101,101,108]⟩]):=Lq hq;have HB1:=Lq (belowT HB.out hb);have H19 : Hid (Blk w1 g19 9 #[.string ⟨#[116,97,110,107,49]⟩,.string ⟨#[107,101,101,108]⟩]):=Lq (H19.out.keep hb);refine hK.out _ _ trivial (fun _=>?_)
  exact st22_2_0_1_3_6 HN HG HQ HB1 H16 H19
theorem st22_2_0_3_6 (HN : Hid (n ≤ 2)) (HG : Hid (Blk V g2 27 #[.slice none 0 0,.slice none 0 0])) (HQ : Hid (hHA21 Q V n g2 g12 z1 z4 z5 z6 z7 z8 z9 z10 z11 z12)) (HB : Hid (BW V w)) (H16 : Hid (Blk w g16 9 #[.string ⟨#[107,101,101,108]⟩])) (H19 : Hid (Blk w g19 9 #[.string ⟨#[116,97,110,107,49]⟩,.string ⟨#[107,101,101,108]⟩])) :
  wpAnyH Tryz.prog .any ops22_2 (NoPanic Q) (fun _=>True) 9 #[true,false,false,true,false,false,true,false,false,false,true,true,true,false,false] ⟨#[iv n,z1,.pointer (some ⟨g2,0,none⟩),.slice (some ⟨g12,0,none⟩) 2 2,z4,z5,z6,z7,z8,z9,z10,z11,z12,.agg #[iv 9000,iv 10000],z14,z15,.slice (some ⟨g16,0,none⟩) 1 1,z17,z18,.slice (some ⟨g19,0,none⟩) 2 2,z20,z21,z22,.slice (some ⟨g12,0,none⟩) 2 2,iv n,.slice (some ⟨g12,0,none⟩) n 2,z26],[]⟩ w:=by
 refine rd1 1 (fun K' hK=>?_)
 ·skip;go_simp;refine (part31_any _ _ _ _ _ _ _ _ _ w).mono ?_;rintro e w1 ⟨rfl,hb⟩;have HB1:=Lq (belowT HB.out hb);have H16 : Hid (Blk w1 g16 9 #[.string ⟨#[107,101,101,108]⟩]):=Lq (H16.out.keep hb);have H19 : Hid (Blk w1 g19 9 #[.string ⟨#[116,97,110,107,49]⟩,.string ⟨#[107,101,101,108]⟩]):=Lq (H19.out.keep hb);refine hK.out _ _ trivial (fun _=>?_)
  exact st22_2_0_1_3_6 HN HG HQ HB1 H16 H19
theorem st22_2_0_1 (HN : Hid (n ≤ 2)) (HG : Hid (Blk V g2 27 #[.slice none 0 0,.slice none 0 0])) (HQ : Hid (hHA21 Q V n g2 g12 z1 z4 z5 z6 z7 z8 z9 z10 z11 z12)) (HB : Hid (BW V w))  :
  wpAnyH Tryz.prog .any ops22_2 (NoPanic Q) (fun _=>True) 10 #[true,true,false,false,false,false,false,false,false,false,true,true,true,false,false] ⟨#[iv n,z1,.pointer (some ⟨g2,0,none⟩),.slice (some ⟨g12,0,none⟩) 2 2,z4,z5,z6,z7,z8,z9,z10,z11,z12,.agg #[iv 9000,iv 10000],.agg #[.string ⟨#[107,101,101,108]⟩,iv 2,iv 0,iv 40,.slice none 0 0,iv 9000,iv 10000],z15,z16,z17,z18,z19,z20,z21,z22,.slice (some ⟨g12,0,none⟩) 2 2,iv n,.slice (some ⟨g12,0,none⟩) n 2,z26],[]⟩ w:=by
 refine rd3 2 3 6 (fun K' hK=>?_) (fun K' hK=>?_) (fun K' hK=>?_)
 ·skip;go_simp;refine (span32_any 2000 2500 w).mono ?_;rintro e w1 ⟨rfl,hb⟩;have HB1:=Lq (belowT HB.out hb);refine hK.out _ _ trivial (fun _=>?_)
  exact st22_2_0_1_2 HN HG HQ HB1 
 ·skip;go_simp;have hb:=belowA (belowR w) (.cells #[.string ⟨#[107,101,101,108]⟩] 9);have hq:=Blk.new w 9 #[.string ⟨#[107,101,101,108]⟩];obtain ⟨w1,hw1⟩:=ex (w.alloc (.cells #[.string ⟨#[107,101,101,108]⟩] 9));obtain ⟨g16,hg1⟩:=ex w.heap.size;rw [hw1] at hb hq;rw [hg1] at hq;rw [hw1,hg1];have H16 : Hid (Blk w1 g16 9 #[.string ⟨#[107,101,101,108]⟩]):=Lq hq;have HB1:=Lq (belowT HB.out hb);refine hK.out _ _ trivial (fun _=>?_)
  exact st22_2_0_1_3 HN HG HQ HB1 H16
 ·skip;go_simp;have hb:=belowA (belowR w) (.cells #[.string ⟨#[116,97,110,107,49]⟩,.string ⟨#[107,101,101,108]⟩] 9);have hq:=Blk.new w 9 #[.string ⟨#[116,97,110,107,49]⟩,.string ⟨#[107,101,101,108]⟩];obtain ⟨w1,hw1⟩:=ex (w.alloc (.cells #[.string ⟨#[116,97,110,107,49]⟩,.string ⟨#[107,101,101,108]⟩] 9));obtain ⟨g19,hg1⟩:=ex w.heap.size;rw [hw1] at hb hq;rw [hg1] at hq;rw [hw1,hg1];have H19 : Hid (Blk w1 g19 9 #[.string ⟨#[116,97,110,107,49]⟩,.string ⟨#[107,101,101,108]⟩]):=Lq hq;have HB1:=Lq (belowT HB.out hb);refine hK.out _ _ trivial (fun _=>?_)
  exact st22_2_0_1_6 HN HG HQ HB1 H19
theorem st22_2_0_3 (HN : Hid (n ≤ 2)) (HG : Hid (Blk V g2 27 #[.slice none 0 0,.slice none 0 0])) (HQ : Hid (hHA21 Q V n g2 g12 z1 z4 z5 z6 z7 z8 z9 z10 z11 z12)) (HB : Hid (BW V w)) (H16 : Hid (Blk w g16 9 #[.string ⟨#[107,101,101,108]⟩])) :
  wpAnyH Tryz.prog .any ops22_2 (NoPanic Q) (fun _=>True) 10 #[true,false,false,true,false,false,false,false,false,false,true,true,true,false,false] ⟨#[iv n,z1,.pointer (some ⟨g2,0,none⟩),.slice (some ⟨g12,0,none⟩) 2 2,z4,z5,z6,z7,z8,z9,z10,z11,z12,.agg #[iv 9000,iv 10000],z14,z15,.slice (some ⟨g16,0,none⟩) 1 1,z17,z18,z19,z20,z21,z22,.slice (some ⟨g12,0,none⟩) 2 2,iv n,.slice (some ⟨g12,0,none⟩) n 2,z26],[]⟩ w:=by
 refine rd2 1 6 (fun K' hK=>?_) (fun K' hK=>?_)
 ·skip;go_simp;refine (part31_any _ _ _ _ _ _ _ _ _ w).mono ?_;rintro e w1 ⟨rfl,hb⟩;have HB1:=Lq (belowT HB.out hb);have H16 : Hid (Blk w1 g16 9 #[.string ⟨#[107,101,101,108]⟩]):=Lq (H16.out.keep hb);refine hK.out _ _ trivial (fun _=>?_)
  exact st22_2_0_1_3 HN HG HQ HB1 H16
 ·skip;go_simp;have hb:=belowA (belowR w) (.cells #[.string ⟨#[116,97,110,107,49]⟩,.string ⟨#[107,101,101,108]⟩] 9);have hq:=Blk.new w 9 #[.string ⟨#[116,97,110,107,49]⟩,.string ⟨#[107,101,101,108]⟩];obtain ⟨w1,hw1⟩:=ex (w.alloc (.cells #[.string ⟨#[116,97,110,107,49]⟩,.string ⟨#[107,101,101,108]⟩] 9));obtain ⟨g19,hg1⟩:=ex w.heap.size;rw [hw1] at hb hq;rw [hg1] at hq;rw [hw1,hg1];have H19 : Hid (Blk w1 g19 9 #[.string ⟨#[116,97,110,107,49]⟩,.string ⟨#[107,101,101,108]⟩]):=Lq hq;have HB1:=Lq (belowT HB.out hb);have H16 : Hid (Blk w1 g16 9 #[.string ⟨#[107,101,101,108]⟩]):=Lq (H16.out.keep hb);refine hK.out _ _ trivial (fun _=>?_)
  exact st22_2_0_3_6 HN HG HQ HB1 H16 H19
theorem st22_2_0_6 (HN : Hid (n ≤ 2)) (HG : Hid (Blk V g2 27 #[.slice none 0 0,.slice none 0 0])) (HQ : Hid (hHA21 Q V n g2 g12 z1 z4 z5 z6 z7 z8 z9 z10 z11 z12)) (HB : Hid (BW V w)) (H19 : Hid (Blk w g19 9 #[.string ⟨#[116,97,110,107,49]⟩,.string ⟨#[107,101,101,108]⟩])) :
  wpAnyH Tryz.prog .any ops22_2 (NoPanic Q) (fun _=>True) 10 #[true,false,false,false,false,false,true,false,false,false,true,true,true,false,false] ⟨#[iv n,z1,.pointer (some ⟨g2,0,none⟩),.slice (some ⟨g12,0,none⟩) 2 2,z4,z5,z6,z7,z8,z9,z10,z11,z12,.agg #[iv 9000,iv 10000],z14,z15,z16,z17,z18,.slice (some ⟨g19,0,none⟩) 2 2,z20,z21,z22,.slice (some ⟨g12,0,none⟩) 2 2,iv n,.slice (some ⟨g12,0,none⟩) n 2,z26],[]⟩ w:=by
 refine rd2 1 3 (fun K' hK=>?_) (fun K' hK=>?_)
 ·skip;go_simp;refine (part31_any _ _ _ _ _ _ _ _ _ w).mono ?_;rintro e w1 ⟨rfl,hb⟩;have HB1:=Lq (belowT HB.out hb);have H19 : Hid (Blk w1 g19 9 #[.string ⟨#[116,97,110,107,49]⟩,.string ⟨#[107,101,101,108]⟩]):=Lq (H19.out.keep hb);refine hK.out _ _ trivial (fun _=>?_)
  exact st22_2_0_1_6 HN HG HQ HB1 H19
 ·skip;go_simp;have hb:=belowA (belowR w) (.cells #[.string ⟨#[107,101,101,108]⟩] 9);have hq:=Blk.new w 9 #[.string ⟨#[107,101,101,108]⟩];obtain ⟨w1,hw1⟩:=ex (w.alloc (.cells #[.string ⟨#[107,101,101,108]⟩] 9));obtain ⟨g16,hg1⟩:=ex w.heap.size;rw [hw1] at hb hq;rw [hg1] at hq;rw [hw1,hg1];have H16 : Hid (Blk w1 g16 9 #[.string ⟨#[107,101,101,108]⟩]):=Lq hq;have HB1:=Lq (belowT HB.out hb);have H19 : Hid (Blk w1 g19 9 #[.string ⟨#[116,97,110,107,49]⟩,.string ⟨#[107,101,101,108]⟩]):=Lq (H19.out.keep hb);refine hK.out _ _ trivial (fun _=>?_)
  exact st22_2_0_3_6 HN HG HQ HB1 H16 H19
theorem st22_2_3_6 (HN : Hid (n ≤ 2)) (HG : Hid (Blk V g2 27 #[.slice none 0 0,.slice none 0 0])) (HQ : Hid (hHA21 Q V n g2 g12 z1 z4 z5 z6 z7 z8 z9 z10 z11 z12)) (HB : Hid (BW V w)) (H16 : Hid (Blk w g16 9 #[.string ⟨#[107,101,101,108]⟩])) (H19 : Hid (Blk w g19 9 #[.string ⟨#[116,97,110,107,49]⟩,.string ⟨#[107,101,101,108]⟩])) :
  wpAnyH Tryz.prog .any ops22_2 (NoPanic Q) (fun _=>True) 10 #[false,false,false,true,false,false,true,false,false,false,true,true,true,false,false] ⟨#[iv n,z1,.pointer (some ⟨g2,0,none⟩),.slice (some ⟨g12,0,none⟩) 2 2,z4,z5,z6,z7,z8,z9,z10,z11,z12,z13,z14,z15,.slice (some ⟨g16,0,none⟩) 1 1,z17,z18,.slice (some ⟨g19,0,none⟩) 2 2,z20,z21,z22,.slice (some ⟨g12,0,none⟩) 2 2,iv n,.slice (some ⟨g12,0,none⟩) n 2,z26],[]⟩ w:=by
 refine rd1 0 (fun K' hK=>?_)
 ·skip;go_simp;refine (span32_any 9000 10000 w).mono ?_;rintro e w1 ⟨rfl,hb⟩;have HB1:=Lq (belowT HB.out hb);have H16 : Hid (Blk w1 g16 9 #[.string ⟨#[107,101,101,108]⟩]):=Lq (H16.out.keep hb);have H19 : Hid (Blk w1 g19 9 #[.string ⟨#[116,97,110,107,49]⟩,.string ⟨#[107,101,101,108]⟩]):=Lq (H19.out.keep hb);refine hK.out _ _ trivial (fun _=>?_)
  exact st22_2_0_3_6 HN HG HQ HB1 H16 H19
theorem st22_2_0 (HN : Hid (n ≤ 2)) (HG : Hid (Blk V g2 27 #[.slice none 0 0,.slice none 0 0])) (HQ : Hid (hHA21 Q V n g2 g12 z1 z4 z5 z6 z7 z8 z9 z10 z11 z12)) (HB : Hid (BW V w))  :
  wpAnyH Tryz.prog .any ops22_2 (NoPanic Q) (fun _=>True) 11 #[true,false,false,false,false,false,false,false,false,false,true,true,true,false,false] ⟨#[iv n,z1,.pointer (some ⟨g2,0,none⟩),.slice (some ⟨g12,0,none⟩) 2 2,z4,z5,z6,z7,z8,z9,z10,z11,z12,.agg #[iv 9000,iv 10000],z14,z15,z16,z17,z18,z19,z20,z21,z22,.slice (some ⟨g12,0,none⟩) 2 2,iv n,.slice (some ⟨g12,0,none⟩) n 2,z26],[]⟩ w:=by
 refine rd3 1 3 6 (fun K' hK=>?_) (fun K' hK=>?_) (fun K' hK=>?_)
 ·skip;go_simp;refine (part31_any _ _ _ _ _ _ _ _ _ w).mono ?_;rintro e w1 ⟨rfl,hb⟩;have HB1:=Lq (belowT HB.out hb);refine hK.out _ _ trivial (fun _=>?_)
  exact st22_2_0_1 HN HG HQ HB1 
 ·skip;go_simp;have hb:=belowA (belowR w) (.cells #[.string ⟨#[107,101,101,108]⟩] 9);have hq:=Blk.new w 9 #[.string ⟨#[107,101,101,108]⟩];obtain ⟨w1,hw1⟩:=ex (w.alloc (.cells #[.string ⟨#[107,101,101,108]⟩] 9));obtain ⟨g16,hg1⟩:=ex w.heap.size;rw [hw1] at hb hq;rw [hg1] at hq;rw [hw1,hg1];have H16 : Hid (Blk w1 g16 9 #[.string ⟨#[107,101,101,108]⟩]):=Lq hq;have HB1:=Lq (belowT HB.out hb);refine hK.out _ _ trivial (fun _=>?_)
  exact st22_2_0_3 HN HG HQ HB1 H16
 ·skip;go_simp;have hb:=belowA (belowR w) (.cells #[.string ⟨#[116,97,110,107,49]⟩,.string ⟨#[107,101,101,108]⟩] 9);have hq:=Blk.new w 9 #[.string ⟨#[116,97,110,107,49]⟩,.string ⟨#[107,101,101,108]⟩];obtain ⟨w1,hw1⟩:=ex (w.alloc (.cells #[.string ⟨#[116,97,110,107,49]⟩,.string ⟨#[107,101,101,108]⟩] 9));obtain ⟨g19,hg1⟩:=ex w.heap.size;rw [hw1] at hb hq;rw [hg1] at hq;rw [hw1,hg1];have H19 : Hid (Blk w1 g19 9 #[.string ⟨#[116,97,110,107,49]⟩,.string ⟨#[107,101,101,108]⟩]):=Lq hq;have HB1:=Lq (belowT HB.out hb);refine hK.out _ _ trivial (fun _=>?_)
  exact st22_2_0_6 HN HG HQ HB1 H19
theorem st22_2_3 (HN : Hid (n ≤ 2)) (HG : Hid (Blk V g2 27 #[.slice none 0 0,.slice none 0 0])) (HQ : Hid (hHA21 Q V n g2 g12 z1 z4 z5 z6 z7 z8 z9 z10 z11 z12)) (HB : Hid (BW V w)) (H16 : Hid (Blk w g16 9 #[.string ⟨#[107,101,101,108]⟩])) :
  wpAnyH Tryz.prog .any ops22_2 (NoPanic Q) (fun _=>True) 11 #[false,false,false,true,false,false,false,false,false,false,true,true,true,false,false] ⟨#[iv n,z1,.pointer (some ⟨g2,0,none⟩),.slice (some ⟨g12,0,none⟩) 2 2,z4,z5,z6,z7,z8,z9,z10,z11,z12,z13,z14,z15,.slice (some ⟨g16,0,none⟩) 1 1,z17,z18,z19,z20,z21,z22,.slice (some ⟨g12,0,none⟩) 2 2,iv n,.slice (some ⟨g12,0,none⟩) n 2,z26],[]⟩ w:=by
 refine rd2 0 6 (fun K' hK=>?_) (fun K' hK=>?_)
 ·skip;go_simp;refine (span32_any 9000 10000 w).mono ?_;rintro e w1 ⟨rfl,hb⟩;have HB1:=Lq (belowT HB.out hb);have H16 : Hid (Blk w1 g16 9 #[.string ⟨#[107,101,101,108]⟩]):=Lq (H16.out.keep hb);refine hK.out _ _ trivial (fun _=>?_)
  exact st22_2_0_3 HN HG HQ HB1 H16
 ·skip;go_simp;have hb:=belowA (belowR w) (.cells #[.string ⟨#[116,97,110,107,49]⟩,.string ⟨#[107,101,101,108]⟩] 9);have hq:=Blk.new w 9 #[.string ⟨#[116,97,110,107,49]⟩,.string ⟨#[107,101,101,108]⟩];obtain ⟨w1,hw1⟩:=ex (w.alloc (.cells #[.string ⟨#[116,97,110,107,49]⟩,.string ⟨#[107,101,101,108]⟩] 9));obtain ⟨g19,hg1⟩:=ex w.heap.size;rw [hw1] at hb hq;rw [hg1] at hq;rw [hw1,hg1];have H19 : Hid (Blk w1 g19 9 #[.string ⟨#[116,97,110,107,49]⟩,.string ⟨#[107,101,101,108]⟩]):=Lq hq;have HB1:=Lq (belowT HB.out hb);have H16 : Hid (Blk w1 g16 9 #[.string ⟨#[107,101,101,108]⟩]):=Lq (H16.out.keep hb);refine hK.out _ _ trivial (fun _=>?_)
  exact st22_2_3_6 HN HG HQ HB1 H16 H19
theorem st22_2_6 (HN : Hid (n ≤ 2)) (HG : Hid (Blk V g2 27 #[.slice none 0 0,.slice none 0 0])) (HQ : Hid (hHA21 Q V n g2 g12 z1 z4 z5 z6 z7 z8 z9 z10 z11 z12)) (HB : Hid (BW V w)) (H19 : Hid (Blk w g19 9 #[.string ⟨#[116,97,110,107,49]⟩,.string ⟨#[107,101,101,108]⟩])) :
  wpAnyH Tryz.prog .any ops22_2 (NoPanic Q) (fun _=>True) 11 #[false,false,false,false,false,false,true,false,false,false,true,true,true,false,false] ⟨#[iv n,z1,.pointer (some ⟨g2,0,none⟩),.slice (some ⟨g12,0,none⟩) 2 2,z4,z5,z6,z7,z8,z9,z10,z11,z12,z13,z14,z15,z16,z17,z18,.slice (some ⟨g19,0,none⟩) 2 2,z20,z21,z22,.slice (some ⟨g12,0,none⟩) 2 2,iv n,.slice (some ⟨g12,0,none⟩) n 2,z26],[]⟩ w:=by
 refine rd2 0 3 (fun K' hK=>?_) (fun K' hK=>?_)
 ·skip;go_simp;refine (span32_any 9000 10000 w).mono ?_;rintro e w1 ⟨rfl,hb⟩;have HB1:=Lq (belowT HB.out hb);have H19 : Hid (Blk w1 g19 9 #[.string ⟨#[116,97,110,107,49]⟩,.string ⟨#[107,101,101,108]⟩]):=Lq (H19.out.keep hb);refine hK.out _ _ trivial (fun _=>?_)
  exact st22_2_0_6 HN HG HQ HB1 H19
 ·skip;go_simp;have hb:=belowA (belowR w) (.cells #[.string ⟨#[107,101,101,108]⟩] 9);have hq:=Blk.new w 9 #[.string ⟨#[107,101,101,108]⟩];obtain ⟨w1,hw1⟩:=ex (w.alloc (.cells #[.string ⟨#[107,101,101,108]⟩] 9));obtain ⟨g16,hg1⟩:=ex w.heap.size;rw [hw1] at hb hq;rw [hg1] at hq;rw [hw1,hg1];have H16 : Hid (Blk w1 g16 9 #[.string ⟨#[107,101,101,108]⟩]):=Lq hq;have HB1:=Lq (belowT HB.out hb);have H19 : Hid (Blk w1 g19 9 #[.string ⟨#[116,97,110,107,49]⟩,.string ⟨#[107,101,101,108]⟩]):=Lq (H19.out.keep hb);refine hK.out _ _ trivial (fun _=>?_)
  exact st22_2_3_6 HN HG HQ HB1 H16 H19
theorem st22_2_S (HN : Hid (n ≤ 2)) (HG : Hid (Blk V g2 27 #[.slice none 0 0,.slice none 0 0])) (HQ : Hid (hHA21 Q V n g2 g12 z1 z4 z5 z6 z7 z8 z9 z10 z11 z12)) (HB : Hid (BW V w))  :
  wpAnyH Tryz.prog .any ops22_2 (NoPanic Q) (fun _=>True) 12 #[false,false,false,false,false,false,false,false,false,false,true,true,true,false,false] ⟨#[iv n,z1,.pointer (some ⟨g2,0,none⟩),.slice (some ⟨g12,0,none⟩) 2 2,z4,z5,z6,z7,z8,z9,z10,z11,z12,z13,z14,z15,z16,z17,z18,z19,z20,z21,z22,.slice (some ⟨g12,0,none⟩) 2 2,iv n,.slice (some ⟨g12,0,none⟩) n 2,z26],[]⟩ w:=by
 refine rd3 0 3 6 (fun K' hK=>?_) (fun K' hK=>?_) (fun K' hK=>?_)
 ·skip;go_simp;refine (span32_any 9000 10000 w).mono ?_;rintro e w1 ⟨rfl,hb⟩;have HB1:=Lq (belowT HB.out hb);refine hK.out _ _ trivial (fun _=>?_)
  exact st22_2_0 HN HG HQ HB1 
 ·skip;go_simp;have hb:=belowA (belowR w) (.cells #[.string ⟨#[107,101,101,108]⟩] 9);have hq:=Blk.new w 9 #[.string ⟨#[107,101,101,108]⟩];obtain ⟨w1,hw1⟩:=ex (w.alloc (.cells #[.string ⟨#[107,101,101,108]⟩] 9));obtain ⟨g16,hg1⟩:=ex w.heap.size;rw [hw1] at hb hq;rw [hg1] at hq;rw [hw1,hg1];have H16 : Hid (Blk w1 g16 9 #[.string ⟨#[107,101,101,108]⟩]):=Lq hq;have HB1:=Lq (belowT HB.out hb);refine hK.out _ _ trivial (fun _=>?_)
  exact st22_2_3 HN HG HQ HB1 H16
 ·skip;go_simp;have hb:=belowA (belowR w) (.cells #[.string ⟨#[116,97,110,107,49]⟩,.string ⟨#[107,101,101,108]⟩] 9);have hq:=Blk.new w 9 #[.string ⟨#[116,97,110,107,49]⟩,.string ⟨#[107,101,101,108]⟩];obtain ⟨w1,hw1⟩:=ex (w.alloc (.cells #[.string ⟨#[116,97,110,107,49]⟩,.string ⟨#[107,101,101,108]⟩] 9));obtain ⟨g19,hg1⟩:=ex w.heap.size;rw [hw1] at hb hq;rw [hg1] at hq;rw [hw1,hg1];have H19 : Hid (Blk w1 g19 9 #[.string ⟨#[116,97,110,107,49]⟩,.string ⟨#[107,101,101,108]⟩]):=Lq hq;have HB1:=Lq (belowT HB.out hb);refine hK.out _ _ trivial (fun _=>?_)
  exact st22_2_6 HN HG HQ HB1 H19
theorem reg22_2 {z23 z24 z25 : Value} (HN : Hid (n ≤ 2)) (HG : Hid (Blk V g2 27 #[.slice none 0 0,.slice none 0 0])) (HQ : Hid (hHA21 Q V n g2 g12 z1 z4 z5 z6 z7 z8 z9 z10 z11 z12)) :
  (regionOf Tryz.f22 2).wp Tryz.prog Q ⟨#[iv n,z1,.pointer (some ⟨g2,0,none⟩),.slice (some ⟨g12,0,none⟩) 2 2,z4,z5,z6,z7,z8,z9,z10,z11,z12,z13,z14,z15,z16,z17,z18,z19,z20,z21,z22,z23,z24,z25,z26],[]⟩ V:=by
 refine go0 (ops:=ops22_2) (r:=2) (n:=15) (S:=fun _=>True) (fun _ _=>trivial) fun V0 HB0 hHeld=>?_
 have hn : (n : Int) ≤ 2:=by have:=HN.out; omega
 have hn2 : ¬ (2 : Int) < (n : Int):=by omega
 have hn0 : ¬ (n : Int) < 0:=by omega
 refine tk 10 (.slice (some ⟨g12,0,none⟩) 2 2) ?_;refine tk 11 (iv n) ?_;refine tk 12 (.slice (some ⟨g12,0,none⟩) n 2) ?_;exact st22_2_S HN HG HQ HB0
end
section
variable {W w : World} {g : Nat}
def sKeel : ByteArray:=⟨#[107,101,101,108]⟩
def sTank1 : ByteArray:=⟨#[116,97,110,107,49]⟩
def sDeck : ByteArray:=⟨#[100,101,99,107]⟩
def sPipe1 : ByteArray:=⟨#[112,105,112,101,49]⟩
def sHold1 : ByteArray:=⟨#[104,111,108,100,49]⟩
def sText : ByteArray:=⟨#[112,97,114,116,32,107,101,101,108,32,98,101,97,109,32,48,32,52,48,32,57,48,48,48,32,49,48,48,48,48,10,112,97,114,116,32,116,97,110,107,49,32,116,97,110,107,32,49,48,32,49,57,32,50,48,48,48,32,50,53,48,48,32,107,101,101,108,10,112,97,114,116,32,100,101,99,107,32,112,108,97,116,101,32,53,32,50,52,32,51,48,48,48,32,51,48,48,48,32,116,97,110,107,49,32,107,101,101,108,10,49,48,48,32,97,100,100,32,112,105,112,101,49,32,112,105,112,101,32,49,50,32,51,48,32,49,48,48,32,50,48,48,32,116,97,110,107,49,10,50,48,48,32,115,119,97,112,32,116,97,110,107,49,32,104,111,108,100,49,32,112,108,97,116,101,32,49,48,32,50,57,32,56,48,48,32,57,48,48,32,107,101,101,108,10]⟩
def exParts : List HuP:=[⟨sKeel,2,0,40,[],9000,10000⟩,⟨sTank1,4,10,19,[sKeel],2000,2500⟩,⟨sDeck,1,5,24,[sTank1,sKeel],3000,3000⟩]
def exChgs : List HuC:=[⟨1,100,⟨#[]⟩,⟨sPipe1,5,12,30,[sTank1],100,200⟩⟩,⟨3,200,sTank1,⟨sHold1,1,10,29,[sKeel],800,900⟩⟩]
theorem text30_any (w : World) : Calls Tryz.prog 30 #[] w fun e w'=>e = .returned (.string sText) ∧ w' = w:=by
 go_enter Tryz.func30,Tryz.ntmps30
 go_wp2
 go_ret
 exact ⟨rfl,rfl⟩
theorem Blk.rd1 {α : Type} {enc : α → Value} {t : TypeId} {xs : List α} (h : Blk w g t (xs.map enc).toArray) : Rd1 enc w w.heap.size (some ⟨g,0,none⟩) xs:=by
 intro i x hx;refine ⟨g,0,rfl,h.lt, ?_⟩;rw [h.cell];simp [hx]
theorem Blk.rdN {α : Type} {k : Nat} {enc : α → List Value} (he : ∀ x,(enc x).length = k) {t : TypeId} {xs : List α} (h : Blk w g t (xs.flatMap enc).toArray) : RdN k enc w w.heap.size (some ⟨g,0,none⟩) xs:=by
 intro i x hx;refine ⟨g,0,rfl,h.lt,fun j u hu=>?_⟩
 have:=flat_get he xs i x hx j u hu;rw [h.cell];simp [this]
structure PlanAt (w : World) (A C : Option Addr) (cap capc : Nat) (ms : List HuM) (cs : List HcM) : Prop where
 sl : SlM w w.heap.size A cap ms
 ch : SlC w w.heap.size C capc cs
 wf : ∀ c ∈ cs,Lit.wf (.int .i64 c.what) = true
theorem PlanAt.below {A C : Option Addr} {cap capc : Nat} {ms : List HuM} {cs : List HcM} (h : PlanAt w A C cap capc ms cs) (hb : BW w W) : PlanAt W A C cap capc ms cs:=⟨(h.sl.below hb (Nat.le_refl _)).more hb.size,(h.ch.below hb (Nat.le_refl _)).more hb.size,h.wf⟩
def PlanPost (n : Nat) (w : World) (e : Ending) (w' : World) : Prop:=∃ (A C : Option Addr) (cap capc : Nat) (ms : List HuM) (cs : List HcM),e = .returned (.agg #[.slice A ms.length cap,.slice C cs.length capc]) ∧ PlanAt w' A C cap capc ms cs ∧ psOf ms = exParts ∧ csOf cs = exChgs.take n ∧ BW w w'
theorem mok_lit {p : HuP} (h : Blk w g 9 (p.on.map Value.string).toArray) (hn : p.name.size ≤ maxLen) (ho : ∀ o ∈ p.on,o.size ≤ maxLen) (hl : p.on.length ≤ 5) : MOk w w.heap.size ⟨p,some ⟨g,0,none⟩,p.on.length⟩ :=
 ⟨Blk.rd1 h,Nat.le_refl _,by unfold maxLen; simp only; omega,hn,ho,by simp only; omega⟩
theorem mok_nil {p : HuP} (h : p.on = []) (hn : p.name.size ≤ maxLen) : MOk w w.heap.size ⟨p,none,0⟩ :=
 ⟨by rw [h]; intro i x hx; simp at hx,by simp [h],by unfold maxLen; simp only; omega,hn,by simp [h],by simp [h]⟩
theorem plan_at {ga gb g12 g16 g19 g21 n : Nat} (hn : n ≤ 2) (ha : Blk W ga 9 #[.string ⟨#[116,97,110,107,49]⟩]) (hb : Blk W gb 9 #[.string ⟨#[107,101,101,108]⟩]) (h12 : Blk W g12 49 #[.int .i64 1,.int .i64 100,.string ⟨#[]⟩,.string ⟨#[112,105,112,101,49]⟩,iv 5,iv 12,iv 30,.slice (some ⟨ga,0,none⟩) 1 1,iv 100,iv 200,.int .i64 3,.int .i64 200,.string ⟨#[116,97,110,107,49]⟩,.string ⟨#[104,111,108,100,49]⟩,iv 1,iv 10,iv 29,.slice (some ⟨gb,0,none⟩) 1 1,iv 800,iv 900]) (h16 : Blk W g16 9 #[.string ⟨#[107,101,101,108]⟩]) (h19 : Blk W g19 9 #[.string ⟨#[116,97,110,107,49]⟩,.string ⟨#[107,101,101,108]⟩])
  (h21 : Blk W g21 47 #[.string ⟨#[107,101,101,108]⟩,iv 2,iv 0,iv 40,.slice none 0 0,iv 9000,iv 10000,.string ⟨#[116,97,110,107,49]⟩,iv 4,iv 10,iv 19,.slice (some ⟨g16,0,none⟩) 1 1,iv 2000,iv 2500,.string ⟨#[100,101,99,107]⟩,iv 1,iv 5,iv 24,.slice (some ⟨g19,0,none⟩) 2 2,iv 3000,iv 3000]) :
  PlanAt W (some ⟨g21,0,none⟩) (some ⟨g12,0,none⟩) 3 2 [⟨⟨sKeel,2,0,40,[],9000,10000⟩,none,0⟩,⟨⟨sTank1,4,10,19,[sKeel],2000,2500⟩,some ⟨g16,0,none⟩,1⟩,⟨⟨sDeck,1,5,24,[sTank1,sKeel],3000,3000⟩,some ⟨g19,0,none⟩,2⟩]
   ([⟨1,100,⟨#[]⟩,⟨⟨sPipe1,5,12,30,[sTank1],100,200⟩,some ⟨ga,0,none⟩,1⟩⟩,⟨3,200,sTank1,⟨⟨sHold1,1,10,29,[sKeel],800,900⟩,some ⟨gb,0,none⟩,1⟩⟩].take n):=by
 have s5 : ∀ s : ByteArray,s.size ≤ 5 → s.size ≤ maxLen:=fun s hs=>by unfold maxLen; omega
 have m1 : MOk W W.heap.size ⟨⟨sKeel,2,0,40,[],9000,10000⟩,none,0⟩:=mok_nil rfl (s5 _ (by decide))
 have m2 : MOk W W.heap.size ⟨⟨sTank1,4,10,19,[sKeel],2000,2500⟩,some ⟨g16,0,none⟩,1⟩:=mok_lit (p:=⟨sTank1,4,10,19,[sKeel],2000,2500⟩) h16 (s5 _ (by decide)) (fun o ho=>by simp only [List.mem_singleton] at ho; subst ho; exact s5 _ (by decide)) (by decide)
 have m3 : MOk W W.heap.size ⟨⟨sDeck,1,5,24,[sTank1,sKeel],3000,3000⟩,some ⟨g19,0,none⟩,2⟩:=mok_lit (p:=⟨sDeck,1,5,24,[sTank1,sKeel],3000,3000⟩) h19 (s5 _ (by decide)) (fun o ho=>by simp only [List.mem_cons,List.not_mem_nil,or_false] at ho; rcases ho with rfl | rfl <;> exact s5 _ (by decide)) (by decide)
 have m4 : MOk W W.heap.size ⟨⟨sPipe1,5,12,30,[sTank1],100,200⟩,some ⟨ga,0,none⟩,1⟩:=mok_lit (p:=⟨sPipe1,5,12,30,[sTank1],100,200⟩) ha (s5 _ (by decide)) (fun o ho=>by simp only [List.mem_singleton] at ho; subst ho; exact s5 _ (by decide)) (by decide)
 have m5 : MOk W W.heap.size ⟨⟨sHold1,1,10,29,[sKeel],800,900⟩,some ⟨gb,0,none⟩,1⟩:=mok_lit (p:=⟨sHold1,1,10,29,[sKeel],800,900⟩) hb (s5 _ (by decide)) (fun o ho=>by simp only [List.mem_singleton] at ho; subst ho; exact s5 _ (by decide)) (by decide)
 refine ⟨⟨⟨Blk.rdN encM_len h21,fun m hm=>?_⟩,Nat.le_refl _,by unfold maxLen; omega,fun h=>(by cases h),fun a ha=>?_⟩,⟨?_,fun c hc=>?_, ?_,by unfold maxLen; omega⟩,fun c hc=>?_⟩
 ·simp only [List.mem_cons,List.not_mem_nil,or_false] at hm;rcases hm with rfl | rfl | rfl
  ·exact m1
  ·exact m2
  ·exact m3
 ·injection ha with ha
  subst ha;exact ⟨rfl,h21.lt⟩
 ·exact RdN.take (Blk.rdN encC_len h12) n
 ·have hc:=List.mem_of_mem_take hc;simp only [List.mem_cons,List.not_mem_nil,or_false] at hc;rcases hc with rfl | rfl
  ·exact ⟨m4,s5 ⟨#[]⟩ (by decide)⟩
  ·exact ⟨m5,s5 sTank1 (by decide)⟩
 ·simp only [List.length_take,List.length_cons,List.length_nil]; omega
 ·have hc:=List.mem_of_mem_take hc;simp only [List.mem_cons,List.not_mem_nil,or_false] at hc;rcases hc with rfl | rfl
  ·exact (show Lit.wf (.int .i64 1) = true by decide)
  ·exact (show Lit.wf (.int .i64 3) = true by decide)
theorem plan22_any (n : Nat) (hn : n ≤ 2) (w : World) : Calls Tryz.prog 22 #[iv n] w (PlanPost n w):=by
 obtain ⟨W1,hW1⟩:=ex (w.alloc (.cells #[.slice none 0 0,.slice none 0 0] 27));have b1 : BW w W1:=by rw [← hW1]; exact belowA (belowR w) _
 have q1 : Blk W1 w.heap.size 27 #[.slice none 0 0,.slice none 0 0]:=by rw [← hW1]; exact Blk.new w 27 _
 obtain ⟨g2,hg2⟩:=ex w.heap.size;rw [hg2] at q1;have HB1:=Lq b1;have HQ1:=Lq q1;have HG2 : Hid (w.heap.size ≤ g2):=Lq (Nat.le_of_eq hg2);have HN:=Lq hn;clear b1 q1;go_enter Tryz.func22,Tryz.ntmps22
 go_wp2_with (first | (go_at_call 32; ((with_reducible refine (span32_any _ _ _).mono ?_); rintro e w' ⟨rfl,hb⟩)) | (go_at_call 31; ((with_reducible refine (part31_any _ _ _ _ _ _ _ _ _ _).mono ?_); rintro e w' ⟨rfl,hb⟩)))
 rename_i w2 hb2 w3 hb3 w4 hb4 _ _;obtain ⟨w5,e5⟩:=ex w';rw [e5] at hb;rw [e5];have hb5:=hb;clear e5 hb;clear hW1 hg2;obtain ⟨w2a,hw2a⟩:=ex (w2.alloc (.cells #[.string ⟨#[116,97,110,107,49]⟩] 9));obtain ⟨ga,hga⟩:=ex w2.heap.size;have ba:=belowA (belowR w2) (.cells #[.string ⟨#[116,97,110,107,49]⟩] 9);have qa:=Blk.new w2 9 #[.string ⟨#[116,97,110,107,49]⟩];rw [hw2a] at hb3 ba qa;rw [hga] at qa;obtain ⟨w4a,hw4a⟩:=ex (w4.alloc (.cells #[.string ⟨#[107,101,101,108]⟩] 9));obtain ⟨gb,hgb⟩:=ex w4.heap.size;have bb:=belowA (belowR w4) (.cells #[.string ⟨#[107,101,101,108]⟩] 9);have qb:=Blk.new w4 9 #[.string ⟨#[107,101,101,108]⟩];rw [hw4a] at hb5 bb qb;rw [hgb] at qb;rw [hga,hgb];obtain ⟨w6,hw6⟩:=ex (w5.alloc (.cells #[.int .i64 1,.int .i64 100,.string ⟨#[]⟩,.string ⟨#[112,105,112,101,49]⟩,iv 5,iv 12,iv 30,.slice (some ⟨ga,0,none⟩) 1 1,iv 100,iv 200,.int .i64 3,.int .i64 200,.string ⟨#[116,97,110,107,49]⟩,.string ⟨#[104,111,108,100,49]⟩,iv 1,iv 10,iv 29,.slice (some ⟨gb,0,none⟩) 1 1,iv 800,iv 900] 49));obtain ⟨g12,hg12⟩:=ex w5.heap.size;have b6:=belowA (belowR w5) (.cells #[.int .i64 1,.int .i64 100,.string ⟨#[]⟩,.string ⟨#[112,105,112,101,49]⟩,iv 5,iv 12,iv 30,.slice (some ⟨ga,0,none⟩) 1 1,iv 100,iv 200,.int .i64 3,.int .i64 200,.string ⟨#[116,97,110,107,49]⟩,.string ⟨#[104,111,108,100,49]⟩,iv 1,iv 10,iv 29,.slice (some ⟨gb,0,none⟩) 1 1,iv 800,iv 900] 49);have q12:=Blk.new w5 49 #[.int .i64 1,.int .i64 100,.string ⟨#[]⟩,.string ⟨#[112,105,112,101,49]⟩,iv 5,iv 12,iv 30,.slice (some ⟨ga,0,none⟩) 1 1,iv 100,iv 200,.int .i64 3,.int .i64 200,.string ⟨#[116,97,110,107,49]⟩,.string ⟨#[104,111,108,100,49]⟩,iv 1,iv 10,iv 29,.slice (some ⟨gb,0,none⟩) 1 1,iv 800,iv 900];rw [hw6] at b6 q12;rw [hg12] at q12;rw [hw6,hg12];have b3a:=belowT hb3 hb4;have b35:=belowT b3a (belowT bb (belowT hb5 b6));have HA:=Lq (qa.keep b35);have HB:=Lq (qb.keep (belowT hb5 b6));have H12:=Lq q12;have b16:=belowT hb2 (belowT ba b35);have HG:=Lq (HQ1.out.keep b16);have HB6:=Lq (belowT HB1.out b16);clear hb2 hb3 hb4 hb5 hw2a hw4a hw6 hga hgb hg12 ba qa bb qb b6 q12 b3a b35 b16;go_upto_region 2 with fail
 refine reg22_2 HN HG (Lq ?_);intro u13 u14 u15 u16 u17 u18 u19 u20 u21 u22 u23 u24 u25 u26 g16 g19 g21 W' hb h16 h19 h21;obtain ⟨W9,hW9⟩:=ex ((W'.setCell ⟨g2,0,none⟩ (.slice (some ⟨g21,0,none⟩) 3 3)).setCell ⟨g2,1,none⟩ (.slice (some ⟨g12,0,none⟩) n 2));have o9 : OnlyAt W' W9 g2:=by rw [← hW9]; exact ((OnlyAt.of_below (belowR W') g2).set 0 _).set 1 _
 have q9 : Blk W9 g2 27 #[.slice (some ⟨g21,0,none⟩) 3 3,.slice (some ⟨g12,0,none⟩) n 2]:=by
  rw [← hW9];have h:=((HG.out.keep hb).set_ 0 (.slice (some ⟨g21,0,none⟩) 3 3)).set_ 1 (.slice (some ⟨g12,0,none⟩) n 2)
  simpa using h
 have kp : ∀ g t cs,Blk W' g t cs → t ≠ 27 → Blk W9 g t cs:=fun g t cs h ht=>h.same (o9.block g h.lt (fun e=>by
  subst e;have h2:=HG.out.keep hb;unfold Blk at h h2;rw [h] at h2;injection h2 with h2
  injection h2 with _ h2
  exact ht h2))
 have hp:=plan_at HN.out (kp _ _ _ (HA.out.keep hb) (by decide)) (kp _ _ _ (HB.out.keep hb) (by decide)) (kp _ _ _ (H12.out.keep hb) (by decide)) (kp _ _ _ h16 (by decide)) (kp _ _ _ h19 (by decide)) (kp _ _ _ h21 (by decide))
 have HP:=Lq hp;have HB9:=Lq (o9.below (belowT HB6.out hb) HG2.out);have d0:=q9.c 0;have d1:=q9.c 1;clear o9 q9 kp hp hb h16 h19 h21 hn;rw [hW9];clear hW9;go_wp2_with fail
 refine bodyPost_ret (v:=.agg #[.slice (some ⟨g21,0,none⟩) 3 3,.slice (some ⟨g12,0,none⟩) n 2]) (by simp [results,Tryz.results22,go_sem,d0,d1]) rfl ⟨_,_,_,_,_,_, ?_,HP.out,rfl, ?_,HB9.out⟩
 ·have hl : ∀ a b : HcM,([a,b].take n).length = n:=fun a b=>by have:=HN.out; simp only [List.length_take,List.length_cons,List.length_nil]; omega
  rw [hl];rfl
 ·simp only [csOf,List.map_take]; rfl
end
def partB (x : HuP) (before others : List HuP) : Bool:=nameB x.name && others.all (fun p=>!eqS p.name x.name) && decide (1 ≤ x.kind ∧ x.kind ≤ 5) && decide (0 ≤ x.first ∧ x.first ≤ x.last ∧ x.last ≤ 40) && decide (1 ≤ x.wlo ∧ x.wlo ≤ x.whi ∧ x.whi ≤ 1000000) && x.on.all (fun o=>match before.find? (nmB o) with
 | some y=>meetB x y
 | none=>false) && decide ((x.on.map fun o=>o.data.toList).Nodup)
theorem toList_data2 (o : ByteArray) : o.toList = o.data.toList:=Lib.toList_data o
theorem partB_ok {x : HuP} {b o : List HuP} (h : partB x b o = true) : PartOk x b o:=by
 unfold partB at h;simp only [Bool.and_eq_true,decide_eq_true_eq] at h;obtain ⟨⟨⟨⟨⟨⟨h1,h2⟩,h3⟩,h4⟩,h5⟩,h6⟩,h7⟩:=h;refine ⟨h1,fun p hp e=>?_,h3,h4,h5,fun s hs=>?_, ?_⟩
 ·have:=List.all_eq_true.1 h2 p hp;rw [eqS_iff.2 e] at this;cases this
 ·have:=List.all_eq_true.1 h6 s hs;cases hf : b.find? (nmB s) with
  | none=>rw [hf] at this; cases this
  | some y=>rw [hf] at this; exact ⟨y,rfl,this⟩
 ·have e : x.on.map ByteArray.toList = x.on.map fun o=>o.data.toList:=List.map_congr_left fun o _=>toList_data2 o
  rw [e];exact h7
def shipB (l : List HuP) : Bool:=decide (l.length ≤ 12) && (List.range l.length).all fun i=>match l[i]? with
 | some p=>partB p (l.take i) (l.take i)
 | none=>true
theorem shipB_ok {l : List HuP} (h : shipB l = true) : ShipOk l:=by
 unfold shipB at h;simp only [Bool.and_eq_true,decide_eq_true_eq] at h;refine ⟨h.1,fun i p hi=>?_⟩
 have:=List.all_eq_true.1 h.2 i (List.mem_range.2 (List.getElem?_eq_some_iff.1 hi).1);rw [hi] at this;exact partB_ok this
def exShip1 : List HuP:=exParts ++ [⟨sPipe1,5,12,30,[sTank1],100,200⟩]
def exShip : List HuP:=[⟨sKeel,2,0,40,[],9000,10000⟩,⟨sHold1,1,10,29,[sKeel],800,900⟩,⟨sDeck,1,5,24,[sHold1,sKeel],3000,3000⟩,⟨sPipe1,5,12,30,[sHold1],100,200⟩]
theorem ex_chg1 : chgP exParts ⟨1,100,⟨#[]⟩,⟨sPipe1,5,12,30,[sTank1],100,200⟩⟩ = some exShip1 :=
 chgP_add_ok rfl (by kernel_rfl) (by decide) (partB_ok (by kernel_rfl))
theorem ex_chg2 : chgP exShip1 ⟨3,200,sTank1,⟨sHold1,1,10,29,[sKeel],800,900⟩⟩ = some exShip:=by
 have h:=chgP_swap_ok (l:=exShip1) (c:=⟨3,200,sTank1,⟨sHold1,1,10,29,[sKeel],800,900⟩⟩) rfl (by kernel_rfl) (partB_ok (by kernel_rfl)) (fun q hq hs=>by
  have hm : ((exShip1.drop (idxP exShip1 sTank1 + 1)).all fun q=>!standsB q sTank1 || meetB q ⟨sHold1,1,10,29,[sKeel],800,900⟩) = true:=by kernel_rfl
  have:=List.all_eq_true.1 hm q hq;rw [hs] at this
  simpa using this)
 rw [h];exact congrArg some (by kernel_rfl)
theorem stepC_some {day : Int} {l now l' : List HuP} {last : Int} {c : HuC} (hd : inB last 40000 c.day = true) (hc : chgP l c = some l') : stepC day (some (l,last,now)) c = some (l',c.day,if c.day ≤ day then l' else now):=by
 unfold stepC;simp only;rw [if_pos hd,hc];rfl
theorem ex_run (day : Int) : runC day exParts exChgs = some (exShip,200,if (200 : Int) ≤ day then exShip else if (100 : Int) ≤ day then exShip1 else exParts):=by
 unfold runC exChgs;rw [List.foldl_cons,stepC_some (by kernel_rfl) ex_chg1,List.foldl_cons,stepC_some (by kernel_rfl) ex_chg2]
 rfl
theorem ex_ok2 : PlanOk exParts exChgs:=⟨shipB_ok (by kernel_rfl),by decide,by rw [ex_run]; rfl⟩
theorem ex_ok0 : PlanOk exParts []:=⟨shipB_ok (by kernel_rfl),by decide,rfl⟩
theorem ex_on2 : shipOn 200 exParts exChgs = exShip:=by
 unfold shipOn;rw [ex_run];rfl
theorem ex_on0 (day : Int) : shipOn day exParts [] = exParts:=rfl
theorem ex_take0 : exChgs.take 0 = []:=rfl
theorem ex_lo : loWs 10 19 exParts = 5695:=by kernel_rfl
theorem ex_hi : hiWs 10 19 exParts = 6440:=by kernel_rfl
theorem ex_above : aboveL exShip sKeel exShip.length = [sHold1,sDeck,sPipe1]:=by kernel_rfl
theorem ex_has : hasP exShip sKeel = true:=by kernel_rfl
theorem ex_hasno : hasP exShip sTank1 = false:=by kernel_rfl
end Go.Proofs.YtpgfldcoojfheaaGreatDoor
