/- The examples of layer 1: the plan (printed by mkHA2.py). The examples of layer 1: the .. -/
import Derived.Lib.Strings
import Derived.Test.YtigcophcpboanaaGreatDoorM15
set_option maxRecDepth 1000000
set_option maxHeartbeats 0
namespace Go.Proofs.YtigcophcpboanaaGreatDoor
open Go.RowKit
section
variable{Q:Exit→Act→World→Prop}{g12 g16 g19 g2 n:Nat}{zB zK zL zM zN zO zP zQ zR zS zT zU zV zW za zE zF zG zH zI zJ:Value}{V w:World}
theorem rd3{P:Program}{ops:Array Oper}{md:Region.Mode}{S:World→Prop}{fuel:Nat}{listed l1 l2 l3:Array Bool}{a:Act}(i j k:Nat){o p q:Oper}(h:∀K':Act→World→Prop,Shut (∀a w,S w→(S w→wpAnyH P md ops Q S fuel l1 a w)→K' a w)→if Region.wanted o (yielded ops a.tmps)=true then Oper.wp P o a w K' Q else K' (a.put o.dst undef) w)(h2:∀K':Act→World→Prop,Shut (∀a w,S w→(S w→wpAnyH P md ops Q S fuel l2 a w)→K' a w)→if Region.wanted p (yielded ops a.tmps)=true then Oper.wp P p a w K' Q else K' (a.put p.dst undef) w)(h3:∀K':Act→World→Prop,Shut (∀a w,S w→(S w→wpAnyH P md ops Q S fuel l3 a w)→K' a w)→if Region.wanted q (yielded ops a.tmps)=true then Oper.wp P q a w K' Q else K' (a.put q.dst undef) w)(ho:opN ops i=o:=by
   (conv=>lhs;whnf)<;>rfl)(hp:opN ops j=p:=by
   (conv=>lhs;whnf)<;>rfl)(hq:opN ops k=q:=by
   (conv=>lhs;whnf)<;>rfl)(hi:ops[i]?=some (opN ops i):=by kernel_rfl)(hj:ops[j]?=some (opN ops j):=by kernel_rfl)(hk:ops[k]?=some (opN ops k):=by kernel_rfl)(hr:Region.ready md ops listed=[i,j,k]:=by kernel_rfl)(hl:listed.setIfInBounds i true=l1:=by
   simp only[List.setIfInBounds_toArray,List.set_cons_zero,List.set_cons_succ];rfl)(hl2:listed.setIfInBounds j true=l2:=by
   simp only[List.setIfInBounds_toArray,List.set_cons_zero,List.set_cons_succ];rfl)(hl3:listed.setIfInBounds k true=l3:=by
   simp only[List.setIfInBounds_toArray,List.set_cons_zero,List.set_cons_succ];rfl):wpAnyH P md ops Q S (fuel+1) listed a w:=by
 subst hl hl2 hl3 ho hp hq;exact wpAnyH_ready hr (by simp) (AllReadyH.cons hi h (AllReadyH.cons hj h2 (AllReadyH.cons hk h3 AllReadyH.nil)))
noncomputable def ops22_2:Array Oper:=opsOf (regionOf Tryz.f18 2)
abbrev hHA21(Q:Exit→Act→World→Prop)(V:World)(n g2 g12:Nat)(zB zE zF zG zH zI zJ zK zL zM:Value):Prop:=∀u13 u14 u15 u16 u17 u18 u19 u20 u21 u22 u23 u24 u25 u26 g16 g19 g21 W',BW V W'→Blk W' g16 9 #[.string kL]→Blk W' g19 9 #[.string tk1,.string kL]→Blk W' g21 43 #[.string kL,iv 2,iv 0,iv 40,.slice none 0 0,iv 9000,iv 10000,.string tk1,iv 4,iv 10,iv 19,.slice (some ⟨g16,0,none⟩) 1 1,iv 2000,iv 2500,.string dK,iv 1,iv 5,iv 24,.slice (some ⟨g19,0,none⟩) 2 2,iv 3000,iv 3000]→Q .normal ⟨#[iv n,zB,pT g2 0,.slice (some ⟨g12,0,none⟩) 2 2,zE,zF,zG,zH,zI,zJ,zK,zL,zM,u13,u14,u15,u16,u17,u18,u19,u20,u21,u22,u23,u24,u25,u26],[]⟩ ((W'.setCell ⟨g2,0,none⟩ (.slice (some ⟨g21,0,none⟩) 3 3)).setCell ⟨g2,1,none⟩ (.slice (some ⟨g12,0,none⟩) n 2))
theorem st22_2_0_1_2_3_4_5_6_7_8{g21:Nat}(HN:Hid (n≤2))(HG:Hid (Blk V g2 27 #[.slice none 0 0,.slice none 0 0]))(HQ:Hid (hHA21 Q V n g2 g12 zB zE zF zG zH zI zJ zK zL zM))(HB:Hid (BW V w))(H16:Hid (Blk w g16 9 #[.string kL]))(H19:Hid (Blk w g19 9 #[.string tk1,.string kL]))(H21:Hid (Blk w g21 43 #[.string kL,iv 2,iv 0,iv 40,.slice none 0 0,iv 9000,iv 10000,.string tk1,iv 4,iv 10,iv 19,.slice (some ⟨g16,0,none⟩) 1 1,iv 2000,iv 2500,.string dK,iv 1,iv 5,iv 24,.slice (some ⟨g19,0,none⟩) 2 2,iv 3000,iv 3000])) :
  wpAnyH Tryz.prog .any ops22_2 (NoPanic Q) (fun _=>True) 3 #[true,true,true,true,true,true,true,true,true,false,true,true,true,false,false] ⟨#[iv n,zB,pT g2 0,.slice (some ⟨g12,0,none⟩) 2 2,zE,zF,zG,zH,zI,zJ,zK,zL,zM,.agg #[iv 9000,iv 10000],.agg #[.string kL,iv 2,iv 0,iv 40,.slice none 0 0,iv 9000,iv 10000],.agg #[iv 2000,iv 2500],.slice (some ⟨g16,0,none⟩) 1 1,.agg #[.string tk1,iv 4,iv 10,iv 19,.slice (some ⟨g16,0,none⟩) 1 1,iv 2000,iv 2500],.agg #[iv 3000,iv 3000],.slice (some ⟨g19,0,none⟩) 2 2,.agg #[.string dK,iv 1,iv 5,iv 24,.slice (some ⟨g19,0,none⟩) 2 2,iv 3000,iv 3000],.slice (some ⟨g21,0,none⟩) 3 3,zW,.slice (some ⟨g12,0,none⟩) 2 2,iv n,.slice (some ⟨g12,0,none⟩) n 2,za],[]⟩ w:=by
 have _hn:=HN.out;refine tk 9 (.agg #[.slice (some ⟨g21,0,none⟩) 3 3]) ?_;refine tk 13 (.agg #[.slice (some ⟨g21,0,none⟩) 3 3,.slice (some ⟨g12,0,none⟩) n 2]) ?_;refine rd1 14 fun K' hK=>?_
 have bg:=HG.out.keep HB.out;have fg:=bg.frozen 0;have fg1:=bg.frozen 1;have lg:=bg.lt;have cg:=bg.c 0;have cg1:=bg.c 1;go_simp;refine hK.out _ _ trivial (fun _=>?_)
 clear hK;refine wpAnyH_done (by kernel_rfl) ?_ _
 exact NoPanic.normal (HQ.out _ _ _ _ _ _ _ _ _ _ _ _ _ _ _ _ _ _ HB.out H16.out H19.out H21.out)
theorem st22_2_0_1_2_3_4_5_6_7(HN:Hid (n≤2))(HG:Hid (Blk V g2 27 #[.slice none 0 0,.slice none 0 0]))(HQ:Hid (hHA21 Q V n g2 g12 zB zE zF zG zH zI zJ zK zL zM))(HB:Hid (BW V w))(H16:Hid (Blk w g16 9 #[.string kL]))(H19:Hid (Blk w g19 9 #[.string tk1,.string kL])) :
  wpAnyH Tryz.prog .any ops22_2 (NoPanic Q) (fun _=>True) 4 #[true,true,true,true,true,true,true,true,false,false,true,true,true,false,false] ⟨#[iv n,zB,pT g2 0,.slice (some ⟨g12,0,none⟩) 2 2,zE,zF,zG,zH,zI,zJ,zK,zL,zM,.agg #[iv 9000,iv 10000],.agg #[.string kL,iv 2,iv 0,iv 40,.slice none 0 0,iv 9000,iv 10000],.agg #[iv 2000,iv 2500],.slice (some ⟨g16,0,none⟩) 1 1,.agg #[.string tk1,iv 4,iv 10,iv 19,.slice (some ⟨g16,0,none⟩) 1 1,iv 2000,iv 2500],.agg #[iv 3000,iv 3000],.slice (some ⟨g19,0,none⟩) 2 2,.agg #[.string dK,iv 1,iv 5,iv 24,.slice (some ⟨g19,0,none⟩) 2 2,iv 3000,iv 3000],zV,zW,.slice (some ⟨g12,0,none⟩) 2 2,iv n,.slice (some ⟨g12,0,none⟩) n 2,za],[]⟩ w:=by
 refine rd1 8 (fun K' hK=>?_)
 ·skip;go_simp;have hb:=bA (bR w) (.cells #[.string kL,iv 2,iv 0,iv 40,.slice none 0 0,iv 9000,iv 10000,.string tk1,iv 4,iv 10,iv 19,.slice (some ⟨g16,0,none⟩) 1 1,iv 2000,iv 2500,.string dK,iv 1,iv 5,iv 24,.slice (some ⟨g19,0,none⟩) 2 2,iv 3000,iv 3000] 43);have hq:=Blk.new w 43 #[.string kL,iv 2,iv 0,iv 40,.slice none 0 0,iv 9000,iv 10000,.string tk1,iv 4,iv 10,iv 19,.slice (some ⟨g16,0,none⟩) 1 1,iv 2000,iv 2500,.string dK,iv 1,iv 5,iv 24,.slice (some ⟨g19,0,none⟩) 2 2,iv 3000,iv 3000];obtain⟨w1,hw1⟩:=ex (w.alloc (.cells #[.string kL,iv 2,iv 0,iv 40,.slice none 0 0,iv 9000,iv 10000,.string tk1,iv 4,iv 10,iv 19,.slice (some ⟨g16,0,none⟩) 1 1,iv 2000,iv 2500,.string dK,iv 1,iv 5,iv 24,.slice (some ⟨g19,0,none⟩) 2 2,iv 3000,iv 3000] 43));obtain⟨g21,hg1⟩:=ex w.heap.size;rw[hw1]at hb hq;rw[hg1]at hq;rw[hw1,hg1];have H21:Hid (Blk w1 g21 43 #[.string kL,iv 2,iv 0,iv 40,.slice none 0 0,iv 9000,iv 10000,.string tk1,iv 4,iv 10,iv 19,.slice (some ⟨g16,0,none⟩) 1 1,iv 2000,iv 2500,.string dK,iv 1,iv 5,iv 24,.slice (some ⟨g19,0,none⟩) 2 2,iv 3000,iv 3000]):=Lq hq;have HB1:=Lq (bT HB.out hb);have H16:Hid (Blk w1 g16 9 #[.string kL]):=Lq (H16.out.keep hb);have H19:Hid (Blk w1 g19 9 #[.string tk1,.string kL]):=Lq (H19.out.keep hb);refine hK.out _ _ trivial (fun _=>?_)
  exact st22_2_0_1_2_3_4_5_6_7_8 HN HG HQ HB1 H16 H19 H21
theorem st22_2_0_1_2_3_4_5_6(HN:Hid (n≤2))(HG:Hid (Blk V g2 27 #[.slice none 0 0,.slice none 0 0]))(HQ:Hid (hHA21 Q V n g2 g12 zB zE zF zG zH zI zJ zK zL zM))(HB:Hid (BW V w))(H16:Hid (Blk w g16 9 #[.string kL]))(H19:Hid (Blk w g19 9 #[.string tk1,.string kL])) :
  wpAnyH Tryz.prog .any ops22_2 (NoPanic Q) (fun _=>True) 5 #[true,true,true,true,true,true,true,false,false,false,true,true,true,false,false] ⟨#[iv n,zB,pT g2 0,.slice (some ⟨g12,0,none⟩) 2 2,zE,zF,zG,zH,zI,zJ,zK,zL,zM,.agg #[iv 9000,iv 10000],.agg #[.string kL,iv 2,iv 0,iv 40,.slice none 0 0,iv 9000,iv 10000],.agg #[iv 2000,iv 2500],.slice (some ⟨g16,0,none⟩) 1 1,.agg #[.string tk1,iv 4,iv 10,iv 19,.slice (some ⟨g16,0,none⟩) 1 1,iv 2000,iv 2500],.agg #[iv 3000,iv 3000],.slice (some ⟨g19,0,none⟩) 2 2,zU,zV,zW,.slice (some ⟨g12,0,none⟩) 2 2,iv n,.slice (some ⟨g12,0,none⟩) n 2,za],[]⟩ w:=by
 refine rd1 7 (fun K' hK=>?_)
 ·skip;go_simp;refine(part31_any _ _ _ _ _ _ _ _ _ w).mono ?_;rintro e w1 ⟨rfl,hb⟩;have HB1:=Lq (bT HB.out hb);have H16:Hid (Blk w1 g16 9 #[.string kL]):=Lq (H16.out.keep hb);have H19:Hid (Blk w1 g19 9 #[.string tk1,.string kL]):=Lq (H19.out.keep hb);refine hK.out _ _ trivial (fun _=>?_)
  exact st22_2_0_1_2_3_4_5_6_7 HN HG HQ HB1 H16 H19
theorem st22_2_0_1_2_3_4_5(HN:Hid (n≤2))(HG:Hid (Blk V g2 27 #[.slice none 0 0,.slice none 0 0]))(HQ:Hid (hHA21 Q V n g2 g12 zB zE zF zG zH zI zJ zK zL zM))(HB:Hid (BW V w))(H16:Hid (Blk w g16 9 #[.string kL])) :
  wpAnyH Tryz.prog .any ops22_2 (NoPanic Q) (fun _=>True) 6 #[true,true,true,true,true,true,false,false,false,false,true,true,true,false,false] ⟨#[iv n,zB,pT g2 0,.slice (some ⟨g12,0,none⟩) 2 2,zE,zF,zG,zH,zI,zJ,zK,zL,zM,.agg #[iv 9000,iv 10000],.agg #[.string kL,iv 2,iv 0,iv 40,.slice none 0 0,iv 9000,iv 10000],.agg #[iv 2000,iv 2500],.slice (some ⟨g16,0,none⟩) 1 1,.agg #[.string tk1,iv 4,iv 10,iv 19,.slice (some ⟨g16,0,none⟩) 1 1,iv 2000,iv 2500],.agg #[iv 3000,iv 3000],zT,zU,zV,zW,.slice (some ⟨g12,0,none⟩) 2 2,iv n,.slice (some ⟨g12,0,none⟩) n 2,za],[]⟩ w:=by
 refine rd1 6 (fun K' hK=>?_)
 ·skip;go_simp;have hb:=bA (bR w) (.cells #[.string tk1,.string kL] 9);have hq:=Blk.new w 9 #[.string tk1,.string kL];obtain⟨w1,hw1⟩:=ex (w.alloc (.cells #[.string tk1,.string kL] 9));obtain⟨g19,hg1⟩:=ex w.heap.size;rw[hw1]at hb hq;rw[hg1]at hq;rw[hw1,hg1];have H19:Hid (Blk w1 g19 9 #[.string tk1,.string kL]):=Lq hq;have HB1:=Lq (bT HB.out hb);have H16:Hid (Blk w1 g16 9 #[.string kL]):=Lq (H16.out.keep hb);refine hK.out _ _ trivial (fun _=>?_)
  exact st22_2_0_1_2_3_4_5_6 HN HG HQ HB1 H16 H19
theorem st22_2_0_1_2_3_4_6(HN:Hid (n≤2))(HG:Hid (Blk V g2 27 #[.slice none 0 0,.slice none 0 0]))(HQ:Hid (hHA21 Q V n g2 g12 zB zE zF zG zH zI zJ zK zL zM))(HB:Hid (BW V w))(H16:Hid (Blk w g16 9 #[.string kL]))(H19:Hid (Blk w g19 9 #[.string tk1,.string kL])) :
  wpAnyH Tryz.prog .any ops22_2 (NoPanic Q) (fun _=>True) 6 #[true,true,true,true,true,false,true,false,false,false,true,true,true,false,false] ⟨#[iv n,zB,pT g2 0,.slice (some ⟨g12,0,none⟩) 2 2,zE,zF,zG,zH,zI,zJ,zK,zL,zM,.agg #[iv 9000,iv 10000],.agg #[.string kL,iv 2,iv 0,iv 40,.slice none 0 0,iv 9000,iv 10000],.agg #[iv 2000,iv 2500],.slice (some ⟨g16,0,none⟩) 1 1,.agg #[.string tk1,iv 4,iv 10,iv 19,.slice (some ⟨g16,0,none⟩) 1 1,iv 2000,iv 2500],zS,.slice (some ⟨g19,0,none⟩) 2 2,zU,zV,zW,.slice (some ⟨g12,0,none⟩) 2 2,iv n,.slice (some ⟨g12,0,none⟩) n 2,za],[]⟩ w:=by
 refine rd1 5 (fun K' hK=>?_)
 ·skip;go_simp;refine(span32_any 3000 3000 w).mono ?_;rintro e w1 ⟨rfl,hb⟩;have HB1:=Lq (bT HB.out hb);have H16:Hid (Blk w1 g16 9 #[.string kL]):=Lq (H16.out.keep hb);have H19:Hid (Blk w1 g19 9 #[.string tk1,.string kL]):=Lq (H19.out.keep hb);refine hK.out _ _ trivial (fun _=>?_)
  exact st22_2_0_1_2_3_4_5_6 HN HG HQ HB1 H16 H19
theorem st22_2_0_1_2_3_4(HN:Hid (n≤2))(HG:Hid (Blk V g2 27 #[.slice none 0 0,.slice none 0 0]))(HQ:Hid (hHA21 Q V n g2 g12 zB zE zF zG zH zI zJ zK zL zM))(HB:Hid (BW V w))(H16:Hid (Blk w g16 9 #[.string kL])) :
  wpAnyH Tryz.prog .any ops22_2 (NoPanic Q) (fun _=>True) 7 #[true,true,true,true,true,false,false,false,false,false,true,true,true,false,false] ⟨#[iv n,zB,pT g2 0,.slice (some ⟨g12,0,none⟩) 2 2,zE,zF,zG,zH,zI,zJ,zK,zL,zM,.agg #[iv 9000,iv 10000],.agg #[.string kL,iv 2,iv 0,iv 40,.slice none 0 0,iv 9000,iv 10000],.agg #[iv 2000,iv 2500],.slice (some ⟨g16,0,none⟩) 1 1,.agg #[.string tk1,iv 4,iv 10,iv 19,.slice (some ⟨g16,0,none⟩) 1 1,iv 2000,iv 2500],zS,zT,zU,zV,zW,.slice (some ⟨g12,0,none⟩) 2 2,iv n,.slice (some ⟨g12,0,none⟩) n 2,za],[]⟩ w:=by
 refine rd2 5 6 (fun K' hK=>?_) (fun K' hK=>?_)
 ·skip;go_simp;refine(span32_any 3000 3000 w).mono ?_;rintro e w1 ⟨rfl,hb⟩;have HB1:=Lq (bT HB.out hb);have H16:Hid (Blk w1 g16 9 #[.string kL]):=Lq (H16.out.keep hb);refine hK.out _ _ trivial (fun _=>?_)
  exact st22_2_0_1_2_3_4_5 HN HG HQ HB1 H16
 ·skip;go_simp;have hb:=bA (bR w) (.cells #[.string tk1,.string kL] 9);have hq:=Blk.new w 9 #[.string tk1,.string kL];obtain⟨w1,hw1⟩:=ex (w.alloc (.cells #[.string tk1,.string kL] 9));obtain⟨g19,hg1⟩:=ex w.heap.size;rw[hw1]at hb hq;rw[hg1]at hq;rw[hw1,hg1];have H19:Hid (Blk w1 g19 9 #[.string tk1,.string kL]):=Lq hq;have HB1:=Lq (bT HB.out hb);have H16:Hid (Blk w1 g16 9 #[.string kL]):=Lq (H16.out.keep hb);refine hK.out _ _ trivial (fun _=>?_)
  exact st22_2_0_1_2_3_4_6 HN HG HQ HB1 H16 H19
theorem st22_2_0_1_2_3_6(HN:Hid (n≤2))(HG:Hid (Blk V g2 27 #[.slice none 0 0,.slice none 0 0]))(HQ:Hid (hHA21 Q V n g2 g12 zB zE zF zG zH zI zJ zK zL zM))(HB:Hid (BW V w))(H16:Hid (Blk w g16 9 #[.string kL]))(H19:Hid (Blk w g19 9 #[.string tk1,.string kL])) :
  wpAnyH Tryz.prog .any ops22_2 (NoPanic Q) (fun _=>True) 7 #[true,true,true,true,false,false,true,false,false,false,true,true,true,false,false] ⟨#[iv n,zB,pT g2 0,.slice (some ⟨g12,0,none⟩) 2 2,zE,zF,zG,zH,zI,zJ,zK,zL,zM,.agg #[iv 9000,iv 10000],.agg #[.string kL,iv 2,iv 0,iv 40,.slice none 0 0,iv 9000,iv 10000],.agg #[iv 2000,iv 2500],.slice (some ⟨g16,0,none⟩) 1 1,zR,zS,.slice (some ⟨g19,0,none⟩) 2 2,zU,zV,zW,.slice (some ⟨g12,0,none⟩) 2 2,iv n,.slice (some ⟨g12,0,none⟩) n 2,za],[]⟩ w:=by
 refine rd1 4 (fun K' hK=>?_)
 ·skip;go_simp;refine(part31_any _ _ _ _ _ _ _ _ _ w).mono ?_;rintro e w1 ⟨rfl,hb⟩;have HB1:=Lq (bT HB.out hb);have H16:Hid (Blk w1 g16 9 #[.string kL]):=Lq (H16.out.keep hb);have H19:Hid (Blk w1 g19 9 #[.string tk1,.string kL]):=Lq (H19.out.keep hb);refine hK.out _ _ trivial (fun _=>?_)
  exact st22_2_0_1_2_3_4_6 HN HG HQ HB1 H16 H19
theorem st22_2_0_1_2_3(HN:Hid (n≤2))(HG:Hid (Blk V g2 27 #[.slice none 0 0,.slice none 0 0]))(HQ:Hid (hHA21 Q V n g2 g12 zB zE zF zG zH zI zJ zK zL zM))(HB:Hid (BW V w))(H16:Hid (Blk w g16 9 #[.string kL])) :
  wpAnyH Tryz.prog .any ops22_2 (NoPanic Q) (fun _=>True) 8 #[true,true,true,true,false,false,false,false,false,false,true,true,true,false,false] ⟨#[iv n,zB,pT g2 0,.slice (some ⟨g12,0,none⟩) 2 2,zE,zF,zG,zH,zI,zJ,zK,zL,zM,.agg #[iv 9000,iv 10000],.agg #[.string kL,iv 2,iv 0,iv 40,.slice none 0 0,iv 9000,iv 10000],.agg #[iv 2000,iv 2500],.slice (some ⟨g16,0,none⟩) 1 1,zR,zS,zT,zU,zV,zW,.slice (some ⟨g12,0,none⟩) 2 2,iv n,.slice (some ⟨g12,0,none⟩) n 2,za],[]⟩ w:=by
 refine rd2 4 6 (fun K' hK=>?_) (fun K' hK=>?_)
 ·skip;go_simp;refine(part31_any _ _ _ _ _ _ _ _ _ w).mono ?_;rintro e w1 ⟨rfl,hb⟩;have HB1:=Lq (bT HB.out hb);have H16:Hid (Blk w1 g16 9 #[.string kL]):=Lq (H16.out.keep hb);refine hK.out _ _ trivial (fun _=>?_)
  exact st22_2_0_1_2_3_4 HN HG HQ HB1 H16
 ·skip;go_simp;have hb:=bA (bR w) (.cells #[.string tk1,.string kL] 9);have hq:=Blk.new w 9 #[.string tk1,.string kL];obtain⟨w1,hw1⟩:=ex (w.alloc (.cells #[.string tk1,.string kL] 9));obtain⟨g19,hg1⟩:=ex w.heap.size;rw[hw1]at hb hq;rw[hg1]at hq;rw[hw1,hg1];have H19:Hid (Blk w1 g19 9 #[.string tk1,.string kL]):=Lq hq;have HB1:=Lq (bT HB.out hb);have H16:Hid (Blk w1 g16 9 #[.string kL]):=Lq (H16.out.keep hb);refine hK.out _ _ trivial (fun _=>?_)
  exact st22_2_0_1_2_3_6 HN HG HQ HB1 H16 H19
theorem st22_2_0_1_2_6(HN:Hid (n≤2))(HG:Hid (Blk V g2 27 #[.slice none 0 0,.slice none 0 0]))(HQ:Hid (hHA21 Q V n g2 g12 zB zE zF zG zH zI zJ zK zL zM))(HB:Hid (BW V w))(H19:Hid (Blk w g19 9 #[.string tk1,.string kL])) :
  wpAnyH Tryz.prog .any ops22_2 (NoPanic Q) (fun _=>True) 8 #[true,true,true,false,false,false,true,false,false,false,true,true,true,false,false] ⟨#[iv n,zB,pT g2 0,.slice (some ⟨g12,0,none⟩) 2 2,zE,zF,zG,zH,zI,zJ,zK,zL,zM,.agg #[iv 9000,iv 10000],.agg #[.string kL,iv 2,iv 0,iv 40,.slice none 0 0,iv 9000,iv 10000],.agg #[iv 2000,iv 2500],zQ,zR,zS,.slice (some ⟨g19,0,none⟩) 2 2,zU,zV,zW,.slice (some ⟨g12,0,none⟩) 2 2,iv n,.slice (some ⟨g12,0,none⟩) n 2,za],[]⟩ w:=by
 refine rd1 3 (fun K' hK=>?_)
 ·skip;go_simp;have hb:=bA (bR w) (.cells #[.string kL] 9);have hq:=Blk.new w 9 #[.string kL];obtain⟨w1,hw1⟩:=ex (w.alloc (.cells #[.string kL] 9));obtain⟨g16,hg1⟩:=ex w.heap.size;rw[hw1]at hb hq;rw[hg1]at hq;rw[hw1,hg1];have H16:Hid (Blk w1 g16 9 #[.string kL]):=Lq hq;have HB1:=Lq (bT HB.out hb);have H19:Hid (Blk w1 g19 9 #[.string tk1,.string kL]):=Lq (H19.out.keep hb);refine hK.out _ _ trivial (fun _=>?_)
  exact st22_2_0_1_2_3_6 HN HG HQ HB1 H16 H19
theorem st22_2_0_1_3_6(HN:Hid (n≤2))(HG:Hid (Blk V g2 27 #[.slice none 0 0,.slice none 0 0]))(HQ:Hid (hHA21 Q V n g2 g12 zB zE zF zG zH zI zJ zK zL zM))(HB:Hid (BW V w))(H16:Hid (Blk w g16 9 #[.string kL]))(H19:Hid (Blk w g19 9 #[.string tk1,.string kL])) :
  wpAnyH Tryz.prog .any ops22_2 (NoPanic Q) (fun _=>True) 8 #[true,true,false,true,false,false,true,false,false,false,true,true,true,false,false] ⟨#[iv n,zB,pT g2 0,.slice (some ⟨g12,0,none⟩) 2 2,zE,zF,zG,zH,zI,zJ,zK,zL,zM,.agg #[iv 9000,iv 10000],.agg #[.string kL,iv 2,iv 0,iv 40,.slice none 0 0,iv 9000,iv 10000],zP,.slice (some ⟨g16,0,none⟩) 1 1,zR,zS,.slice (some ⟨g19,0,none⟩) 2 2,zU,zV,zW,.slice (some ⟨g12,0,none⟩) 2 2,iv n,.slice (some ⟨g12,0,none⟩) n 2,za],[]⟩ w:=by
 refine rd1 2 (fun K' hK=>?_)
 ·skip;go_simp;refine(span32_any 2000 2500 w).mono ?_;rintro e w1 ⟨rfl,hb⟩;have HB1:=Lq (bT HB.out hb);have H16:Hid (Blk w1 g16 9 #[.string kL]):=Lq (H16.out.keep hb);have H19:Hid (Blk w1 g19 9 #[.string tk1,.string kL]):=Lq (H19.out.keep hb);refine hK.out _ _ trivial (fun _=>?_)
  exact st22_2_0_1_2_3_6 HN HG HQ HB1 H16 H19
theorem st22_2_0_1_2(HN:Hid (n≤2))(HG:Hid (Blk V g2 27 #[.slice none 0 0,.slice none 0 0]))(HQ:Hid (hHA21 Q V n g2 g12 zB zE zF zG zH zI zJ zK zL zM))(HB:Hid (BW V w))  :
  wpAnyH Tryz.prog .any ops22_2 (NoPanic Q) (fun _=>True) 9 #[true,true,true,false,false,false,false,false,false,false,true,true,true,false,false] ⟨#[iv n,zB,pT g2 0,.slice (some ⟨g12,0,none⟩) 2 2,zE,zF,zG,zH,zI,zJ,zK,zL,zM,.agg #[iv 9000,iv 10000],.agg #[.string kL,iv 2,iv 0,iv 40,.slice none 0 0,iv 9000,iv 10000],.agg #[iv 2000,iv 2500],zQ,zR,zS,zT,zU,zV,zW,.slice (some ⟨g12,0,none⟩) 2 2,iv n,.slice (some ⟨g12,0,none⟩) n 2,za],[]⟩ w:=by
 refine rd2 3 6 (fun K' hK=>?_) (fun K' hK=>?_)
 ·skip;go_simp;have hb:=bA (bR w) (.cells #[.string kL] 9);have hq:=Blk.new w 9 #[.string kL];obtain⟨w1,hw1⟩:=ex (w.alloc (.cells #[.string kL] 9));obtain⟨g16,hg1⟩:=ex w.heap.size;rw[hw1]at hb hq;rw[hg1]at hq;rw[hw1,hg1];have H16:Hid (Blk w1 g16 9 #[.string kL]):=Lq hq;have HB1:=Lq (bT HB.out hb);refine hK.out _ _ trivial (fun _=>?_)
  exact st22_2_0_1_2_3 HN HG HQ HB1 H16
 ·skip;go_simp;have hb:=bA (bR w) (.cells #[.string tk1,.string kL] 9);have hq:=Blk.new w 9 #[.string tk1,.string kL];obtain⟨w1,hw1⟩:=ex (w.alloc (.cells #[.string tk1,.string kL] 9));obtain⟨g19,hg1⟩:=ex w.heap.size;rw[hw1]at hb hq;rw[hg1]at hq;rw[hw1,hg1];have H19:Hid (Blk w1 g19 9 #[.string tk1,.string kL]):=Lq hq;have HB1:=Lq (bT HB.out hb);refine hK.out _ _ trivial (fun _=>?_)
  exact st22_2_0_1_2_6 HN HG HQ HB1 H19
theorem st22_2_0_1_3(HN:Hid (n≤2))(HG:Hid (Blk V g2 27 #[.slice none 0 0,.slice none 0 0]))(HQ:Hid (hHA21 Q V n g2 g12 zB zE zF zG zH zI zJ zK zL zM))(HB:Hid (BW V w))(H16:Hid (Blk w g16 9 #[.string kL])) :
  wpAnyH Tryz.prog .any ops22_2 (NoPanic Q) (fun _=>True) 9 #[true,true,false,true,false,false,false,false,false,false,true,true,true,false,false] ⟨#[iv n,zB,pT g2 0,.slice (some ⟨g12,0,none⟩) 2 2,zE,zF,zG,zH,zI,zJ,zK,zL,zM,.agg #[iv 9000,iv 10000],.agg #[.string kL,iv 2,iv 0,iv 40,.slice none 0 0,iv 9000,iv 10000],zP,.slice (some ⟨g16,0,none⟩) 1 1,zR,zS,zT,zU,zV,zW,.slice (some ⟨g12,0,none⟩) 2 2,iv n,.slice (some ⟨g12,0,none⟩) n 2,za],[]⟩ w:=by
 refine rd2 2 6 (fun K' hK=>?_) (fun K' hK=>?_)
 ·skip;go_simp;refine(span32_any 2000 2500 w).mono ?_;rintro e w1 ⟨rfl,hb⟩;have HB1:=Lq (bT HB.out hb);have H16:Hid (Blk w1 g16 9 #[.string kL]):=Lq (H16.out.keep hb);refine hK.out _ _ trivial (fun _=>?_)
  exact st22_2_0_1_2_3 HN HG HQ HB1 H16
 ·skip;go_simp;have hb:=bA (bR w) (.cells #[.string tk1,.string kL] 9);have hq:=Blk.new w 9 #[.string tk1,.string kL];obtain⟨w1,hw1⟩:=ex (w.alloc (.cells #[.string tk1,.string kL] 9));obtain⟨g19,hg1⟩:=ex w.heap.size;rw[hw1]at hb hq;rw[hg1]at hq;rw[hw1,hg1];have H19:Hid (Blk w1 g19 9 #[.string tk1,.string kL]):=Lq hq;have HB1:=Lq (bT HB.out hb);have H16:Hid (Blk w1 g16 9 #[.string kL]):=Lq (H16.out.keep hb);refine hK.out _ _ trivial (fun _=>?_)
  exact st22_2_0_1_3_6 HN HG HQ HB1 H16 H19
theorem st22_2_0_1_6(HN:Hid (n≤2))(HG:Hid (Blk V g2 27 #[.slice none 0 0,.slice none 0 0]))(HQ:Hid (hHA21 Q V n g2 g12 zB zE zF zG zH zI zJ zK zL zM))(HB:Hid (BW V w))(H19:Hid (Blk w g19 9 #[.string tk1,.string kL])) :
  wpAnyH Tryz.prog .any ops22_2 (NoPanic Q) (fun _=>True) 9 #[true,true,false,false,false,false,true,false,false,false,true,true,true,false,false] ⟨#[iv n,zB,pT g2 0,.slice (some ⟨g12,0,none⟩) 2 2,zE,zF,zG,zH,zI,zJ,zK,zL,zM,.agg #[iv 9000,iv 10000],.agg #[.string kL,iv 2,iv 0,iv 40,.slice none 0 0,iv 9000,iv 10000],zP,zQ,zR,zS,.slice (some ⟨g19,0,none⟩) 2 2,zU,zV,zW,.slice (some ⟨g12,0,none⟩) 2 2,iv n,.slice (some ⟨g12,0,none⟩) n 2,za],[]⟩ w:=by
 refine rd2 2 3 (fun K' hK=>?_) (fun K' hK=>?_)
 ·skip;go_simp;refine(span32_any 2000 2500 w).mono ?_;rintro e w1 ⟨rfl,hb⟩;have HB1:=Lq (bT HB.out hb);have H19:Hid (Blk w1 g19 9 #[.string tk1,.string kL]):=Lq (H19.out.keep hb);refine hK.out _ _ trivial (fun _=>?_)
  exact st22_2_0_1_2_6 HN HG HQ HB1 H19
 ·skip;go_simp;have hb:=bA (bR w) (.cells #[.string kL] 9);have hq:=Blk.new w 9 #[.string kL];obtain⟨w1,hw1⟩:=ex (w.alloc (.cells #[.string kL] 9));obtain⟨g16,hg1⟩:=ex w.heap.size;rw[hw1]at hb hq;rw[hg1]at hq;rw[hw1,hg1];have H16:Hid (Blk w1 g16 9 #[.string kL]):=Lq hq;have HB1:=Lq (bT HB.out hb);have H19:Hid (Blk w1 g19 9 #[.string tk1,.string kL]):=Lq (H19.out.keep hb);refine hK.out _ _ trivial (fun _=>?_)
  exact st22_2_0_1_3_6 HN HG HQ HB1 H16 H19
theorem st22_2_0_3_6(HN:Hid (n≤2))(HG:Hid (Blk V g2 27 #[.slice none 0 0,.slice none 0 0]))(HQ:Hid (hHA21 Q V n g2 g12 zB zE zF zG zH zI zJ zK zL zM))(HB:Hid (BW V w))(H16:Hid (Blk w g16 9 #[.string kL]))(H19:Hid (Blk w g19 9 #[.string tk1,.string kL])) :
  wpAnyH Tryz.prog .any ops22_2 (NoPanic Q) (fun _=>True) 9 #[true,false,false,true,false,false,true,false,false,false,true,true,true,false,false] ⟨#[iv n,zB,pT g2 0,.slice (some ⟨g12,0,none⟩) 2 2,zE,zF,zG,zH,zI,zJ,zK,zL,zM,.agg #[iv 9000,iv 10000],zO,zP,.slice (some ⟨g16,0,none⟩) 1 1,zR,zS,.slice (some ⟨g19,0,none⟩) 2 2,zU,zV,zW,.slice (some ⟨g12,0,none⟩) 2 2,iv n,.slice (some ⟨g12,0,none⟩) n 2,za],[]⟩ w:=by
 refine rd1 1 (fun K' hK=>?_)
 ·skip;go_simp;refine(part31_any _ _ _ _ _ _ _ _ _ w).mono ?_;rintro e w1 ⟨rfl,hb⟩;have HB1:=Lq (bT HB.out hb);have H16:Hid (Blk w1 g16 9 #[.string kL]):=Lq (H16.out.keep hb);have H19:Hid (Blk w1 g19 9 #[.string tk1,.string kL]):=Lq (H19.out.keep hb);refine hK.out _ _ trivial (fun _=>?_)
  exact st22_2_0_1_3_6 HN HG HQ HB1 H16 H19
theorem st22_2_0_1(HN:Hid (n≤2))(HG:Hid (Blk V g2 27 #[.slice none 0 0,.slice none 0 0]))(HQ:Hid (hHA21 Q V n g2 g12 zB zE zF zG zH zI zJ zK zL zM))(HB:Hid (BW V w))  :
  wpAnyH Tryz.prog .any ops22_2 (NoPanic Q) (fun _=>True) 10 #[true,true,false,false,false,false,false,false,false,false,true,true,true,false,false] ⟨#[iv n,zB,pT g2 0,.slice (some ⟨g12,0,none⟩) 2 2,zE,zF,zG,zH,zI,zJ,zK,zL,zM,.agg #[iv 9000,iv 10000],.agg #[.string kL,iv 2,iv 0,iv 40,.slice none 0 0,iv 9000,iv 10000],zP,zQ,zR,zS,zT,zU,zV,zW,.slice (some ⟨g12,0,none⟩) 2 2,iv n,.slice (some ⟨g12,0,none⟩) n 2,za],[]⟩ w:=by
 refine rd3 2 3 6 (fun K' hK=>?_) (fun K' hK=>?_) (fun K' hK=>?_)
 ·skip;go_simp;refine(span32_any 2000 2500 w).mono ?_;rintro e w1 ⟨rfl,hb⟩;have HB1:=Lq (bT HB.out hb);refine hK.out _ _ trivial (fun _=>?_)
  exact st22_2_0_1_2 HN HG HQ HB1 
 ·skip;go_simp;have hb:=bA (bR w) (.cells #[.string kL] 9);have hq:=Blk.new w 9 #[.string kL];obtain⟨w1,hw1⟩:=ex (w.alloc (.cells #[.string kL] 9));obtain⟨g16,hg1⟩:=ex w.heap.size;rw[hw1]at hb hq;rw[hg1]at hq;rw[hw1,hg1];have H16:Hid (Blk w1 g16 9 #[.string kL]):=Lq hq;have HB1:=Lq (bT HB.out hb);refine hK.out _ _ trivial (fun _=>?_)
  exact st22_2_0_1_3 HN HG HQ HB1 H16
 ·skip;go_simp;have hb:=bA (bR w) (.cells #[.string tk1,.string kL] 9);have hq:=Blk.new w 9 #[.string tk1,.string kL];obtain⟨w1,hw1⟩:=ex (w.alloc (.cells #[.string tk1,.string kL] 9));obtain⟨g19,hg1⟩:=ex w.heap.size;rw[hw1]at hb hq;rw[hg1]at hq;rw[hw1,hg1];have H19:Hid (Blk w1 g19 9 #[.string tk1,.string kL]):=Lq hq;have HB1:=Lq (bT HB.out hb);refine hK.out _ _ trivial (fun _=>?_)
  exact st22_2_0_1_6 HN HG HQ HB1 H19
theorem st22_2_0_3(HN:Hid (n≤2))(HG:Hid (Blk V g2 27 #[.slice none 0 0,.slice none 0 0]))(HQ:Hid (hHA21 Q V n g2 g12 zB zE zF zG zH zI zJ zK zL zM))(HB:Hid (BW V w))(H16:Hid (Blk w g16 9 #[.string kL])) :
  wpAnyH Tryz.prog .any ops22_2 (NoPanic Q) (fun _=>True) 10 #[true,false,false,true,false,false,false,false,false,false,true,true,true,false,false] ⟨#[iv n,zB,pT g2 0,.slice (some ⟨g12,0,none⟩) 2 2,zE,zF,zG,zH,zI,zJ,zK,zL,zM,.agg #[iv 9000,iv 10000],zO,zP,.slice (some ⟨g16,0,none⟩) 1 1,zR,zS,zT,zU,zV,zW,.slice (some ⟨g12,0,none⟩) 2 2,iv n,.slice (some ⟨g12,0,none⟩) n 2,za],[]⟩ w:=by
 refine rd2 1 6 (fun K' hK=>?_) (fun K' hK=>?_)
 ·skip;go_simp;refine(part31_any _ _ _ _ _ _ _ _ _ w).mono ?_;rintro e w1 ⟨rfl,hb⟩;have HB1:=Lq (bT HB.out hb);have H16:Hid (Blk w1 g16 9 #[.string kL]):=Lq (H16.out.keep hb);refine hK.out _ _ trivial (fun _=>?_)
  exact st22_2_0_1_3 HN HG HQ HB1 H16
 ·skip;go_simp;have hb:=bA (bR w) (.cells #[.string tk1,.string kL] 9);have hq:=Blk.new w 9 #[.string tk1,.string kL];obtain⟨w1,hw1⟩:=ex (w.alloc (.cells #[.string tk1,.string kL] 9));obtain⟨g19,hg1⟩:=ex w.heap.size;rw[hw1]at hb hq;rw[hg1]at hq;rw[hw1,hg1];have H19:Hid (Blk w1 g19 9 #[.string tk1,.string kL]):=Lq hq;have HB1:=Lq (bT HB.out hb);have H16:Hid (Blk w1 g16 9 #[.string kL]):=Lq (H16.out.keep hb);refine hK.out _ _ trivial (fun _=>?_)
  exact st22_2_0_3_6 HN HG HQ HB1 H16 H19
theorem st22_2_0_6(HN:Hid (n≤2))(HG:Hid (Blk V g2 27 #[.slice none 0 0,.slice none 0 0]))(HQ:Hid (hHA21 Q V n g2 g12 zB zE zF zG zH zI zJ zK zL zM))(HB:Hid (BW V w))(H19:Hid (Blk w g19 9 #[.string tk1,.string kL])) :
  wpAnyH Tryz.prog .any ops22_2 (NoPanic Q) (fun _=>True) 10 #[true,false,false,false,false,false,true,false,false,false,true,true,true,false,false] ⟨#[iv n,zB,pT g2 0,.slice (some ⟨g12,0,none⟩) 2 2,zE,zF,zG,zH,zI,zJ,zK,zL,zM,.agg #[iv 9000,iv 10000],zO,zP,zQ,zR,zS,.slice (some ⟨g19,0,none⟩) 2 2,zU,zV,zW,.slice (some ⟨g12,0,none⟩) 2 2,iv n,.slice (some ⟨g12,0,none⟩) n 2,za],[]⟩ w:=by
 refine rd2 1 3 (fun K' hK=>?_) (fun K' hK=>?_)
 ·skip;go_simp;refine(part31_any _ _ _ _ _ _ _ _ _ w).mono ?_;rintro e w1 ⟨rfl,hb⟩;have HB1:=Lq (bT HB.out hb);have H19:Hid (Blk w1 g19 9 #[.string tk1,.string kL]):=Lq (H19.out.keep hb);refine hK.out _ _ trivial (fun _=>?_)
  exact st22_2_0_1_6 HN HG HQ HB1 H19
 ·skip;go_simp;have hb:=bA (bR w) (.cells #[.string kL] 9);have hq:=Blk.new w 9 #[.string kL];obtain⟨w1,hw1⟩:=ex (w.alloc (.cells #[.string kL] 9));obtain⟨g16,hg1⟩:=ex w.heap.size;rw[hw1]at hb hq;rw[hg1]at hq;rw[hw1,hg1];have H16:Hid (Blk w1 g16 9 #[.string kL]):=Lq hq;have HB1:=Lq (bT HB.out hb);have H19:Hid (Blk w1 g19 9 #[.string tk1,.string kL]):=Lq (H19.out.keep hb);refine hK.out _ _ trivial (fun _=>?_)
  exact st22_2_0_3_6 HN HG HQ HB1 H16 H19
theorem st22_2_3_6(HN:Hid (n≤2))(HG:Hid (Blk V g2 27 #[.slice none 0 0,.slice none 0 0]))(HQ:Hid (hHA21 Q V n g2 g12 zB zE zF zG zH zI zJ zK zL zM))(HB:Hid (BW V w))(H16:Hid (Blk w g16 9 #[.string kL]))(H19:Hid (Blk w g19 9 #[.string tk1,.string kL])) :
  wpAnyH Tryz.prog .any ops22_2 (NoPanic Q) (fun _=>True) 10 #[false,false,false,true,false,false,true,false,false,false,true,true,true,false,false] ⟨#[iv n,zB,pT g2 0,.slice (some ⟨g12,0,none⟩) 2 2,zE,zF,zG,zH,zI,zJ,zK,zL,zM,zN,zO,zP,.slice (some ⟨g16,0,none⟩) 1 1,zR,zS,.slice (some ⟨g19,0,none⟩) 2 2,zU,zV,zW,.slice (some ⟨g12,0,none⟩) 2 2,iv n,.slice (some ⟨g12,0,none⟩) n 2,za],[]⟩ w:=by
 refine rd1 0 (fun K' hK=>?_)
 ·skip;go_simp;refine(span32_any 9000 10000 w).mono ?_;rintro e w1 ⟨rfl,hb⟩;have HB1:=Lq (bT HB.out hb);have H16:Hid (Blk w1 g16 9 #[.string kL]):=Lq (H16.out.keep hb);have H19:Hid (Blk w1 g19 9 #[.string tk1,.string kL]):=Lq (H19.out.keep hb);refine hK.out _ _ trivial (fun _=>?_)
  exact st22_2_0_3_6 HN HG HQ HB1 H16 H19
theorem st22_2_0(HN:Hid (n≤2))(HG:Hid (Blk V g2 27 #[.slice none 0 0,.slice none 0 0]))(HQ:Hid (hHA21 Q V n g2 g12 zB zE zF zG zH zI zJ zK zL zM))(HB:Hid (BW V w))  :
  wpAnyH Tryz.prog .any ops22_2 (NoPanic Q) (fun _=>True) 11 #[true,false,false,false,false,false,false,false,false,false,true,true,true,false,false] ⟨#[iv n,zB,pT g2 0,.slice (some ⟨g12,0,none⟩) 2 2,zE,zF,zG,zH,zI,zJ,zK,zL,zM,.agg #[iv 9000,iv 10000],zO,zP,zQ,zR,zS,zT,zU,zV,zW,.slice (some ⟨g12,0,none⟩) 2 2,iv n,.slice (some ⟨g12,0,none⟩) n 2,za],[]⟩ w:=by
 refine rd3 1 3 6 (fun K' hK=>?_) (fun K' hK=>?_) (fun K' hK=>?_)
 ·skip;go_simp;refine(part31_any _ _ _ _ _ _ _ _ _ w).mono ?_;rintro e w1 ⟨rfl,hb⟩;have HB1:=Lq (bT HB.out hb);refine hK.out _ _ trivial (fun _=>?_)
  exact st22_2_0_1 HN HG HQ HB1 
 ·skip;go_simp;have hb:=bA (bR w) (.cells #[.string kL] 9);have hq:=Blk.new w 9 #[.string kL];obtain⟨w1,hw1⟩:=ex (w.alloc (.cells #[.string kL] 9));obtain⟨g16,hg1⟩:=ex w.heap.size;rw[hw1]at hb hq;rw[hg1]at hq;rw[hw1,hg1];have H16:Hid (Blk w1 g16 9 #[.string kL]):=Lq hq;have HB1:=Lq (bT HB.out hb);refine hK.out _ _ trivial (fun _=>?_)
  exact st22_2_0_3 HN HG HQ HB1 H16
 ·skip;go_simp;have hb:=bA (bR w) (.cells #[.string tk1,.string kL] 9);have hq:=Blk.new w 9 #[.string tk1,.string kL];obtain⟨w1,hw1⟩:=ex (w.alloc (.cells #[.string tk1,.string kL] 9));obtain⟨g19,hg1⟩:=ex w.heap.size;rw[hw1]at hb hq;rw[hg1]at hq;rw[hw1,hg1];have H19:Hid (Blk w1 g19 9 #[.string tk1,.string kL]):=Lq hq;have HB1:=Lq (bT HB.out hb);refine hK.out _ _ trivial (fun _=>?_)
  exact st22_2_0_6 HN HG HQ HB1 H19
theorem st22_2_3(HN:Hid (n≤2))(HG:Hid (Blk V g2 27 #[.slice none 0 0,.slice none 0 0]))(HQ:Hid (hHA21 Q V n g2 g12 zB zE zF zG zH zI zJ zK zL zM))(HB:Hid (BW V w))(H16:Hid (Blk w g16 9 #[.string kL])) :
  wpAnyH Tryz.prog .any ops22_2 (NoPanic Q) (fun _=>True) 11 #[false,false,false,true,false,false,false,false,false,false,true,true,true,false,false] ⟨#[iv n,zB,pT g2 0,.slice (some ⟨g12,0,none⟩) 2 2,zE,zF,zG,zH,zI,zJ,zK,zL,zM,zN,zO,zP,.slice (some ⟨g16,0,none⟩) 1 1,zR,zS,zT,zU,zV,zW,.slice (some ⟨g12,0,none⟩) 2 2,iv n,.slice (some ⟨g12,0,none⟩) n 2,za],[]⟩ w:=by
 refine rd2 0 6 (fun K' hK=>?_) (fun K' hK=>?_)
 ·skip;go_simp;refine(span32_any 9000 10000 w).mono ?_;rintro e w1 ⟨rfl,hb⟩;have HB1:=Lq (bT HB.out hb);have H16:Hid (Blk w1 g16 9 #[.string kL]):=Lq (H16.out.keep hb);refine hK.out _ _ trivial (fun _=>?_)
  exact st22_2_0_3 HN HG HQ HB1 H16
 ·skip;go_simp;have hb:=bA (bR w) (.cells #[.string tk1,.string kL] 9);have hq:=Blk.new w 9 #[.string tk1,.string kL];obtain⟨w1,hw1⟩:=ex (w.alloc (.cells #[.string tk1,.string kL] 9));obtain⟨g19,hg1⟩:=ex w.heap.size;rw[hw1]at hb hq;rw[hg1]at hq;rw[hw1,hg1];have H19:Hid (Blk w1 g19 9 #[.string tk1,.string kL]):=Lq hq;have HB1:=Lq (bT HB.out hb);have H16:Hid (Blk w1 g16 9 #[.string kL]):=Lq (H16.out.keep hb);refine hK.out _ _ trivial (fun _=>?_)
  exact st22_2_3_6 HN HG HQ HB1 H16 H19
theorem st22_2_6(HN:Hid (n≤2))(HG:Hid (Blk V g2 27 #[.slice none 0 0,.slice none 0 0]))(HQ:Hid (hHA21 Q V n g2 g12 zB zE zF zG zH zI zJ zK zL zM))(HB:Hid (BW V w))(H19:Hid (Blk w g19 9 #[.string tk1,.string kL])) :
  wpAnyH Tryz.prog .any ops22_2 (NoPanic Q) (fun _=>True) 11 #[false,false,false,false,false,false,true,false,false,false,true,true,true,false,false] ⟨#[iv n,zB,pT g2 0,.slice (some ⟨g12,0,none⟩) 2 2,zE,zF,zG,zH,zI,zJ,zK,zL,zM,zN,zO,zP,zQ,zR,zS,.slice (some ⟨g19,0,none⟩) 2 2,zU,zV,zW,.slice (some ⟨g12,0,none⟩) 2 2,iv n,.slice (some ⟨g12,0,none⟩) n 2,za],[]⟩ w:=by
 refine rd2 0 3 (fun K' hK=>?_) (fun K' hK=>?_)
 ·skip;go_simp;refine(span32_any 9000 10000 w).mono ?_;rintro e w1 ⟨rfl,hb⟩;have HB1:=Lq (bT HB.out hb);have H19:Hid (Blk w1 g19 9 #[.string tk1,.string kL]):=Lq (H19.out.keep hb);refine hK.out _ _ trivial (fun _=>?_)
  exact st22_2_0_6 HN HG HQ HB1 H19
 ·skip;go_simp;have hb:=bA (bR w) (.cells #[.string kL] 9);have hq:=Blk.new w 9 #[.string kL];obtain⟨w1,hw1⟩:=ex (w.alloc (.cells #[.string kL] 9));obtain⟨g16,hg1⟩:=ex w.heap.size;rw[hw1]at hb hq;rw[hg1]at hq;rw[hw1,hg1];have H16:Hid (Blk w1 g16 9 #[.string kL]):=Lq hq;have HB1:=Lq (bT HB.out hb);have H19:Hid (Blk w1 g19 9 #[.string tk1,.string kL]):=Lq (H19.out.keep hb);refine hK.out _ _ trivial (fun _=>?_)
  exact st22_2_3_6 HN HG HQ HB1 H16 H19
theorem st22_2_S(HN:Hid (n≤2))(HG:Hid (Blk V g2 27 #[.slice none 0 0,.slice none 0 0]))(HQ:Hid (hHA21 Q V n g2 g12 zB zE zF zG zH zI zJ zK zL zM))(HB:Hid (BW V w))  :
  wpAnyH Tryz.prog .any ops22_2 (NoPanic Q) (fun _=>True) 12 #[false,false,false,false,false,false,false,false,false,false,true,true,true,false,false] ⟨#[iv n,zB,pT g2 0,.slice (some ⟨g12,0,none⟩) 2 2,zE,zF,zG,zH,zI,zJ,zK,zL,zM,zN,zO,zP,zQ,zR,zS,zT,zU,zV,zW,.slice (some ⟨g12,0,none⟩) 2 2,iv n,.slice (some ⟨g12,0,none⟩) n 2,za],[]⟩ w:=by
 refine rd3 0 3 6 (fun K' hK=>?_) (fun K' hK=>?_) (fun K' hK=>?_)
 ·skip;go_simp;refine(span32_any 9000 10000 w).mono ?_;rintro e w1 ⟨rfl,hb⟩;have HB1:=Lq (bT HB.out hb);refine hK.out _ _ trivial (fun _=>?_)
  exact st22_2_0 HN HG HQ HB1 
 ·skip;go_simp;have hb:=bA (bR w) (.cells #[.string kL] 9);have hq:=Blk.new w 9 #[.string kL];obtain⟨w1,hw1⟩:=ex (w.alloc (.cells #[.string kL] 9));obtain⟨g16,hg1⟩:=ex w.heap.size;rw[hw1]at hb hq;rw[hg1]at hq;rw[hw1,hg1];have H16:Hid (Blk w1 g16 9 #[.string kL]):=Lq hq;have HB1:=Lq (bT HB.out hb);refine hK.out _ _ trivial (fun _=>?_)
  exact st22_2_3 HN HG HQ HB1 H16
 ·skip;go_simp;have hb:=bA (bR w) (.cells #[.string tk1,.string kL] 9);have hq:=Blk.new w 9 #[.string tk1,.string kL];obtain⟨w1,hw1⟩:=ex (w.alloc (.cells #[.string tk1,.string kL] 9));obtain⟨g19,hg1⟩:=ex w.heap.size;rw[hw1]at hb hq;rw[hg1]at hq;rw[hw1,hg1];have H19:Hid (Blk w1 g19 9 #[.string tk1,.string kL]):=Lq hq;have HB1:=Lq (bT HB.out hb);refine hK.out _ _ trivial (fun _=>?_)
  exact st22_2_6 HN HG HQ HB1 H19
theorem reg22_2{zX zY zZ:Value}(HN:Hid (n≤2))(HG:Hid (Blk V g2 27 #[.slice none 0 0,.slice none 0 0]))(HQ:Hid (hHA21 Q V n g2 g12 zB zE zF zG zH zI zJ zK zL zM)) :
  (regionOf Tryz.f18 2).wp Tryz.prog Q ⟨#[iv n,zB,pT g2 0,.slice (some ⟨g12,0,none⟩) 2 2,zE,zF,zG,zH,zI,zJ,zK,zL,zM,zN,zO,zP,zQ,zR,zS,zT,zU,zV,zW,zX,zY,zZ,za],[]⟩ V:=by
 refine go0 (ops:=ops22_2) (r:=2) (n:=15) (S:=fun _=>True) (fun _ _=>trivial) fun V0 HB0 hHeld=>?_
 have hn:(n:Int)≤2:=by have:=HN.out;omega
 have hn2:¬(2:Int)<(n:Int):=by omega
 have hn0:¬(n:Int)<0:=by omega
 refine tk 10 (.slice (some ⟨g12,0,none⟩) 2 2) ?_;refine tk 11 (iv n) ?_;refine tk 12 (.slice (some ⟨g12,0,none⟩) n 2) ?_;exact st22_2_S HN HG HQ HB0
end
section
variable{g:Nat}{W w:World}
def sKeel:ByteArray:=⟨#[107,101,101,108]⟩
def sTank1:ByteArray:=⟨#[116,97,110,107,49]⟩
def sDeck:ByteArray:=⟨#[100,101,99,107]⟩
def sPipe1:ByteArray:=⟨#[112,105,112,101,49]⟩
def sHold1:ByteArray:=⟨#[104,111,108,100,49]⟩
def sText:ByteArray:=⟨#[112,97,114,116,32,107,101,101,108,32,98,101,97,109,32,48,32,52,48,32,57,48,48,48,32,49,48,48,48,48,10,112,97,114,116,32,116,97,110,107,49,32,116,97,110,107,32,49,48,32,49,57,32,50,48,48,48,32,50,53,48,48,32,107,101,101,108,10,112,97,114,116,32,100,101,99,107,32,112,108,97,116,101,32,53,32,50,52,32,51,48,48,48,32,51,48,48,48,32,116,97,110,107,49,32,107,101,101,108,10,49,48,48,32,97,100,100,32,112,105,112,101,49,32,112,105,112,101,32,49,50,32,51,48,32,49,48,48,32,50,48,48,32,116,97,110,107,49,10,50,48,48,32,115,119,97,112,32,116,97,110,107,49,32,104,111,108,100,49,32,112,108,97,116,101,32,49,48,32,50,57,32,56,48,48,32,57,48,48,32,107,101,101,108,10]⟩
def exParts:List HuP:=[⟨sKeel,2,0,40,[],9000,10000⟩,⟨sTank1,4,10,19,[sKeel],2000,2500⟩,⟨sDeck,1,5,24,[sTank1,sKeel],3000,3000⟩]
def exChgs:List HuC:=[⟨1,100,⟨#[]⟩,⟨sPipe1,5,12,30,[sTank1],100,200⟩⟩,⟨3,200,sTank1,⟨sHold1,1,10,29,[sKeel],800,900⟩⟩]
theorem text30_any(w:World):Cs 26 #[] w fun e w'=>e=.returned (.string sText)∧w'=w:=by
 go_enter Tryz.func26,Tryz.ntmps26
 go_wp2
 go_ret
 exact⟨rfl,rfl⟩
theorem Blk.rd1{α:Type}{enc:α→Value}{t:TypeId}{xs:List α}(h:Blk w g t (xs.map enc).toArray):Rd1 enc w w.heap.size (some ⟨g,0,none⟩) xs:=by intro i x hx;refine⟨g,0,rfl,h.lt, ?_⟩;rw[h.cell];simp[hx]
theorem Blk.rdN{α:Type}{k:Nat}{enc:α→List Value}(he:∀x,(enc x).length=k){t:TypeId}{xs:List α}(h:Blk w g t (xs.flatMap enc).toArray):RdN k enc w w.heap.size (some ⟨g,0,none⟩) xs:=by
 intro i x hx;refine⟨g,0,rfl,h.lt,fun j u hu=>?_⟩
 have:=flat_get he xs i x hx j u hu;rw[h.cell];simp[this]
structure PlanAt(w:World)(A C:Option Addr)(cap capc:Nat)(ms:List HuM)(cs:List HcM):Prop where
 sl:SlM w w.heap.size A cap ms
 ch:SlC w w.heap.size C capc cs
 wf:∀c∈cs,Lit.wf (.int .i64 c.what)=true
theorem PlanAt.below{A C:Option Addr}{cap capc:Nat}{ms:List HuM}{cs:List HcM}(h:PlanAt w A C cap capc ms cs)(hb:BW w W):PlanAt W A C cap capc ms cs:=⟨(h.sl.below hb (lr _)).more hb.size,(h.ch.below hb (lr _)).more hb.size,h.wf⟩
def PlanPost(n:Nat)(w:World)(e:Ending)(w':World):Prop:=∃(A C:Option Addr) (cap capc:Nat) (ms:List HuM) (cs:List HcM),e=.returned (.agg #[.slice A ms.length cap,.slice C cs.length capc])∧PlanAt w' A C cap capc ms cs∧psOf ms=exParts∧csOf cs=exChgs.take n∧BW w w'
theorem mok_lit{p:HuP}(h:Blk w g 9 (p.on.map Value.string).toArray)(hn:p.name.size≤maxLen)(ho:∀o∈p.on,o.size≤maxLen)(hl:p.on.length≤5):MOk w w.heap.size ⟨p,some ⟨g,0,none⟩,p.on.length⟩ :=
 ⟨Blk.rd1 h,lr _,by unfold maxLen;simp only;omega,hn,ho,by simp only;omega⟩
theorem mok_nil{p:HuP}(h:p.on=[])(hn:p.name.size≤maxLen):MOk w w.heap.size ⟨p,none,0⟩ :=
 ⟨by rw[h];intro i x hx;simp at hx,by simp[h],by unfold maxLen;simp only;omega,hn,by simp[h],by simp[h]⟩
theorem plan_at{ga gb g12 g16 g19 g21 n:Nat}(hn:n≤2)(ha:Blk W ga 9 #[.string tk1])(hb:Blk W gb 9 #[.string kL])(h12:Blk W g12 58 #[iv 1,iv 100,.string ⟨#[]⟩,.string pp1,iv 5,iv 12,iv 30,.slice (some ⟨ga,0,none⟩) 1 1,iv 100,iv 200,iv 3,iv 200,.string tk1,.string hd1,iv 1,iv 10,iv 29,.slice (some ⟨gb,0,none⟩) 1 1,iv 800,iv 900])(h16:Blk W g16 9 #[.string kL])(h19:Blk W g19 9 #[.string tk1,.string kL])(h21:Blk W g21 43 #[.string kL,iv 2,iv 0,iv 40,.slice none 0 0,iv 9000,iv 10000,.string tk1,iv 4,iv 10,iv 19,.slice (some ⟨g16,0,none⟩) 1 1,iv 2000,iv 2500,.string dK,iv 1,iv 5,iv 24,.slice (some ⟨g19,0,none⟩) 2 2,iv 3000,iv 3000]) :
  PlanAt W (some ⟨g21,0,none⟩) (some ⟨g12,0,none⟩) 3 2 [⟨⟨sKeel,2,0,40,[],9000,10000⟩,none,0⟩,⟨⟨sTank1,4,10,19,[sKeel],2000,2500⟩,some ⟨g16,0,none⟩,1⟩,⟨⟨sDeck,1,5,24,[sTank1,sKeel],3000,3000⟩,some ⟨g19,0,none⟩,2⟩]
   ([⟨1,100,⟨#[]⟩,⟨⟨sPipe1,5,12,30,[sTank1],100,200⟩,some ⟨ga,0,none⟩,1⟩⟩,⟨3,200,sTank1,⟨⟨sHold1,1,10,29,[sKeel],800,900⟩,some ⟨gb,0,none⟩,1⟩⟩].take n):=by
 have s5:∀s:ByteArray,s.size≤5→s.size≤maxLen:=fun s hs=>by unfold maxLen;omega
 have m1:MOk W W.heap.size ⟨⟨sKeel,2,0,40,[],9000,10000⟩,none,0⟩:=mok_nil rfl (s5 _ (by decide))
 have m2:MOk W W.heap.size ⟨⟨sTank1,4,10,19,[sKeel],2000,2500⟩,some ⟨g16,0,none⟩,1⟩:=mok_lit (p:=⟨sTank1,4,10,19,[sKeel],2000,2500⟩) h16 (s5 _ (by decide)) (fun o ho=>by simp only[List.mem_singleton]at ho;subst ho;exact s5 _ (by decide)) (by decide)
 have m3:MOk W W.heap.size ⟨⟨sDeck,1,5,24,[sTank1,sKeel],3000,3000⟩,some ⟨g19,0,none⟩,2⟩:=mok_lit (p:=⟨sDeck,1,5,24,[sTank1,sKeel],3000,3000⟩) h19 (s5 _ (by decide)) (fun o ho=>by simp only[List.mem_cons,List.not_mem_nil,or_false]at ho;rcases ho with rfl | rfl<;>exact s5 _ (by decide)) (by decide)
 have m4:MOk W W.heap.size ⟨⟨sPipe1,5,12,30,[sTank1],100,200⟩,some ⟨ga,0,none⟩,1⟩:=mok_lit (p:=⟨sPipe1,5,12,30,[sTank1],100,200⟩) ha (s5 _ (by decide)) (fun o ho=>by simp only[List.mem_singleton]at ho;subst ho;exact s5 _ (by decide)) (by decide)
 have m5:MOk W W.heap.size ⟨⟨sHold1,1,10,29,[sKeel],800,900⟩,some ⟨gb,0,none⟩,1⟩:=mok_lit (p:=⟨sHold1,1,10,29,[sKeel],800,900⟩) hb (s5 _ (by decide)) (fun o ho=>by simp only[List.mem_singleton]at ho;subst ho;exact s5 _ (by decide)) (by decide)
 refine⟨⟨⟨Blk.rdN encM_len h21,fun m hm=>?_⟩,lr _,by unfold maxLen;omega,fun h=>(by cases h),fun a ha=>?_⟩,⟨?_,fun c hc=>?_, ?_,by unfold maxLen;omega⟩,fun c hc=>?_⟩
 ·simp only[List.mem_cons,List.not_mem_nil,or_false]at hm;rcases hm with rfl | rfl | rfl
  ·exact m1
  ·exact m2
  ·exact m3
 ·injection ha with ha
  subst ha;exact⟨rfl,h21.lt⟩
 ·exact RdN.take (Blk.rdN encC_len h12) n
 ·have hc:=List.mem_of_mem_take hc;simp only[List.mem_cons,List.not_mem_nil,or_false]at hc;rcases hc with rfl | rfl
  ·exact⟨m4,s5 ⟨#[]⟩ (by decide)⟩
  ·exact⟨m5,s5 sTank1 (by decide)⟩
 ·simp only[List.length_take,List.length_cons,List.length_nil];omega
 ·have hc:=List.mem_of_mem_take hc;simp only[List.mem_cons,List.not_mem_nil,or_false]at hc;rcases hc with rfl | rfl
  ·exact(show Lit.wf (.int .i64 1)=true by decide)
  ·exact(show Lit.wf (.int .i64 3)=true by decide)
theorem plan22_any(n:Nat)(hn:n≤2)(w:World):Cs 18 #[iv n] w (PlanPost n w):=by
 obtain⟨W1,hW1⟩:=ex (w.alloc (.cells #[.slice none 0 0,.slice none 0 0] 27));have b1:BW w W1:=by rw[←hW1];exact bA (bR w) _
 have q1:Blk W1 w.heap.size 27 #[.slice none 0 0,.slice none 0 0]:=by rw[←hW1];exact Blk.new w 27 _
 obtain⟨g2,hg2⟩:=ex w.heap.size;rw[hg2]at q1;have HB1:=Lq b1;have HQ1:=Lq q1;have HG2:Hid (w.heap.size≤g2):=Lq (Nat.le_of_eq hg2);have HN:=Lq hn;clear b1 q1;go_enter Tryz.func18,Tryz.ntmps18
 go_wp2_with (first | (go_at_call 28;((with_reducible refine(span32_any _ _ _).mono ?_);rintro e w' ⟨rfl,hb⟩)) | (go_at_call 27;((with_reducible refine(part31_any _ _ _ _ _ _ _ _ _ _).mono ?_);rintro e w' ⟨rfl,hb⟩)))
 rename_i w2 hb2 w3 hb3 w4 hb4 _ _;obtain⟨w5,e5⟩:=ex w';rw[e5]at hb;rw[e5];have hb5:=hb;clear e5 hb;clear hW1 hg2;obtain⟨w2a,hw2a⟩:=ex (w2.alloc (.cells #[.string tk1] 9));obtain⟨ga,hga⟩:=ex w2.heap.size;have ba:=bA (bR w2) (.cells #[.string tk1] 9);have qa:=Blk.new w2 9 #[.string tk1];rw[hw2a]at hb3 ba qa;rw[hga]at qa;obtain⟨w4a,hw4a⟩:=ex (w4.alloc (.cells #[.string kL] 9));obtain⟨gb,hgb⟩:=ex w4.heap.size;have bb:=bA (bR w4) (.cells #[.string kL] 9);have qb:=Blk.new w4 9 #[.string kL];rw[hw4a]at hb5 bb qb;rw[hgb]at qb;rw[hga,hgb];obtain⟨w6,hw6⟩:=ex (w5.alloc (.cells #[iv 1,iv 100,.string ⟨#[]⟩,.string pp1,iv 5,iv 12,iv 30,.slice (some ⟨ga,0,none⟩) 1 1,iv 100,iv 200,iv 3,iv 200,.string tk1,.string hd1,iv 1,iv 10,iv 29,.slice (some ⟨gb,0,none⟩) 1 1,iv 800,iv 900] 58));obtain⟨g12,hg12⟩:=ex w5.heap.size;have b6:=bA (bR w5) (.cells #[iv 1,iv 100,.string ⟨#[]⟩,.string pp1,iv 5,iv 12,iv 30,.slice (some ⟨ga,0,none⟩) 1 1,iv 100,iv 200,iv 3,iv 200,.string tk1,.string hd1,iv 1,iv 10,iv 29,.slice (some ⟨gb,0,none⟩) 1 1,iv 800,iv 900] 58);have q12:=Blk.new w5 58 #[iv 1,iv 100,.string ⟨#[]⟩,.string pp1,iv 5,iv 12,iv 30,.slice (some ⟨ga,0,none⟩) 1 1,iv 100,iv 200,iv 3,iv 200,.string tk1,.string hd1,iv 1,iv 10,iv 29,.slice (some ⟨gb,0,none⟩) 1 1,iv 800,iv 900];rw[hw6]at b6 q12;rw[hg12]at q12;rw[hw6,hg12];have b3a:=bT hb3 hb4;have b35:=bT b3a (bT bb (bT hb5 b6));have HA:=Lq (qa.keep b35);have HB:=Lq (qb.keep (bT hb5 b6));have H12:=Lq q12;have b16:=bT hb2 (bT ba b35);have HG:=Lq (HQ1.out.keep b16);have HB6:=Lq (bT HB1.out b16);clear hb2 hb3 hb4 hb5 hw2a hw4a hw6 hga hgb hg12 ba qa bb qb b6 q12 b3a b35 b16;go_upto_region 2 with fail
 refine reg22_2 HN HG (Lq ?_);intro u13 u14 u15 u16 u17 u18 u19 u20 u21 u22 u23 u24 u25 u26 g16 g19 g21 W' hb h16 h19 h21;obtain⟨W9,hW9⟩:=ex ((W'.setCell ⟨g2,0,none⟩ (.slice (some ⟨g21,0,none⟩) 3 3)).setCell ⟨g2,1,none⟩ (.slice (some ⟨g12,0,none⟩) n 2));have o9:OnlyAt W' W9 g2:=by rw[←hW9];exact((OnlyAt.of_below (bR W') g2).set 0 _).set 1 _
 have q9:Blk W9 g2 27 #[.slice (some ⟨g21,0,none⟩) 3 3,.slice (some ⟨g12,0,none⟩) n 2]:=by
  rw[←hW9];have h:=((HG.out.keep hb).set_ 0 (.slice (some ⟨g21,0,none⟩) 3 3)).set_ 1 (.slice (some ⟨g12,0,none⟩) n 2)
  simpa using h
 have kp:∀g t cs,Blk W' g t cs→t≠27→Blk W9 g t cs:=fun g t cs h ht=>h.same (o9.block g h.lt (fun e=>by
  subst e;have h2:=HG.out.keep hb;unfold Blk at h h2;rw[h]at h2;injection h2 with h2
  injection h2 with _ h2
  exact ht h2))
 have hp:=plan_at HN.out (kp _ _ _ (HA.out.keep hb) (by decide)) (kp _ _ _ (HB.out.keep hb) (by decide)) (kp _ _ _ (H12.out.keep hb) (by decide)) (kp _ _ _ h16 (by decide)) (kp _ _ _ h19 (by decide)) (kp _ _ _ h21 (by decide))
 have HP:=Lq hp;have HB9:=Lq (o9.below (bT HB6.out hb) HG2.out);have d0:=q9.c 0;have d1:=q9.c 1;clear o9 q9 kp hp hb h16 h19 h21 hn;rw[hW9];clear hW9;go_wp2_with fail;refine bodyPost_ret (v:=.agg #[.slice (some ⟨g21,0,none⟩) 3 3,.slice (some ⟨g12,0,none⟩) n 2]) (by simp[results,Tryz.results18,go_sem,d0,d1]) rfl ⟨_,_,_,_,_,_, ?_,HP.out,rfl, ?_,HB9.out⟩
 ·have hl:∀a b:HcM,([a,b].take n).length=n:=fun a b=>by have:=HN.out;simp only[List.length_take,List.length_cons,List.length_nil];omega
  rw[hl];rfl
 ·simp only[csOf,List.map_take];rfl
end
def partB(x:HuP)(before others:List HuP):Bool:=nameB x.name&&others.all (fun p=>!eqS p.name x.name)&&decide (1≤x.kind∧x.kind≤5)&&decide (0≤x.first∧x.first≤x.last∧x.last≤40)&&decide (1≤x.wlo∧x.wlo≤x.whi∧x.whi≤1000000)&&x.on.all (fun o=>match before.find? (nmB o)with
 | some y=>meetB x y
 | none=>false)&&decide ((x.on.map fun o=>o.data.toList).Nodup)
theorem toList_data2(o:ByteArray):o.toList=o.data.toList:=Lib.toList_data o
theorem partB_ok{x:HuP}{b o:List HuP}(h:partB x b o=true):PartOk x b o:=by
 unfold partB at h;simp only[Bool.and_eq_true,decide_eq_true_eq]at h;obtain⟨⟨⟨⟨⟨⟨h1,h2⟩,h3⟩,h4⟩,h5⟩,h6⟩,h7⟩:=h;refine⟨h1,fun p hp e=>?_,h3,h4,h5,fun s hs=>?_, ?_⟩
 ·have:=List.all_eq_true.1 h2 p hp;rw[eqS_iff.2 e]at this;cases this
 ·have:=List.all_eq_true.1 h6 s hs;cases hf:b.find? (nmB s)with
  | none=>rw[hf]at this;cases this
  | some y=>rw[hf]at this;exact⟨y,rfl,this⟩
 ·have e:x.on.map ByteArray.toList=x.on.map fun o=>o.data.toList:=List.map_congr_left fun o _=>toList_data2 o
  rw[e];exact h7
def shipB(l:List HuP):Bool:=decide (l.length≤12)&&(List.range l.length).all fun i=>match l[i]? with
 | some p=>partB p (l.take i) (l.take i)
 | none=>true
theorem shipB_ok{l:List HuP}(h:shipB l=true):ShipOk l:=by
 unfold shipB at h;simp only[Bool.and_eq_true,decide_eq_true_eq]at h;refine⟨h.1,fun i p hi=>?_⟩
 have:=List.all_eq_true.1 h.2 i (List.mem_range.2 (lG hi));rw[hi]at this;exact partB_ok this
def exShip1:List HuP:=exParts++[⟨sPipe1,5,12,30,[sTank1],100,200⟩]
def exShip:List HuP:=[⟨sKeel,2,0,40,[],9000,10000⟩,⟨sHold1,1,10,29,[sKeel],800,900⟩,⟨sDeck,1,5,24,[sHold1,sKeel],3000,3000⟩,⟨sPipe1,5,12,30,[sHold1],100,200⟩]
theorem ex_chg1:chgP exParts ⟨1,100,⟨#[]⟩,⟨sPipe1,5,12,30,[sTank1],100,200⟩⟩=some exShip1 :=
 chgP_add_ok rfl (by kernel_rfl) (by decide) (partB_ok (by kernel_rfl))
theorem ex_chg2:chgP exShip1 ⟨3,200,sTank1,⟨sHold1,1,10,29,[sKeel],800,900⟩⟩=some exShip:=by
 have h:=chgP_swap_ok (l:=exShip1) (c:=⟨3,200,sTank1,⟨sHold1,1,10,29,[sKeel],800,900⟩⟩) rfl (by kernel_rfl) (partB_ok (by kernel_rfl)) (fun q hq hs=>by
  have hm:((exShip1.drop (idxP exShip1 sTank1+1)).all fun q=>!standsB q sTank1||meetB q ⟨sHold1,1,10,29,[sKeel],800,900⟩)=true:=by kernel_rfl
  have:=List.all_eq_true.1 hm q hq;rw[hs]at this
  simpa using this)
 rw[h];exact congrArg some (by kernel_rfl)
theorem stepC_some{day:Int}{l now l':List HuP}{last:Int}{c:HuC}(hd:inB last 40000 c.day=true)(hc:chgP l c=some l'):stepC day (some (l,last,now)) c=some (l',c.day,if c.day≤day then l' else now):=by unfold stepC;simp only;rw[if_pos hd,hc];rfl
theorem ex_run(day:Int):runC day exParts exChgs=some (exShip,200,if(200:Int)≤day then exShip else if(100:Int)≤day then exShip1 else exParts):=by
 unfold runC exChgs;rw[List.foldl_cons,stepC_some (by kernel_rfl) ex_chg1,List.foldl_cons,stepC_some (by kernel_rfl) ex_chg2]
 rfl
theorem ex_ok2:PlanOk exParts exChgs:=⟨shipB_ok (by kernel_rfl),by decide,by rw[ex_run];rfl⟩
theorem ex_ok0:PlanOk exParts []:=⟨shipB_ok (by kernel_rfl),by decide,rfl⟩
theorem ex_on2:shipOn 200 exParts exChgs=exShip:=by unfold shipOn;rw[ex_run];rfl
theorem ex_on0(day:Int):shipOn day exParts []=exParts:=rfl
theorem ex_take0:exChgs.take 0=[]:=rfl
theorem ex_lo:loWs 10 19 exParts=5695:=by kernel_rfl
theorem ex_hi:hiWs 10 19 exParts=6440:=by kernel_rfl
theorem ex_above:aboveL exShip sKeel exShip.length=[sHold1,sDeck,sPipe1]:=by kernel_rfl
theorem ex_has:hasP exShip sKeel=true:=by kernel_rfl
theorem ex_hasno:hasP exShip sTank1=false:=by kernel_rfl
section
variable{nm:ByteArray}
theorem equal71_any(A1 A2:Option Addr)(l1 l2:List ByteArray)(B c1 c2:Nat)(w:World)(h1:l1.length≤maxLen)(h2:l2.length≤maxLen)(H1:Rd1 .string w B A1 l1)(H2:Rd1 .string w B A2 l2) :
  Cs 69 #[.slice A1 l1.length c1,.slice A2 l2.length c2] w (Rt w (.bool (decide (l1=l2)))):=by
 unfold maxLen at h1 h2;by_cases hl:l1.length=l2.length
 ·cases l1 with
  | nil =>
   have:l2=[]:=List.length_eq_zero_iff.1 hl.symm;subst this;refine(Go.Proofs.Tryz.slices_Equal_string_empty A1 A2 c1 0 c2 w (by omega)).mono ?_
   rintro e w' ⟨rfl,rfl⟩;exact⟨by simp,bR _⟩
  | cons x l1 =>
   cases l2 with
   | nil=>simp at hl
   | cons y l2 =>
    obtain⟨b1,o1,rfl,_,_⟩:=H1 0 x rfl;obtain⟨b2,o2,rfl,_,_⟩:=H2 0 y rfl;have hc:∀(b o:Nat) (l:List ByteArray),Rd1 .string w B (some ⟨b,o,none⟩) l→∀j,j<l.length→w.cell? ⟨b,o+j,none⟩=some (.string (l.getD j ByteArray.empty)):=by
     intro b o l hr j hj;obtain⟨b',o',e,_,hc⟩:=hr j _ (gE hj);injection e with e
     injection e with e1 e2
     subst e1 e2;rw[hc,List.getD_eq_getElem?_getD,gE hj];rfl
    refine(Go.Proofs.Tryz.slices_Equal_string b1 o1 (x::l1).length c1 b2 o2 (y::l2).length c2 (x::l1) (y::l2) w (lr _) (lr _) (by omega) (by omega) (hc b1 o1 _ H1) (hc b2 o2 _ H2)).mono ?_
    rintro e w' ⟨rfl,q,rfl⟩;exact⟨by rw[List.take_length,List.take_length],belowN (bR _) _⟩
 ·refine(Go.Proofs.Tryz.slices_Equal_string_lens A1 A2 l1.length c1 l2.length c2 w hl).mono ?_;rintro e w' ⟨rfl,rfl⟩;have:¬l1=l2:=fun e=>hl (by rw[e])
  exact⟨by simp[this],bR _⟩
theorem tidyN_len(l:List ByteArray):(tidyN l).length≤l.length:=by unfold tidyN;rw[List.length_map];refine lT (compactS_len _) ?_;rw[List.length_mergeSort,List.length_map];exact lr _
def plainEq(x y:HuP):Bool:=x.name.toList==y.name.toList&&x.kind==y.kind&&x.first==y.first&&x.last==y.last&&x.wlo==y.wlo&&x.whi==y.whi
def sameIn(a b:List HuP)(nm:ByteArray):Bool:=hasP a nm&&hasP b nm&&(match a[idxP a nm]?,b[idxP b nm]? with
 | some x,some y=>plainEq x y&&decide (x.on=y.on)
 | _,_=>false)
def diffL(a b:List HuP)(l:List ByteArray):List ByteArray:=l.filter fun nm=>!sameIn a b nm
theorem diffL_snoc{a b:List HuP}{l:List ByteArray}{k:Nat}(h:l[k]?=some nm):diffL a b (l.take (k+1))=diffL a b (l.take k)++(if sameIn a b nm then[]else[nm]):=by unfold diffL;rw[List.take_add_one,h];cases hs:sameIn a b nm<;>simp[hs]
theorem sameIn_no{a b:List HuP}(h:(hasP a nm&&hasP b nm)=false):sameIn a b nm=false:=by unfold sameIn;rw[h];rfl
theorem sameIn_yes{a b:List HuP}{x y:HuP}(h1:hasP a nm=true)(h2:hasP b nm=true)(hx:a[idxP a nm]?=some x)(hy:b[idxP b nm]?=some y):sameIn a b nm=(plainEq x y&&decide (x.on=y.on)):=by unfold sameIn;rw[h1,h2,hx,hy];rfl
def allP(a b:List HuP):List ByteArray:=tidyN (a.map HuP.name++b.map HuP.name)
def DifferPost(a b:List HuP)(w:World)(e:Ending)(w':World):Prop:=∃v,e=.returned (.tuple #[v,iv 0])∧BW w w'∧w'.ownsRow w.heap.size 9 1 v (diffL a b (allP a b)).length ((diffL a b (allP a b)).map .string)
theorem openNo{ms:List HuM}{cs:List HcM}{day:Int}{w w':World}{e:Ending}(hP:PlanOk (psOf ms) (csOf cs))(hd:inB 0 40000 day=true)(h:OpenPost ms cs day w e w'):∃(out:List HuM) (A:Option Addr) (c:Nat),e=.returned (.tuple #[.agg #[.slice A out.length c],iv 0])∧BW w w'∧psOf out=shipOn day (psOf ms) (csOf cs)∧SlM w' w'.heap.size A c out:=by obtain⟨r,A,n,c,rfl,hb,h1,h2⟩:=h;obtain rfl:=h1.2 ⟨hP,hd⟩;obtain⟨out,rfl,h3,h4⟩:=h2 rfl;exact⟨out,A,c,rfl,hb,h3,h4⟩
theorem differ23_any(A C A' C':Option Addr)(ms ms':List HuM)(cs cs':List HcM)(cap capc cap' capc':Nat)(day:Int)(w:World)(H:PlanAt w A C cap capc ms cs)(H':PlanAt w A' C' cap' capc' ms' cs')(hP:PlanOk (psOf ms) (csOf cs))(hP':PlanOk (psOf ms') (csOf cs'))(hd:inB 0 40000 day=true)(h0:0<(shipOn day (psOf ms) (csOf cs)).length) :
  Cs 19 #[.agg #[.slice A ms.length cap,.slice C cs.length capc],.agg #[.slice A' ms'.length cap',.slice C' cs'.length capc'],iv day] w (DifferPost (shipOn day (psOf ms) (csOf cs)) (shipOn day (psOf ms') (csOf cs')) w):=by
 obtain⟨W1,hW1⟩:=ex (w.alloc (.cells #[.slice A ms.length cap,.slice C cs.length capc] 27));obtain⟨W2,hW2⟩:=ex (W1.alloc (.cells #[.slice A' ms'.length cap',.slice C' cs'.length capc'] 27));obtain⟨g3,hg3⟩:=ex w.heap.size;obtain⟨g4,hg4⟩:=ex W1.heap.size;have b1:BW w W1:=by rw[←hW1];exact bA (bR w) _
 have b2:BW W1 W2:=by rw[←hW2];exact bA (bR _) _
 have q1:Blk W1 g3 27 #[.slice A ms.length cap,.slice C cs.length capc]:=by rw[←hW1,←hg3];exact Blk.new w 27 _
 have q2:Blk W2 g4 27 #[.slice A' ms'.length cap',.slice C' cs'.length capc']:=by rw[←hW2,←hg4];exact Blk.new W1 27 _
 have b3:=bT b1 b2;have HPA:Hid (∀W,BW W2 W→PlanAt W A C cap capc ms cs):=Lq fun W hb=>H.below (bT b3 hb)
 have HPB:Hid (∀W,BW W2 W→PlanAt W A' C' cap' capc' ms' cs'):=Lq fun W hb=>H'.below (bT b3 hb)
 have HCK:Hid (Cs 66 #[.agg #[.slice A ms.length cap,.slice C cs.length capc]] W2 (Chk3 (PlanOk (psOf ms) (csOf cs)) W2)):=Lq (let h:=HPA.out W2 (bR _);check68_any A C ms cs W2.heap.size cap capc W2 (lr _) h.sl h.ch h.wf);have HOA:Hid (∀W,BW W2 W→Cs 44 #[.agg #[.slice A ms.length cap,.slice C cs.length capc],iv day] W (OpenPost ms cs day W)):=Lq fun W hb=>let h:=HPA.out W hb;open47_any A C ms cs W.heap.size cap capc day W (lr _) h.sl h.ch h.wf
 have HOB:Hid (∀W,BW W2 W→Cs 44 #[.agg #[.slice A' ms'.length cap',.slice C' cs'.length capc'],iv day] W (OpenPost ms' cs' day W)):=Lq fun W hb=>let h:=HPB.out W hb;open47_any A' C' ms' cs' W.heap.size cap' capc' day W (lr _) h.sl h.ch h.wf
 have HX:Hid (∀W,BW W2 W→W.cell? ⟨g3,0,none⟩=some (.slice A ms.length cap)∧W.cell? ⟨g3,1,none⟩=some (.slice C cs.length capc)∧W.cell? ⟨g4,0,none⟩=some (.slice A' ms'.length cap')∧W.cell? ⟨g4,1,none⟩=some (.slice C' cs'.length capc')):=Lq fun W hb=>have k:=q1.keep (bT b2 hb);have k2:=q2.keep hb;⟨k.c 0,k.c 1,k2.c 0,k2.c 1⟩
 obtain⟨la,hla⟩:=ex (shipOn day (psOf ms) (csOf cs));obtain⟨lb,hlb⟩:=ex (shipOn day (psOf ms') (csOf cs'));have hoka:ShipOk la:=hla▸shipOn_ok hP day;have hokb:ShipOk lb:=hlb▸shipOn_ok hP' day;have HOKA:=Lq hoka;have HOKB:=Lq hokb;rw[hla]at h0 ⊢;rw[hlb];have HLA:=Lq hla;have HLB:=Lq hlb;have H0:=Lq h0;have HPP:=Lq hP;have HPP':=Lq hP';have HD:=Lq hd;have HB3:=Lq b3;obtain⟨i9,hi9,hz90,hz91,hz92⟩:=info_parts Tryz.info9;obtain⟨x0,x1,x2,x3⟩:=HX.out _ (bR W2);clear H H' b1 b2 b3 q1 q2 hla hlb h0 hP hP' hd hoka hokb;go_enter Tryz.func19,Tryz.ntmps19
 go_wp2_with fail
 go_step3
 go_wp2_with fail;refine HCK.out.mono ?_;rintro e w3 ⟨rp,ri,r,rfl,hiff,hb⟩;obtain rfl:=hiff.2 HPP.out;have HB23:=Lq hb;clear hb hiff x0 x1 x2 x3 hW1 hW2 hg3 hg4;obtain⟨x0,x1,x2,x3⟩:=HX.out _ HB23.out;go_wp2_with fail;refine(HOB.out _ HB23.out).mono ?_;intro e w4 hop;obtain⟨outb,Ab,cb,rfl,hb,hpb,hslb⟩:=openNo HPP'.out HD.out hop;obtain⟨Wa,W5,hWa,hW5,hb5,hqa,hba,hq5⟩:=oneMade w4 102 (.slice none 0 0) (.slice Ab outb.length cb);obtain⟨g8,hg8⟩:=ex w4.heap.size;rw[hg8]at hW5 hqa hq5;have HB25:=Lq (bT HB23.out (bT hb hb5));have HQ8:=Lq hq5;have HSB:=Lq ((hslb.below hb5 (lr _)).more hb5.size);have HPSB:Hid (psOf outb=lb):=Lq (hpb.trans HLB.out);have af:=hqa.frozen 0;have ac:=hqa.c 0;have al:=hqa.lt;clear hop hb hpb hslb hb5 hqa hba hq5 x0 x1 x2 x3;obtain⟨x0,x1,x2,x3⟩:=HX.out _ HB25.out;go_wp2_with fail;clear af ac al hWa hW5 hg8;refine(HOA.out _ HB25.out).mono ?_;intro e w6 hop;obtain⟨outa,Aa,ca,rfl,hb,hpa,hsla⟩:=openNo HPP.out HD.out hop;obtain⟨Wb,W7,hWb,hW7,hb7,hqb,hbb,hq7⟩:=oneMade w6 102 (.slice none 0 0) (.slice Aa outa.length ca);obtain⟨g9,hg9⟩:=ex w6.heap.size;rw[hg9]at hW7 hqb hq7;have hb57:=bT hb hb7;have HB27:=Lq (bT HB25.out hb57);have HQ9:=Lq hq7;have HQ8':=Lq (HQ8.out.keep hb57);have HSA:=Lq ((hsla.below hb7 (lr _)).more hb7.size);have HSB':=Lq ((HSB.out.below hb57 (lr _)).more hb57.size);have HPSA:Hid (psOf outa=la):=Lq (hpa.trans HLA.out);have af:=hqb.frozen 0;have ac:=hqb.c 0;have al:=hqb.lt;have a8:=HQ8'.out.c 0;have a9:=hq7.c 0;clear hop hb hpa hsla hb7 hqb hbb hq7 hb57 x0 x1 x2 x3;have h12a:outa.length≤12:=by have h:=HOKA.out.len;rw[←HPSA.out]at h;simpa using h
 have h12b:outb.length≤12:=by have h:=HOKB.out.len;rw[←HPSB.out]at h;simpa using h
 go_wp2_with fail
 go_step3
 go_wp2_with fail;clear af ac al a8 a9 hWb hW7 hg9;obtain⟨W8,hW8⟩:=ex (W7.alloc (.cells #[.slice Aa outa.length ca,.slice Ab outb.length cb] 102));have hb8:BW W7 W8:=by rw[←hW8];exact bA (bR W7) _
 have hq8:Blk W8 W7.heap.size 102 #[.slice Aa outa.length ca,.slice Ab outb.length cb]:=by rw[←hW8];exact Blk.new W7 102 _
 obtain⟨gr,hgr⟩:=ex W7.heap.size;rw[hgr]at hq8;rw[hW8,hgr];have HNM:Hid (Cs 67 #[.slice (some ⟨gr,0,none⟩) 2 2] W8 fun e w'=>∃g c,e=.returned (.slice (some ⟨g,0,none⟩) (allP la lb).length c)∧Rd1 .string w' w'.heap.size (some ⟨g,0,none⟩) (allP la lb)∧(allP la lb).length≤c∧c≤maxLen∧BW W8 w'):=by
  have hall:allNms [⟨outa,Aa,ca⟩,⟨outb,Ab,cb⟩]=la.map HuP.name++lb.map HuP.name:=by unfold allNms nmsOf;simp only[List.flatMap_cons,List.flatMap_nil,List.append_nil,HPSA.out,HPSB.out]
  have h:=names69_any (some ⟨gr,0,none⟩) [⟨outa,Aa,ca⟩,⟨outb,Ab,cb⟩] W8.heap.size 2 W8 (lr _) (by unfold maxLen;simp) ⟨fun i x hx=>by
    match i,hx with
    | 0,hx=>simp at hx;subst hx;exact⟨gr,0,rfl,hq8.lt,hq8.c 0⟩
    | 1,hx=>simp at hx;subst hx;exact⟨gr,0,rfl,hq8.lt,hq8.c 1⟩
    | n+2,hx=>simp at hx,fun s hs=>by
    simp only[List.mem_cons,List.not_mem_nil,or_false]at hs;rcases hs with rfl | rfl
    ·exact(HSA.out.below hb8 (lr _)).more hb8.size
    ·exact(HSB'.out.below hb8 (lr _)).more hb8.size⟩ (by rw[hall,List.length_append,List.length_map];have:=H0.out;omega) (by rw[hall,List.length_append,List.length_map,List.length_map,←HPSA.out,←HPSB.out];simp only[psOf,List.length_map];omega)
  rw[hall]at h;exact Lq h
 have HB8:=Lq (bT HB27.out hb8);have HB78:=Lq hb8;clear hb8 hq8 hW8 hgr;refine HNM.out.mono ?_;rintro e w9 ⟨gn,cn,rfl,hrd,hln,hcn,hb⟩;obtain⟨NL,hNL⟩:=ex (allP la lb);have HNL:=Lq hNL;have hNL2:=hNL;simp only[hNL]at hrd hln ⊢;have HRD:=Lq hrd;have HRDW:Hid (∀W,BW w9 W→Rd1 .string W W.heap.size (some ⟨gn,0,none⟩) NL):=Lq fun W hb=>(hrd.below hb (lr _)).more hb.size
 have HB79:=Lq (bT HB78.out hb);have hnl9:NL.length≤9223372036854775807:=by simp only[maxLen]at hcn;omega
 have hnl16:NL.length≤24:=by rw[←hNL2];refine lT (tidyN_len _) ?_;rw[List.length_append,List.length_map,List.length_map,←HPSA.out,←HPSB.out];simp only[psOf,List.length_map];omega
 have HBW9:=Lq (bT HB3.out (bT HB27.out HB79.out));clear hrd hb hNL hNL2 HNM hln hcn;go_wp2_with fail;go_loopw [6,46] (fun v i wr=>∃j:Nat,j≤NL.length∧i=iv j∧Hid (wr.ownsRow w9.heap.size 9 1 v (diffL la lb (NL.take j)).length ((diffL la lb (NL.take j)).map .string))∧Hid (BW w9 wr)) (fun _ i _=>NL.length-(intOf i).toNat)
 case atStart=>exact⟨0,Nat.zero_le _,rfl,Lq (by simp only[List.take_zero,diffL,List.filter_nil,List.length_nil,List.map_nil];exact World.ownsRow_nil _ _ _ _),Lq (bR _)⟩
 case round =>
  obtain⟨j,hj,rfl,HRW,HBR⟩:=hrel;have hj0:(0:Int)≤(j:Int):=by omega
  by_cases hlt:j<NL.length
  ·obtain⟨nm,hnm⟩:=gX (l:=NL) (i:=j) hlt;obtain⟨b,off,hA,_,c0⟩:=(HRDW.out wr HBR.out) j nm hnm;injection hA with hA
   injection hA with e1 e2
   subst e1 e2;rw[Nat.zero_add]at c0;have HDS:=Lq (diffL_snoc (a:=la) (b:=lb) hnm);have HLN:Hid ((diffL la lb (NL.take j)).length≤j):=Lq (by unfold diffL;exact lT (List.length_filter_le _ _) (by rw[List.length_take];omega))
   obtain⟨ra,hra⟩:=ex (posP la nm);obtain⟨rb,hrb⟩:=ex (posP lb nm);have HFA:Hid (∀W,BW W7 W→Cs 50 #[.pointer (some ⟨g9,0,none⟩),.string nm] W (Rt W (iv ra))):=Lq fun W hb=>by have h2:=(HSA.out.below hb (lr _)).more hb.size;have h3:=find49_any Aa outa W.heap.size ca g9 nm W (lr _) (lT h2.le h2.max) h2.rd ((HQ9.out.keep hb).c 0);rw[HPSA.out,hra]at h3;exact h3
   have HFB:Hid (∀W,BW W7 W→Cs 50 #[.pointer (some ⟨g8,0,none⟩),.string nm] W (Rt W (iv rb))):=Lq fun W hb=>by have h2:=(HSB'.out.below hb (lr _)).more hb.size;have h3:=find49_any Ab outb W.heap.size cb g8 nm W (lr _) (lT h2.le h2.max) h2.rd ((HQ8'.out.keep hb).c 0);rw[HPSB.out,hrb]at h3;exact h3
   have KRA:=Lq hra;have KRB:=Lq hrb;have HB7R:=Lq (bT HB79.out HBR.out);clear hnm hra hrb;go_wp2_with fail;refine(HFA.out _ HB7R.out).mono ?_;rintro e w10 ⟨rfl,hb⟩;have HB10:=Lq hb;have HB710:=Lq (bT HB7R.out hb);clear hb c0;go_wp2_with fail;refine(HFB.out _ HB710.out).mono ?_;rintro e w11 ⟨rfl,hb⟩;have HB11:=Lq (bT HB10.out hb);have HB711:=Lq (bT HB710.out hb);have HB911:=Lq (bT HBR.out HB11.out);clear hb;have HRW11:=Lq (own_below HRW.out HB11.out);by_cases ha:hasP la nm=true
   ·by_cases hb:hasP lb nm=true
    ·obtain⟨pa1,pa2,x,hx,_⟩:=posP_at ha;obtain⟨pb1,pb2,y,hy,_⟩:=posP_at hb;rw[KRA.out]at pa1;rw[KRB.out]at pb1;have HSN:=Lq (sameIn_yes ha hb hx hy);obtain⟨ia,hia⟩:=ex (idxP la nm);obtain⟨ib,hib⟩:=ex (idxP lb nm);rw[hia]at pa1 pa2 hx;rw[hib]at pb1 pb2 hy;subst pa1 pb1;obtain⟨xm,hxm,hxp⟩:∃xm,outa[ia]?=some xm∧xm.p=x:=by
      rw[←HPSA.out,List.getElem?_map]at hx;cases hc:outa[ia]? with
      | none=>rw[hc]at hx;cases hx
      | some xm=>rw[hc]at hx;injection hx with hx;exact⟨xm,rfl,hx⟩
     obtain⟨ym,hym,hyp⟩:∃ym,outb[ib]?=some ym∧ym.p=y:=by
      rw[←HPSB.out,List.getElem?_map]at hy;cases hc:outb[ib]? with
      | none=>rw[hc]at hy;cases hy
      | some ym=>rw[hc]at hy;injection hy with hy;exact⟨ym,rfl,hy⟩
     subst hxp hyp;have hsa:∀W,BW w11 W→SlM W W.heap.size Aa ca outa:=fun W hb=>let h:=bT HB711.out hb;(HSA.out.below h (lr _)).more h.size
     have hsb:∀W,BW w11 W→SlM W W.heap.size Ab cb outb:=fun W hb=>let h:=bT HB711.out hb;(HSB'.out.below h (lr _)).more h.size
     have HMA:Hid (∀W,BW w11 W→MOk W W.heap.size xm):=Lq fun W hb=>(hsa W hb).rd.ok xm (mG ⟨ia,hxm⟩)
     have HMB:Hid (∀W,BW w11 W→MOk W W.heap.size ym):=Lq fun W hb=>(hsb W hb).rd.ok ym (mG ⟨ib,hym⟩)
     obtain⟨ba,oa,hAa,_,_,c0,c1,c2,c3,c4,c5,c6⟩:=(hsa w11 (bR _)).rd.at hxm;obtain⟨bb,ob,hAb,_,_,e0,e1,e2,e3,e4,e5,e6⟩:=(hsb w11 (bR _)).rd.at hym;obtain⟨⟨xn,xk,xf,xl,xon,xw,xz⟩,xA,xc⟩:=xm;obtain⟨⟨yn,yk,yf,yl,yon,yw,yz⟩,yA,yc⟩:=ym;have h9:=(HQ9.out.keep HB711.out).c 0;have h8:=(HQ8'.out.keep HB711.out).c 0;rw[hAa]at h9;rw[hAb]at h8;simp only at c0 c1 c2 c3 c4 c5 c6 e0 e1 e2 e3 e4 e5 e6 HMA HMB HSN;have hia2:ia<outa.length:=(lG hxm);have hib2:ib<outb.length:=(lG hym);have HIL:Hid (ia<outa.length∧ib<outb.length):=Lq ⟨hia2,hib2⟩;have HCL:Hid (∀W,BW w11 W→W.cell? ⟨g9,0,none⟩=some (.slice (some ⟨ba,oa,none⟩) outa.length ca)∧W.cell? ⟨g8,0,none⟩=some (.slice (some ⟨bb,ob,none⟩) outb.length cb)∧W.cell? ⟨ba,oa+ia*7,none⟩=some (.string xn)∧W.cell? ⟨ba,oa+ia*7+1,none⟩=some (iv xk)∧W.cell? ⟨ba,oa+ia*7+2,none⟩=some (iv xf)∧W.cell? ⟨ba,oa+ia*7+3,none⟩=some (iv xl)∧W.cell? ⟨ba,oa+ia*7+4,none⟩=some (.slice xA xon.length xc)∧W.cell? ⟨ba,oa+ia*7+5,none⟩=some (iv xw)∧W.cell? ⟨ba,oa+ia*7+6,none⟩=some (iv xz)∧W.cell? ⟨bb,ob+ib*7,none⟩=some (.string yn)∧W.cell? ⟨bb,ob+ib*7+1,none⟩=some (iv yk)∧W.cell? ⟨bb,ob+ib*7+2,none⟩=some (iv yf)∧W.cell? ⟨bb,ob+ib*7+3,none⟩=some (iv yl)∧W.cell? ⟨bb,ob+ib*7+4,none⟩=some (.slice yA yon.length yc)∧W.cell? ⟨bb,ob+ib*7+5,none⟩=some (iv yw)∧W.cell? ⟨bb,ob+ib*7+6,none⟩=some (iv yz)):=Lq fun W hb=>⟨kC hb h9,kC hb h8,kC hb c0,kC hb c1,kC hb c2,kC hb c3,kC hb c4,kC hb c5,kC hb c6,kC hb e0,kC hb e1,kC hb e2,kC hb e3,kC hb e4,kC hb e5,kC hb e6⟩
     obtain⟨bq,hbq⟩:=ex (plainEq (HuP.mk xn xk xf xl xon xw xz) (HuP.mk yn yk yf yl yon yw yz));obtain⟨be,hbe⟩:=ex (decide (xon=yon));have HEQ:Hid (∀W,BW w11 W→Cs 69 #[.slice xA xon.length xc,.slice yA yon.length yc] W (Rt W (.bool be))):=Lq fun W hb=>hbe▸equal71_any xA yA xon yon W.heap.size xc yc W (lT (HMA.out W hb).le (HMA.out W hb).cm) (lT (HMB.out W hb).le (HMB.out W hb).cm) (HMA.out W hb).on (HMB.out W hb).on
     have HBQ:Hid ((xn.toList==yn.toList&&xk==yk&&xf==yf&&xl==yl&&xw==yw&&xz==yz)=bq):=Lq hbq;have HSN2:Hid (sameIn la lb nm=(bq&&be)):=Lq (by rw[HSN.out,hbq,hbe])
     have hia0:(0:Int)≤(ia:Int):=by omega
     have hib0:(0:Int)≤(ib:Int):=by omega
     clear ha hb hx hy hia hib pa2 pb2 hxm hym hsa hsb c0 c1 c2 c3 c4 c5 c6 e0 e1 e2 e3 e4 e5 e6 h9 h8 hia2 hib2 hbq hbe HSN HMA HMB hAa hAb;go_wp2_with fail;go_upto_region 13 with fail
     refine reg23_13 HIL HCL (Lq ?_);intro u60 u61 u62 u63 u64 u65 u66 u67 u68 u69 u70 u71 gx gy w12 hb12 hgx hgy hne hqx hqy;have HB12:=Lq hb12;have HSX:Hid (∀W,BW w12 W→W.cell? ⟨gx,0,none⟩=some (.string xn)∧W.cell? ⟨gx,1,none⟩=some (iv xk)∧W.cell? ⟨gx,2,none⟩=some (iv xf)∧W.cell? ⟨gx,3,none⟩=some (iv xl)∧W.cell? ⟨gx,4,none⟩=some (.slice xA xon.length xc)∧W.cell? ⟨gx,5,none⟩=some (iv xw)∧W.cell? ⟨gx,6,none⟩=some (iv xz)∧W.cell? ⟨gy,0,none⟩=some (.string yn)∧W.cell? ⟨gy,1,none⟩=some (iv yk)∧W.cell? ⟨gy,2,none⟩=some (iv yf)∧W.cell? ⟨gy,3,none⟩=some (iv yl)∧W.cell? ⟨gy,4,none⟩=some (.slice yA yon.length yc)∧W.cell? ⟨gy,5,none⟩=some (iv yw)∧W.cell? ⟨gy,6,none⟩=some (iv yz)):=Lq fun W hb=>have k:=hqx.keep hb;have k2:=hqy.keep hb;⟨k.c 0,k.c 1,k.c 2,k.c 3,k.c 4,k.c 5,k.c 6,k2.c 0,k2.c 1,k2.c 2,k2.c 3,k2.c 4,k2.c 5,k2.c 6⟩
     clear hb12 hgx hgy hne hqx hqy;go_upto_region 14 with fail
     refine reg23_14 HSX HBQ (Lq fun W hb=>HEQ.out W (bT HB12.out hb)) (Lq fun W=>plain70_any ⟨⟨xn,xk,xf,xl,xon,xw,xz⟩,xA,xc⟩ W) (Lq fun W=>plain70_any ⟨⟨yn,yk,yf,yl,yon,yw,yz⟩,yA,yc⟩ W) (Lq ?_)
     intro u72 u73 u74 u75 u76 u77 u78 u79 u80 u81 u82 w13 hb13;have HB13:=Lq (bT HB12.out hb13);have HRW13:=Lq (own_below HRW11.out HB13.out);have HB713:=Lq (bT HB711.out HB13.out);have HB913:=Lq (bT HB911.out HB13.out);clear hb13;obtain⟨bs,hbs⟩:=ex (bq&&be);rw[hbs]at HSN2 ⊢;clear hbs HBQ HEQ;cases bs with
     | true =>
      go_wp2_with fail;go_roundw
      case measure=>simp[intOf];omega
      case rel =>
       refine⟨j+1,by omega,by go_num,Lq ?_,HB913⟩
       rw[HDS.out,HSN2.out]
       simpa using HRW13.out
     | false =>
      have HDF:Hid ((if sameIn la lb nm=true then[]else[nm])=[nm]):=Lq (by rw[HSN2.out];rfl)
      have HAL:=Lq (HRW13.out.alloc (.cells #[.string nm] 9));have hln:=HLN.out;have HBA:=Lq (HB913.out);go_wp2_with (at_builtin;refine wpList_append_own _ rfl _ _ 41 rfl w9.heap.size 9 i9 (.string ⟨#[]⟩) 1 16 Tryz.underlying41 hi9 hz90 hz91 hz92 rfl (by decide) _ _ _ rfl HAL.out ⟨w13.heap.size,0,none⟩ 1 1 [.string nm] rfl rfl (one_new _ _ _) ?d2 ?d3 ?d4 ?d5 ?_)
      case d2=>simp[Value.oneCell']
      case d3=>unfold maxLen;omega
      case d4=>omega
      case d5=>have:=HBA.out.size;(try simp only[World.size_alloc]);omega
      intro v9 w20 hown9 hg9 _;have hb9:BW w9 w20:=grownB HAL.out hg9 (lr _) (bA HBA.out _);have HB20:=Lq hb9;have HO9:=Lq hown9;clear hown9 hg9 hb9;go_wp2_with fail;go_roundw
      case measure=>simp[intOf];omega
      case rel =>
       refine⟨j+1,by omega,by go_num,Lq ?_,HB20⟩
       rw[HDS.out,HDF.out]
       simpa using HO9.out
    ·have hrb:rb = -1:=by rw[←KRB.out];exact posP_none (by simpa using hb)
     have hra0:0≤ra:=by rw[←KRA.out,(posP_at ha).1];omega
     have HDF:Hid ((if sameIn la lb nm=true then[]else[nm])=[nm]):=Lq (by rw[sameIn_no (by simp[hb])];rfl)
     subst hrb;clear ha hb;have HAL:=Lq (HRW11.out.alloc (.cells #[.string nm] 9));have hln:=HLN.out;have HBA:=Lq (HB911.out);go_wp2_with (at_builtin;refine wpList_append_own _ rfl _ _ 41 rfl w9.heap.size 9 i9 (.string ⟨#[]⟩) 1 16 Tryz.underlying41 hi9 hz90 hz91 hz92 rfl (by decide) _ _ _ rfl HAL.out ⟨w11.heap.size,0,none⟩ 1 1 [.string nm] rfl rfl (one_new _ _ _) ?d2 ?d3 ?d4 ?d5 ?_)
     case d2=>simp[Value.oneCell']
     case d3=>unfold maxLen;omega
     case d4=>omega
     case d5=>have:=HBA.out.size;(try simp only[World.size_alloc]);omega
     intro v9 w20 hown9 hg9 _;have hb9:BW w9 w20:=grownB HAL.out hg9 (lr _) (bA HBA.out _);have HB20:=Lq hb9;have HO9:=Lq hown9;clear hown9 hg9 hb9;go_wp2_with fail;go_roundw
     case measure=>simp[intOf];omega
     case rel =>
      refine⟨j+1,by omega,by go_num,Lq ?_,HB20⟩
      rw[HDS.out,HDF.out]
      simpa using HO9.out
   ·have hra:ra = -1:=by rw[←KRA.out];exact posP_none (by simpa using ha)
    have HDF:Hid ((if sameIn la lb nm=true then[]else[nm])=[nm]):=Lq (by rw[sameIn_no (by simp[ha])];rfl)
    subst hra;clear ha;have HAL:=Lq (HRW11.out.alloc (.cells #[.string nm] 9));have hln:=HLN.out;have HBA:=Lq (HB911.out);go_wp2_with (at_builtin;refine wpList_append_own _ rfl _ _ 41 rfl w9.heap.size 9 i9 (.string ⟨#[]⟩) 1 16 Tryz.underlying41 hi9 hz90 hz91 hz92 rfl (by decide) _ _ _ rfl HAL.out ⟨w11.heap.size,0,none⟩ 1 1 [.string nm] rfl rfl (one_new _ _ _) ?d2 ?d3 ?d4 ?d5 ?_)
    case d2=>simp[Value.oneCell']
    case d3=>unfold maxLen;omega
    case d4=>omega
    case d5=>have:=HBA.out.size;(try simp only[World.size_alloc]);omega
    intro v9 w20 hown9 hg9 _;have hb9:BW w9 w20:=grownB HAL.out hg9 (lr _) (bA HBA.out _);have HB20:=Lq hb9;have HO9:=Lq hown9;clear hown9 hg9 hb9;go_wp2_with fail;go_roundw
    case measure=>simp[intOf];omega
    case rel =>
     refine⟨j+1,by omega,by go_num,Lq ?_,HB20⟩
     rw[HDS.out,HDF.out]
     simpa using HO9.out
  ·obtain rfl:j=NL.length:=by omega
   go_wp2_with fail;rw[Exit.noGoto_ret]
   go_ret2
   refine⟨_,rfl,bT HBW9.out HBR.out, ?_⟩;have h:=own_base HRW.out HBW9.out.size;rw[List.take_of_length_le (lr _)]at h;rw[HNL.out];exact h
end
end Go.Proofs.YtigcophcpboanaaGreatDoor
