/- The examples of layer 1: the plan (printed by mkHA2.py). The examples of layer 1: the .. -/
import Derived.Lib.Strings
import Derived.Test.YtbillnhcmkpohaaGreatDoorM10
set_option maxRecDepth 1000000
set_option maxHeartbeats 0
namespace Go.Proofs.YtbillnhcmkpohaaGreatDoor
open Go.RowKit
section
variable{Q:Exit→Act→World→Prop}{g12 g16 g19 g2 n:Nat}{zB zK zL zM zN zO zP zQ zR zS zT zU zV zW za zE zF zG zH zI zJ:Value}{V w:World}
theorem rd3{P:Program}{ops:Array Oper}{d:Region.Mode}{S:World→Prop}{c:Nat}{b l m r:Array Bool}{a:Act}(i j k:Nat){o p q:Oper}(h:∀K':Act→World→Prop,Shut (∀a w,S w→(S w→wpAnyH P d ops Q S c l a w)→K' a w)→if Region.wanted o (yielded ops a.tmps)=true then Oper.wp P o a w K' Q else K' (a.put o.dst undef) w)(s:∀K':Act→World→Prop,Shut (∀a w,S w→(S w→wpAnyH P d ops Q S c m a w)→K' a w)→if Region.wanted p (yielded ops a.tmps)=true then Oper.wp P p a w K' Q else K' (a.put p.dst undef) w)(t:∀K':Act→World→Prop,Shut (∀a w,S w→(S w→wpAnyH P d ops Q S c r a w)→K' a w)→if Region.wanted q (yielded ops a.tmps)=true then Oper.wp P q a w K' Q else K' (a.put q.dst undef) w)(z:ay ops i=o:=by
   (conv=>lhs;whnf)<;>rfl)(A:ay ops j=p:=by
   (conv=>lhs;whnf)<;>rfl)(B:ay ops k=q:=by
   (conv=>lhs;whnf)<;>rfl)(u:ops[i]?=some (ay ops i):=by kernel_rfl)(v:ops[j]?=some (ay ops j):=by kernel_rfl)(x:ops[k]?=some (ay ops k):=by kernel_rfl)(C:Region.ready d ops b=[i,j,k]:=by kernel_rfl)(y:b.setIfInBounds i true=l:=by
   simp only[List.setIfInBounds_toArray,List.set_cons_zero,List.set_cons_succ];rfl)(f:b.setIfInBounds j true=m:=by
   simp only[List.setIfInBounds_toArray,List.set_cons_zero,List.set_cons_succ];rfl)(g:b.setIfInBounds k true=r:=by
   simp only[List.setIfInBounds_toArray,List.set_cons_zero,List.set_cons_succ];rfl):wpAnyH P d ops Q S (c+1) b a w:=by
 subst y f g z A B;exact wpAnyH_ready C (by simp) (AllReadyH.cons u h (AllReadyH.cons v s (AllReadyH.cons x t AllReadyH.nil)))
noncomputable def dD:Array Oper:=aU (aF Tryz.f41 2)
abbrev dE(Q:Exit→Act→World→Prop)(V:World)(n g2 g12:Nat)(zB zE zF zG zH zI zJ zK zL zM:Value):Prop:=∀u13 u14 u15 u16 u17 u18 u19 u20 u21 u22 u23 u24 u25 u26 g16 g19 g21 W',BW V W'→aa W' g16 9 #[.string kL]→aa W' g19 9 #[.string tk1,.string kL]→aa W' g21 50 #[.string kL,iv 2,iv 0,iv 40,.slice none 0 0,iv 9000,iv 10000,.string tk1,iv 4,iv 10,iv 19,.slice (some ⟨g16,0,none⟩) 1 1,iv 2000,iv 2500,.string dK,iv 1,iv 5,iv 24,.slice (some ⟨g19,0,none⟩) 2 2,iv 3000,iv 3000]→Q .normal ⟨#[iv n,zB,pT g2 0,.slice (some ⟨g12,0,none⟩) 2 2,zE,zF,zG,zH,zI,zJ,zK,zL,zM,u13,u14,u15,u16,u17,u18,u19,u20,u21,u22,u23,u24,u25,u26],[]⟩ ((W'.setCell ⟨g2,0,none⟩ (.slice (some ⟨g21,0,none⟩) 3 3)).setCell ⟨g2,1,none⟩ (.slice (some ⟨g12,0,none⟩) n 2))
theorem D0{a:Nat}(j:Hid (n≤2))(i:Hid (aa V g2 27 #[.slice none 0 0,.slice none 0 0]))(k:Hid (dE Q V n g2 g12 zB zE zF zG zH zI zJ zK zL zM))(h:Hid (BW V w))(d:Hid (aa w g16 9 #[.string kL]))(f:Hid (aa w g19 9 #[.string tk1,.string kL]))(g:Hid (aa w a 50 #[.string kL,iv 2,iv 0,iv 40,.slice none 0 0,iv 9000,iv 10000,.string tk1,iv 4,iv 10,iv 19,.slice (some ⟨g16,0,none⟩) 1 1,iv 2000,iv 2500,.string dK,iv 1,iv 5,iv 24,.slice (some ⟨g19,0,none⟩) 2 2,iv 3000,iv 3000])) :
  wpAnyH Tryz.prog .any dD (NoPanic Q) (fun _=>True) 3 #[true,true,true,true,true,true,true,true,true,false,true,true,true,false,false] ⟨#[iv n,zB,pT g2 0,.slice (some ⟨g12,0,none⟩) 2 2,zE,zF,zG,zH,zI,zJ,zK,zL,zM,.agg #[iv 9000,iv 10000],.agg #[.string kL,iv 2,iv 0,iv 40,.slice none 0 0,iv 9000,iv 10000],.agg #[iv 2000,iv 2500],.slice (some ⟨g16,0,none⟩) 1 1,.agg #[.string tk1,iv 4,iv 10,iv 19,.slice (some ⟨g16,0,none⟩) 1 1,iv 2000,iv 2500],.agg #[iv 3000,iv 3000],.slice (some ⟨g19,0,none⟩) 2 2,.agg #[.string dK,iv 1,iv 5,iv 24,.slice (some ⟨g19,0,none⟩) 2 2,iv 3000,iv 3000],.slice (some ⟨a,0,none⟩) 3 3,zW,.slice (some ⟨g12,0,none⟩) 2 2,iv n,.slice (some ⟨g12,0,none⟩) n 2,za],[]⟩ w:=by
 have l:=j.out;refine tk 9 (.agg #[.slice (some ⟨a,0,none⟩) 3 3]) ?_;refine tk 13 (.agg #[.slice (some ⟨a,0,none⟩) 3 3,.slice (some ⟨g12,0,none⟩) n 2]) ?_;refine rd1 14 fun K' hK=>?_
 have b:=i.out.keep h.out;have fg:=b.frozen 0;have fg1:=b.frozen 1;have lg:=b.lt;have cg:=b.c 0;have cg1:=b.c 1;go_simp;refine hK.out _ _ trivial (fun _=>?_)
 clear hK;exact dn (k.out _ _ _ _ _ _ _ _ _ _ _ _ _ _ _ _ _ _ h.out d.out f.out g.out)
theorem D1(g:Hid (n≤2))(f:Hid (aa V g2 27 #[.slice none 0 0,.slice none 0 0]))(h:Hid (dE Q V n g2 g12 zB zE zF zG zH zI zJ zK zL zM))(d:Hid (BW V w))(a:Hid (aa w g16 9 #[.string kL]))(b:Hid (aa w g19 9 #[.string tk1,.string kL])) :
  wpAnyH Tryz.prog .any dD (NoPanic Q) (fun _=>True) 4 #[true,true,true,true,true,true,true,true,false,false,true,true,true,false,false] ⟨#[iv n,zB,pT g2 0,.slice (some ⟨g12,0,none⟩) 2 2,zE,zF,zG,zH,zI,zJ,zK,zL,zM,.agg #[iv 9000,iv 10000],.agg #[.string kL,iv 2,iv 0,iv 40,.slice none 0 0,iv 9000,iv 10000],.agg #[iv 2000,iv 2500],.slice (some ⟨g16,0,none⟩) 1 1,.agg #[.string tk1,iv 4,iv 10,iv 19,.slice (some ⟨g16,0,none⟩) 1 1,iv 2000,iv 2500],.agg #[iv 3000,iv 3000],.slice (some ⟨g19,0,none⟩) 2 2,.agg #[.string dK,iv 1,iv 5,iv 24,.slice (some ⟨g19,0,none⟩) 2 2,iv 3000,iv 3000],zV,zW,.slice (some ⟨g12,0,none⟩) 2 2,iv n,.slice (some ⟨g12,0,none⟩) n 2,za],[]⟩ w:=by
 refine rd1 8 (fun i hK=>?_)
 ·skip;go_simp;have c:=bA (bR w) (.cells #[.string kL,iv 2,iv 0,iv 40,.slice none 0 0,iv 9000,iv 10000,.string tk1,iv 4,iv 10,iv 19,.slice (some ⟨g16,0,none⟩) 1 1,iv 2000,iv 2500,.string dK,iv 1,iv 5,iv 24,.slice (some ⟨g19,0,none⟩) 2 2,iv 3000,iv 3000] 50);have hq:=aa.new w 50 #[.string kL,iv 2,iv 0,iv 40,.slice none 0 0,iv 9000,iv 10000,.string tk1,iv 4,iv 10,iv 19,.slice (some ⟨g16,0,none⟩) 1 1,iv 2000,iv 2500,.string dK,iv 1,iv 5,iv 24,.slice (some ⟨g19,0,none⟩) 2 2,iv 3000,iv 3000];obtain⟨w1,hw1⟩:=ex (w.alloc (.cells #[.string kL,iv 2,iv 0,iv 40,.slice none 0 0,iv 9000,iv 10000,.string tk1,iv 4,iv 10,iv 19,.slice (some ⟨g16,0,none⟩) 1 1,iv 2000,iv 2500,.string dK,iv 1,iv 5,iv 24,.slice (some ⟨g19,0,none⟩) 2 2,iv 3000,iv 3000] 50));obtain⟨g21,hg1⟩:=ex w.heap.size;rw[hw1]at c hq;rw[hg1]at hq;rw[hw1,hg1];have H21:Hid (aa w1 g21 50 #[.string kL,iv 2,iv 0,iv 40,.slice none 0 0,iv 9000,iv 10000,.string tk1,iv 4,iv 10,iv 19,.slice (some ⟨g16,0,none⟩) 1 1,iv 2000,iv 2500,.string dK,iv 1,iv 5,iv 24,.slice (some ⟨g19,0,none⟩) 2 2,iv 3000,iv 3000]):=Lq hq;have HB1:=Lq (bT d.out c);have a:Hid (aa w1 g16 9 #[.string kL]):=Lq (a.out.keep c);have b:Hid (aa w1 g19 9 #[.string tk1,.string kL]):=Lq (b.out.keep c);refine hK.out _ _ trivial (fun _=>?_)
  exact D0 g f h HB1 a b H21
theorem vy(h:Hid (n≤2))(g:Hid (aa V g2 27 #[.slice none 0 0,.slice none 0 0]))(i:Hid (dE Q V n g2 g12 zB zE zF zG zH zI zJ zK zL zM))(f:Hid (BW V w))(a:Hid (aa w g16 9 #[.string kL]))(b:Hid (aa w g19 9 #[.string tk1,.string kL])) :
  wpAnyH Tryz.prog .any dD (NoPanic Q) (fun _=>True) 5 #[true,true,true,true,true,true,true,false,false,false,true,true,true,false,false] ⟨#[iv n,zB,pT g2 0,.slice (some ⟨g12,0,none⟩) 2 2,zE,zF,zG,zH,zI,zJ,zK,zL,zM,.agg #[iv 9000,iv 10000],.agg #[.string kL,iv 2,iv 0,iv 40,.slice none 0 0,iv 9000,iv 10000],.agg #[iv 2000,iv 2500],.slice (some ⟨g16,0,none⟩) 1 1,.agg #[.string tk1,iv 4,iv 10,iv 19,.slice (some ⟨g16,0,none⟩) 1 1,iv 2000,iv 2500],.agg #[iv 3000,iv 3000],.slice (some ⟨g19,0,none⟩) 2 2,zU,zV,zW,.slice (some ⟨g12,0,none⟩) 2 2,iv n,.slice (some ⟨g12,0,none⟩) n 2,za],[]⟩ w:=by
 refine rd1 7 (fun j hK=>?_)
 ·skip;go_simp;refine(iV _ _ _ _ _ _ _ _ _ w).mono ?_;rintro e d ⟨rfl,c⟩;have HB1:=Lq (bT f.out c);have a:Hid (aa d g16 9 #[.string kL]):=Lq (a.out.keep c);have b:Hid (aa d g19 9 #[.string tk1,.string kL]):=Lq (b.out.keep c);refine hK.out _ _ trivial (fun _=>?_)
  exact D1 h g i HB1 a b
theorem D2(f:Hid (n≤2))(d:Hid (aa V g2 27 #[.slice none 0 0,.slice none 0 0]))(g:Hid (dE Q V n g2 g12 zB zE zF zG zH zI zJ zK zL zM))(c:Hid (BW V w))(a:Hid (aa w g16 9 #[.string kL])) :
  wpAnyH Tryz.prog .any dD (NoPanic Q) (fun _=>True) 6 #[true,true,true,true,true,true,false,false,false,false,true,true,true,false,false] ⟨#[iv n,zB,pT g2 0,.slice (some ⟨g12,0,none⟩) 2 2,zE,zF,zG,zH,zI,zJ,zK,zL,zM,.agg #[iv 9000,iv 10000],.agg #[.string kL,iv 2,iv 0,iv 40,.slice none 0 0,iv 9000,iv 10000],.agg #[iv 2000,iv 2500],.slice (some ⟨g16,0,none⟩) 1 1,.agg #[.string tk1,iv 4,iv 10,iv 19,.slice (some ⟨g16,0,none⟩) 1 1,iv 2000,iv 2500],.agg #[iv 3000,iv 3000],zT,zU,zV,zW,.slice (some ⟨g12,0,none⟩) 2 2,iv n,.slice (some ⟨g12,0,none⟩) n 2,za],[]⟩ w:=by
 refine rd1 6 (fun h hK=>?_)
 ·skip;go_simp;have b:=bA (bR w) (.cells #[.string tk1,.string kL] 9);have hq:=aa.new w 9 #[.string tk1,.string kL];obtain⟨w1,hw1⟩:=ex (w.alloc (.cells #[.string tk1,.string kL] 9));obtain⟨g19,hg1⟩:=ex w.heap.size;rw[hw1]at b hq;rw[hg1]at hq;rw[hw1,hg1];have H19:Hid (aa w1 g19 9 #[.string tk1,.string kL]):=Lq hq;have HB1:=Lq (bT c.out b);have a:Hid (aa w1 g16 9 #[.string kL]):=Lq (a.out.keep b);refine hK.out _ _ trivial (fun _=>?_)
  exact vy f d g HB1 a H19
theorem vz(h:Hid (n≤2))(g:Hid (aa V g2 27 #[.slice none 0 0,.slice none 0 0]))(i:Hid (dE Q V n g2 g12 zB zE zF zG zH zI zJ zK zL zM))(f:Hid (BW V w))(a:Hid (aa w g16 9 #[.string kL]))(b:Hid (aa w g19 9 #[.string tk1,.string kL])) :
  wpAnyH Tryz.prog .any dD (NoPanic Q) (fun _=>True) 6 #[true,true,true,true,true,false,true,false,false,false,true,true,true,false,false] ⟨#[iv n,zB,pT g2 0,.slice (some ⟨g12,0,none⟩) 2 2,zE,zF,zG,zH,zI,zJ,zK,zL,zM,.agg #[iv 9000,iv 10000],.agg #[.string kL,iv 2,iv 0,iv 40,.slice none 0 0,iv 9000,iv 10000],.agg #[iv 2000,iv 2500],.slice (some ⟨g16,0,none⟩) 1 1,.agg #[.string tk1,iv 4,iv 10,iv 19,.slice (some ⟨g16,0,none⟩) 1 1,iv 2000,iv 2500],zS,.slice (some ⟨g19,0,none⟩) 2 2,zU,zV,zW,.slice (some ⟨g12,0,none⟩) 2 2,iv n,.slice (some ⟨g12,0,none⟩) n 2,za],[]⟩ w:=by
 refine rd1 5 (fun j hK=>?_)
 ·skip;go_simp;refine(gu 3000 3000 w).mono ?_;rintro e d ⟨rfl,c⟩;have HB1:=Lq (bT f.out c);have a:Hid (aa d g16 9 #[.string kL]):=Lq (a.out.keep c);have b:Hid (aa d g19 9 #[.string tk1,.string kL]):=Lq (b.out.keep c);refine hK.out _ _ trivial (fun _=>?_)
  exact vy h g i HB1 a b
theorem D3(g:Hid (n≤2))(f:Hid (aa V g2 27 #[.slice none 0 0,.slice none 0 0]))(h:Hid (dE Q V n g2 g12 zB zE zF zG zH zI zJ zK zL zM))(d:Hid (BW V w))(a:Hid (aa w g16 9 #[.string kL])) :
  wpAnyH Tryz.prog .any dD (NoPanic Q) (fun _=>True) 7 #[true,true,true,true,true,false,false,false,false,false,true,true,true,false,false] ⟨#[iv n,zB,pT g2 0,.slice (some ⟨g12,0,none⟩) 2 2,zE,zF,zG,zH,zI,zJ,zK,zL,zM,.agg #[iv 9000,iv 10000],.agg #[.string kL,iv 2,iv 0,iv 40,.slice none 0 0,iv 9000,iv 10000],.agg #[iv 2000,iv 2500],.slice (some ⟨g16,0,none⟩) 1 1,.agg #[.string tk1,iv 4,iv 10,iv 19,.slice (some ⟨g16,0,none⟩) 1 1,iv 2000,iv 2500],zS,zT,zU,zV,zW,.slice (some ⟨g12,0,none⟩) 2 2,iv n,.slice (some ⟨g12,0,none⟩) n 2,za],[]⟩ w:=by
 refine gZ 5 6 (fun i hK=>?_) (fun i hK=>?_)
 ·skip;go_simp;refine(gu 3000 3000 w).mono ?_;rintro e c ⟨rfl,b⟩;have HB1:=Lq (bT d.out b);have a:Hid (aa c g16 9 #[.string kL]):=Lq (a.out.keep b);refine hK.out _ _ trivial (fun _=>?_)
  exact D2 g f h HB1 a
 ·skip;go_simp;have b:=bA (bR w) (.cells #[.string tk1,.string kL] 9);have hq:=aa.new w 9 #[.string tk1,.string kL];obtain⟨c,hw1⟩:=ex (w.alloc (.cells #[.string tk1,.string kL] 9));obtain⟨g19,hg1⟩:=ex w.heap.size;rw[hw1]at b hq;rw[hg1]at hq;rw[hw1,hg1];have H19:Hid (aa c g19 9 #[.string tk1,.string kL]):=Lq hq;have HB1:=Lq (bT d.out b);have a:Hid (aa c g16 9 #[.string kL]):=Lq (a.out.keep b);refine hK.out _ _ trivial (fun _=>?_)
  exact vz g f h HB1 a H19
theorem rP(h:Hid (n≤2))(g:Hid (aa V g2 27 #[.slice none 0 0,.slice none 0 0]))(i:Hid (dE Q V n g2 g12 zB zE zF zG zH zI zJ zK zL zM))(f:Hid (BW V w))(a:Hid (aa w g16 9 #[.string kL]))(b:Hid (aa w g19 9 #[.string tk1,.string kL])) :
  wpAnyH Tryz.prog .any dD (NoPanic Q) (fun _=>True) 7 #[true,true,true,true,false,false,true,false,false,false,true,true,true,false,false] ⟨#[iv n,zB,pT g2 0,.slice (some ⟨g12,0,none⟩) 2 2,zE,zF,zG,zH,zI,zJ,zK,zL,zM,.agg #[iv 9000,iv 10000],.agg #[.string kL,iv 2,iv 0,iv 40,.slice none 0 0,iv 9000,iv 10000],.agg #[iv 2000,iv 2500],.slice (some ⟨g16,0,none⟩) 1 1,zR,zS,.slice (some ⟨g19,0,none⟩) 2 2,zU,zV,zW,.slice (some ⟨g12,0,none⟩) 2 2,iv n,.slice (some ⟨g12,0,none⟩) n 2,za],[]⟩ w:=by
 refine rd1 4 (fun j hK=>?_)
 ·skip;go_simp;refine(iV _ _ _ _ _ _ _ _ _ w).mono ?_;rintro e d ⟨rfl,c⟩;have HB1:=Lq (bT f.out c);have a:Hid (aa d g16 9 #[.string kL]):=Lq (a.out.keep c);have b:Hid (aa d g19 9 #[.string tk1,.string kL]):=Lq (b.out.keep c);refine hK.out _ _ trivial (fun _=>?_)
  exact vz h g i HB1 a b
theorem vA(g:Hid (n≤2))(f:Hid (aa V g2 27 #[.slice none 0 0,.slice none 0 0]))(h:Hid (dE Q V n g2 g12 zB zE zF zG zH zI zJ zK zL zM))(d:Hid (BW V w))(a:Hid (aa w g16 9 #[.string kL])) :
  wpAnyH Tryz.prog .any dD (NoPanic Q) (fun _=>True) 8 #[true,true,true,true,false,false,false,false,false,false,true,true,true,false,false] ⟨#[iv n,zB,pT g2 0,.slice (some ⟨g12,0,none⟩) 2 2,zE,zF,zG,zH,zI,zJ,zK,zL,zM,.agg #[iv 9000,iv 10000],.agg #[.string kL,iv 2,iv 0,iv 40,.slice none 0 0,iv 9000,iv 10000],.agg #[iv 2000,iv 2500],.slice (some ⟨g16,0,none⟩) 1 1,zR,zS,zT,zU,zV,zW,.slice (some ⟨g12,0,none⟩) 2 2,iv n,.slice (some ⟨g12,0,none⟩) n 2,za],[]⟩ w:=by
 refine gZ 4 6 (fun i hK=>?_) (fun i hK=>?_)
 ·skip;go_simp;refine(iV _ _ _ _ _ _ _ _ _ w).mono ?_;rintro e c ⟨rfl,b⟩;have HB1:=Lq (bT d.out b);have a:Hid (aa c g16 9 #[.string kL]):=Lq (a.out.keep b);refine hK.out _ _ trivial (fun _=>?_)
  exact D3 g f h HB1 a
 ·skip;go_simp;have b:=bA (bR w) (.cells #[.string tk1,.string kL] 9);have hq:=aa.new w 9 #[.string tk1,.string kL];obtain⟨c,hw1⟩:=ex (w.alloc (.cells #[.string tk1,.string kL] 9));obtain⟨g19,hg1⟩:=ex w.heap.size;rw[hw1]at b hq;rw[hg1]at hq;rw[hw1,hg1];have H19:Hid (aa c g19 9 #[.string tk1,.string kL]):=Lq hq;have HB1:=Lq (bT d.out b);have a:Hid (aa c g16 9 #[.string kL]):=Lq (a.out.keep b);refine hK.out _ _ trivial (fun _=>?_)
  exact rP g f h HB1 a H19
theorem vB(f:Hid (n≤2))(d:Hid (aa V g2 27 #[.slice none 0 0,.slice none 0 0]))(g:Hid (dE Q V n g2 g12 zB zE zF zG zH zI zJ zK zL zM))(c:Hid (BW V w))(a:Hid (aa w g19 9 #[.string tk1,.string kL])) :
  wpAnyH Tryz.prog .any dD (NoPanic Q) (fun _=>True) 8 #[true,true,true,false,false,false,true,false,false,false,true,true,true,false,false] ⟨#[iv n,zB,pT g2 0,.slice (some ⟨g12,0,none⟩) 2 2,zE,zF,zG,zH,zI,zJ,zK,zL,zM,.agg #[iv 9000,iv 10000],.agg #[.string kL,iv 2,iv 0,iv 40,.slice none 0 0,iv 9000,iv 10000],.agg #[iv 2000,iv 2500],zQ,zR,zS,.slice (some ⟨g19,0,none⟩) 2 2,zU,zV,zW,.slice (some ⟨g12,0,none⟩) 2 2,iv n,.slice (some ⟨g12,0,none⟩) n 2,za],[]⟩ w:=by
 refine rd1 3 (fun h hK=>?_)
 ·skip;go_simp;have b:=bA (bR w) (.cells #[.string kL] 9);have hq:=aa.new w 9 #[.string kL];obtain⟨w1,hw1⟩:=ex (w.alloc (.cells #[.string kL] 9));obtain⟨g16,hg1⟩:=ex w.heap.size;rw[hw1]at b hq;rw[hg1]at hq;rw[hw1,hg1];have H16:Hid (aa w1 g16 9 #[.string kL]):=Lq hq;have HB1:=Lq (bT c.out b);have a:Hid (aa w1 g19 9 #[.string tk1,.string kL]):=Lq (a.out.keep b);refine hK.out _ _ trivial (fun _=>?_)
  exact rP f d g HB1 H16 a
theorem rQ(h:Hid (n≤2))(g:Hid (aa V g2 27 #[.slice none 0 0,.slice none 0 0]))(i:Hid (dE Q V n g2 g12 zB zE zF zG zH zI zJ zK zL zM))(f:Hid (BW V w))(a:Hid (aa w g16 9 #[.string kL]))(b:Hid (aa w g19 9 #[.string tk1,.string kL])) :
  wpAnyH Tryz.prog .any dD (NoPanic Q) (fun _=>True) 8 #[true,true,false,true,false,false,true,false,false,false,true,true,true,false,false] ⟨#[iv n,zB,pT g2 0,.slice (some ⟨g12,0,none⟩) 2 2,zE,zF,zG,zH,zI,zJ,zK,zL,zM,.agg #[iv 9000,iv 10000],.agg #[.string kL,iv 2,iv 0,iv 40,.slice none 0 0,iv 9000,iv 10000],zP,.slice (some ⟨g16,0,none⟩) 1 1,zR,zS,.slice (some ⟨g19,0,none⟩) 2 2,zU,zV,zW,.slice (some ⟨g12,0,none⟩) 2 2,iv n,.slice (some ⟨g12,0,none⟩) n 2,za],[]⟩ w:=by
 refine rd1 2 (fun j hK=>?_)
 ·skip;go_simp;refine(gu 2000 2500 w).mono ?_;rintro e d ⟨rfl,c⟩;have HB1:=Lq (bT f.out c);have a:Hid (aa d g16 9 #[.string kL]):=Lq (a.out.keep c);have b:Hid (aa d g19 9 #[.string tk1,.string kL]):=Lq (b.out.keep c);refine hK.out _ _ trivial (fun _=>?_)
  exact rP h g i HB1 a b
theorem D4(d:Hid (n≤2))(c:Hid (aa V g2 27 #[.slice none 0 0,.slice none 0 0]))(f:Hid (dE Q V n g2 g12 zB zE zF zG zH zI zJ zK zL zM))(b:Hid (BW V w))  :
  wpAnyH Tryz.prog .any dD (NoPanic Q) (fun _=>True) 9 #[true,true,true,false,false,false,false,false,false,false,true,true,true,false,false] ⟨#[iv n,zB,pT g2 0,.slice (some ⟨g12,0,none⟩) 2 2,zE,zF,zG,zH,zI,zJ,zK,zL,zM,.agg #[iv 9000,iv 10000],.agg #[.string kL,iv 2,iv 0,iv 40,.slice none 0 0,iv 9000,iv 10000],.agg #[iv 2000,iv 2500],zQ,zR,zS,zT,zU,zV,zW,.slice (some ⟨g12,0,none⟩) 2 2,iv n,.slice (some ⟨g12,0,none⟩) n 2,za],[]⟩ w:=by
 refine gZ 3 6 (fun g hK=>?_) (fun g hK=>?_)
 ·skip;go_simp;have a:=bA (bR w) (.cells #[.string kL] 9);have hq:=aa.new w 9 #[.string kL];obtain⟨w1,hw1⟩:=ex (w.alloc (.cells #[.string kL] 9));obtain⟨g16,hg1⟩:=ex w.heap.size;rw[hw1]at a hq;rw[hg1]at hq;rw[hw1,hg1];have H16:Hid (aa w1 g16 9 #[.string kL]):=Lq hq;have HB1:=Lq (bT b.out a);refine hK.out _ _ trivial (fun _=>?_)
  exact vA d c f HB1 H16
 ·skip;go_simp;have a:=bA (bR w) (.cells #[.string tk1,.string kL] 9);have hq:=aa.new w 9 #[.string tk1,.string kL];obtain⟨w1,hw1⟩:=ex (w.alloc (.cells #[.string tk1,.string kL] 9));obtain⟨g19,hg1⟩:=ex w.heap.size;rw[hw1]at a hq;rw[hg1]at hq;rw[hw1,hg1];have H19:Hid (aa w1 g19 9 #[.string tk1,.string kL]):=Lq hq;have HB1:=Lq (bT b.out a);refine hK.out _ _ trivial (fun _=>?_)
  exact vB d c f HB1 H19
theorem vC(g:Hid (n≤2))(f:Hid (aa V g2 27 #[.slice none 0 0,.slice none 0 0]))(h:Hid (dE Q V n g2 g12 zB zE zF zG zH zI zJ zK zL zM))(d:Hid (BW V w))(a:Hid (aa w g16 9 #[.string kL])) :
  wpAnyH Tryz.prog .any dD (NoPanic Q) (fun _=>True) 9 #[true,true,false,true,false,false,false,false,false,false,true,true,true,false,false] ⟨#[iv n,zB,pT g2 0,.slice (some ⟨g12,0,none⟩) 2 2,zE,zF,zG,zH,zI,zJ,zK,zL,zM,.agg #[iv 9000,iv 10000],.agg #[.string kL,iv 2,iv 0,iv 40,.slice none 0 0,iv 9000,iv 10000],zP,.slice (some ⟨g16,0,none⟩) 1 1,zR,zS,zT,zU,zV,zW,.slice (some ⟨g12,0,none⟩) 2 2,iv n,.slice (some ⟨g12,0,none⟩) n 2,za],[]⟩ w:=by
 refine gZ 2 6 (fun i hK=>?_) (fun i hK=>?_)
 ·skip;go_simp;refine(gu 2000 2500 w).mono ?_;rintro e c ⟨rfl,b⟩;have HB1:=Lq (bT d.out b);have a:Hid (aa c g16 9 #[.string kL]):=Lq (a.out.keep b);refine hK.out _ _ trivial (fun _=>?_)
  exact vA g f h HB1 a
 ·skip;go_simp;have b:=bA (bR w) (.cells #[.string tk1,.string kL] 9);have hq:=aa.new w 9 #[.string tk1,.string kL];obtain⟨c,hw1⟩:=ex (w.alloc (.cells #[.string tk1,.string kL] 9));obtain⟨g19,hg1⟩:=ex w.heap.size;rw[hw1]at b hq;rw[hg1]at hq;rw[hw1,hg1];have H19:Hid (aa c g19 9 #[.string tk1,.string kL]):=Lq hq;have HB1:=Lq (bT d.out b);have a:Hid (aa c g16 9 #[.string kL]):=Lq (a.out.keep b);refine hK.out _ _ trivial (fun _=>?_)
  exact rQ g f h HB1 a H19
theorem vD(g:Hid (n≤2))(f:Hid (aa V g2 27 #[.slice none 0 0,.slice none 0 0]))(h:Hid (dE Q V n g2 g12 zB zE zF zG zH zI zJ zK zL zM))(d:Hid (BW V w))(a:Hid (aa w g19 9 #[.string tk1,.string kL])) :
  wpAnyH Tryz.prog .any dD (NoPanic Q) (fun _=>True) 9 #[true,true,false,false,false,false,true,false,false,false,true,true,true,false,false] ⟨#[iv n,zB,pT g2 0,.slice (some ⟨g12,0,none⟩) 2 2,zE,zF,zG,zH,zI,zJ,zK,zL,zM,.agg #[iv 9000,iv 10000],.agg #[.string kL,iv 2,iv 0,iv 40,.slice none 0 0,iv 9000,iv 10000],zP,zQ,zR,zS,.slice (some ⟨g19,0,none⟩) 2 2,zU,zV,zW,.slice (some ⟨g12,0,none⟩) 2 2,iv n,.slice (some ⟨g12,0,none⟩) n 2,za],[]⟩ w:=by
 refine gZ 2 3 (fun i hK=>?_) (fun i hK=>?_)
 ·skip;go_simp;refine(gu 2000 2500 w).mono ?_;rintro e c ⟨rfl,b⟩;have HB1:=Lq (bT d.out b);have a:Hid (aa c g19 9 #[.string tk1,.string kL]):=Lq (a.out.keep b);refine hK.out _ _ trivial (fun _=>?_)
  exact vB g f h HB1 a
 ·skip;go_simp;have b:=bA (bR w) (.cells #[.string kL] 9);have hq:=aa.new w 9 #[.string kL];obtain⟨c,hw1⟩:=ex (w.alloc (.cells #[.string kL] 9));obtain⟨g16,hg1⟩:=ex w.heap.size;rw[hw1]at b hq;rw[hg1]at hq;rw[hw1,hg1];have H16:Hid (aa c g16 9 #[.string kL]):=Lq hq;have HB1:=Lq (bT d.out b);have a:Hid (aa c g19 9 #[.string tk1,.string kL]):=Lq (a.out.keep b);refine hK.out _ _ trivial (fun _=>?_)
  exact rQ g f h HB1 H16 a
theorem rR(h:Hid (n≤2))(g:Hid (aa V g2 27 #[.slice none 0 0,.slice none 0 0]))(i:Hid (dE Q V n g2 g12 zB zE zF zG zH zI zJ zK zL zM))(f:Hid (BW V w))(a:Hid (aa w g16 9 #[.string kL]))(b:Hid (aa w g19 9 #[.string tk1,.string kL])) :
  wpAnyH Tryz.prog .any dD (NoPanic Q) (fun _=>True) 9 #[true,false,false,true,false,false,true,false,false,false,true,true,true,false,false] ⟨#[iv n,zB,pT g2 0,.slice (some ⟨g12,0,none⟩) 2 2,zE,zF,zG,zH,zI,zJ,zK,zL,zM,.agg #[iv 9000,iv 10000],zO,zP,.slice (some ⟨g16,0,none⟩) 1 1,zR,zS,.slice (some ⟨g19,0,none⟩) 2 2,zU,zV,zW,.slice (some ⟨g12,0,none⟩) 2 2,iv n,.slice (some ⟨g12,0,none⟩) n 2,za],[]⟩ w:=by
 refine rd1 1 (fun j hK=>?_)
 ·skip;go_simp;refine(iV _ _ _ _ _ _ _ _ _ w).mono ?_;rintro e d ⟨rfl,c⟩;have HB1:=Lq (bT f.out c);have a:Hid (aa d g16 9 #[.string kL]):=Lq (a.out.keep c);have b:Hid (aa d g19 9 #[.string tk1,.string kL]):=Lq (b.out.keep c);refine hK.out _ _ trivial (fun _=>?_)
  exact rQ h g i HB1 a b
theorem D5(f:Hid (n≤2))(d:Hid (aa V g2 27 #[.slice none 0 0,.slice none 0 0]))(g:Hid (dE Q V n g2 g12 zB zE zF zG zH zI zJ zK zL zM))(c:Hid (BW V w))  :
  wpAnyH Tryz.prog .any dD (NoPanic Q) (fun _=>True) 10 #[true,true,false,false,false,false,false,false,false,false,true,true,true,false,false] ⟨#[iv n,zB,pT g2 0,.slice (some ⟨g12,0,none⟩) 2 2,zE,zF,zG,zH,zI,zJ,zK,zL,zM,.agg #[iv 9000,iv 10000],.agg #[.string kL,iv 2,iv 0,iv 40,.slice none 0 0,iv 9000,iv 10000],zP,zQ,zR,zS,zT,zU,zV,zW,.slice (some ⟨g12,0,none⟩) 2 2,iv n,.slice (some ⟨g12,0,none⟩) n 2,za],[]⟩ w:=by
 refine rd3 2 3 6 (fun h hK=>?_) (fun h hK=>?_) (fun h hK=>?_)
 ·skip;go_simp;refine(gu 2000 2500 w).mono ?_;rintro e b ⟨rfl,a⟩;have HB1:=Lq (bT c.out a);refine hK.out _ _ trivial (fun _=>?_)
  exact D4 f d g HB1 
 ·skip;go_simp;have a:=bA (bR w) (.cells #[.string kL] 9);have hq:=aa.new w 9 #[.string kL];obtain⟨b,hw1⟩:=ex (w.alloc (.cells #[.string kL] 9));obtain⟨g16,hg1⟩:=ex w.heap.size;rw[hw1]at a hq;rw[hg1]at hq;rw[hw1,hg1];have H16:Hid (aa b g16 9 #[.string kL]):=Lq hq;have HB1:=Lq (bT c.out a);refine hK.out _ _ trivial (fun _=>?_)
  exact vC f d g HB1 H16
 ·skip;go_simp;have a:=bA (bR w) (.cells #[.string tk1,.string kL] 9);have hq:=aa.new w 9 #[.string tk1,.string kL];obtain⟨b,hw1⟩:=ex (w.alloc (.cells #[.string tk1,.string kL] 9));obtain⟨g19,hg1⟩:=ex w.heap.size;rw[hw1]at a hq;rw[hg1]at hq;rw[hw1,hg1];have H19:Hid (aa b g19 9 #[.string tk1,.string kL]):=Lq hq;have HB1:=Lq (bT c.out a);refine hK.out _ _ trivial (fun _=>?_)
  exact vD f d g HB1 H19
theorem vE(g:Hid (n≤2))(f:Hid (aa V g2 27 #[.slice none 0 0,.slice none 0 0]))(h:Hid (dE Q V n g2 g12 zB zE zF zG zH zI zJ zK zL zM))(d:Hid (BW V w))(a:Hid (aa w g16 9 #[.string kL])) :
  wpAnyH Tryz.prog .any dD (NoPanic Q) (fun _=>True) 10 #[true,false,false,true,false,false,false,false,false,false,true,true,true,false,false] ⟨#[iv n,zB,pT g2 0,.slice (some ⟨g12,0,none⟩) 2 2,zE,zF,zG,zH,zI,zJ,zK,zL,zM,.agg #[iv 9000,iv 10000],zO,zP,.slice (some ⟨g16,0,none⟩) 1 1,zR,zS,zT,zU,zV,zW,.slice (some ⟨g12,0,none⟩) 2 2,iv n,.slice (some ⟨g12,0,none⟩) n 2,za],[]⟩ w:=by
 refine gZ 1 6 (fun i hK=>?_) (fun i hK=>?_)
 ·skip;go_simp;refine(iV _ _ _ _ _ _ _ _ _ w).mono ?_;rintro e c ⟨rfl,b⟩;have HB1:=Lq (bT d.out b);have a:Hid (aa c g16 9 #[.string kL]):=Lq (a.out.keep b);refine hK.out _ _ trivial (fun _=>?_)
  exact vC g f h HB1 a
 ·skip;go_simp;have b:=bA (bR w) (.cells #[.string tk1,.string kL] 9);have hq:=aa.new w 9 #[.string tk1,.string kL];obtain⟨c,hw1⟩:=ex (w.alloc (.cells #[.string tk1,.string kL] 9));obtain⟨g19,hg1⟩:=ex w.heap.size;rw[hw1]at b hq;rw[hg1]at hq;rw[hw1,hg1];have H19:Hid (aa c g19 9 #[.string tk1,.string kL]):=Lq hq;have HB1:=Lq (bT d.out b);have a:Hid (aa c g16 9 #[.string kL]):=Lq (a.out.keep b);refine hK.out _ _ trivial (fun _=>?_)
  exact rR g f h HB1 a H19
theorem vF(g:Hid (n≤2))(f:Hid (aa V g2 27 #[.slice none 0 0,.slice none 0 0]))(h:Hid (dE Q V n g2 g12 zB zE zF zG zH zI zJ zK zL zM))(d:Hid (BW V w))(a:Hid (aa w g19 9 #[.string tk1,.string kL])) :
  wpAnyH Tryz.prog .any dD (NoPanic Q) (fun _=>True) 10 #[true,false,false,false,false,false,true,false,false,false,true,true,true,false,false] ⟨#[iv n,zB,pT g2 0,.slice (some ⟨g12,0,none⟩) 2 2,zE,zF,zG,zH,zI,zJ,zK,zL,zM,.agg #[iv 9000,iv 10000],zO,zP,zQ,zR,zS,.slice (some ⟨g19,0,none⟩) 2 2,zU,zV,zW,.slice (some ⟨g12,0,none⟩) 2 2,iv n,.slice (some ⟨g12,0,none⟩) n 2,za],[]⟩ w:=by
 refine gZ 1 3 (fun i hK=>?_) (fun i hK=>?_)
 ·skip;go_simp;refine(iV _ _ _ _ _ _ _ _ _ w).mono ?_;rintro e c ⟨rfl,b⟩;have HB1:=Lq (bT d.out b);have a:Hid (aa c g19 9 #[.string tk1,.string kL]):=Lq (a.out.keep b);refine hK.out _ _ trivial (fun _=>?_)
  exact vD g f h HB1 a
 ·skip;go_simp;have b:=bA (bR w) (.cells #[.string kL] 9);have hq:=aa.new w 9 #[.string kL];obtain⟨c,hw1⟩:=ex (w.alloc (.cells #[.string kL] 9));obtain⟨g16,hg1⟩:=ex w.heap.size;rw[hw1]at b hq;rw[hg1]at hq;rw[hw1,hg1];have H16:Hid (aa c g16 9 #[.string kL]):=Lq hq;have HB1:=Lq (bT d.out b);have a:Hid (aa c g19 9 #[.string tk1,.string kL]):=Lq (a.out.keep b);refine hK.out _ _ trivial (fun _=>?_)
  exact rR g f h HB1 H16 a
theorem vG(h:Hid (n≤2))(g:Hid (aa V g2 27 #[.slice none 0 0,.slice none 0 0]))(i:Hid (dE Q V n g2 g12 zB zE zF zG zH zI zJ zK zL zM))(f:Hid (BW V w))(a:Hid (aa w g16 9 #[.string kL]))(b:Hid (aa w g19 9 #[.string tk1,.string kL])) :
  wpAnyH Tryz.prog .any dD (NoPanic Q) (fun _=>True) 10 #[false,false,false,true,false,false,true,false,false,false,true,true,true,false,false] ⟨#[iv n,zB,pT g2 0,.slice (some ⟨g12,0,none⟩) 2 2,zE,zF,zG,zH,zI,zJ,zK,zL,zM,zN,zO,zP,.slice (some ⟨g16,0,none⟩) 1 1,zR,zS,.slice (some ⟨g19,0,none⟩) 2 2,zU,zV,zW,.slice (some ⟨g12,0,none⟩) 2 2,iv n,.slice (some ⟨g12,0,none⟩) n 2,za],[]⟩ w:=by
 refine rd1 0 (fun j hK=>?_)
 ·skip;go_simp;refine(gu 9000 10000 w).mono ?_;rintro e d ⟨rfl,c⟩;have HB1:=Lq (bT f.out c);have a:Hid (aa d g16 9 #[.string kL]):=Lq (a.out.keep c);have b:Hid (aa d g19 9 #[.string tk1,.string kL]):=Lq (b.out.keep c);refine hK.out _ _ trivial (fun _=>?_)
  exact rR h g i HB1 a b
theorem D6(f:Hid (n≤2))(d:Hid (aa V g2 27 #[.slice none 0 0,.slice none 0 0]))(g:Hid (dE Q V n g2 g12 zB zE zF zG zH zI zJ zK zL zM))(c:Hid (BW V w))  :
  wpAnyH Tryz.prog .any dD (NoPanic Q) (fun _=>True) 11 #[true,false,false,false,false,false,false,false,false,false,true,true,true,false,false] ⟨#[iv n,zB,pT g2 0,.slice (some ⟨g12,0,none⟩) 2 2,zE,zF,zG,zH,zI,zJ,zK,zL,zM,.agg #[iv 9000,iv 10000],zO,zP,zQ,zR,zS,zT,zU,zV,zW,.slice (some ⟨g12,0,none⟩) 2 2,iv n,.slice (some ⟨g12,0,none⟩) n 2,za],[]⟩ w:=by
 refine rd3 1 3 6 (fun h hK=>?_) (fun h hK=>?_) (fun h hK=>?_)
 ·skip;go_simp;refine(iV _ _ _ _ _ _ _ _ _ w).mono ?_;rintro e b ⟨rfl,a⟩;have HB1:=Lq (bT c.out a);refine hK.out _ _ trivial (fun _=>?_)
  exact D5 f d g HB1 
 ·skip;go_simp;have a:=bA (bR w) (.cells #[.string kL] 9);have hq:=aa.new w 9 #[.string kL];obtain⟨b,hw1⟩:=ex (w.alloc (.cells #[.string kL] 9));obtain⟨g16,hg1⟩:=ex w.heap.size;rw[hw1]at a hq;rw[hg1]at hq;rw[hw1,hg1];have H16:Hid (aa b g16 9 #[.string kL]):=Lq hq;have HB1:=Lq (bT c.out a);refine hK.out _ _ trivial (fun _=>?_)
  exact vE f d g HB1 H16
 ·skip;go_simp;have a:=bA (bR w) (.cells #[.string tk1,.string kL] 9);have hq:=aa.new w 9 #[.string tk1,.string kL];obtain⟨b,hw1⟩:=ex (w.alloc (.cells #[.string tk1,.string kL] 9));obtain⟨g19,hg1⟩:=ex w.heap.size;rw[hw1]at a hq;rw[hg1]at hq;rw[hw1,hg1];have H19:Hid (aa b g19 9 #[.string tk1,.string kL]):=Lq hq;have HB1:=Lq (bT c.out a);refine hK.out _ _ trivial (fun _=>?_)
  exact vF f d g HB1 H19
theorem D7(g:Hid (n≤2))(f:Hid (aa V g2 27 #[.slice none 0 0,.slice none 0 0]))(h:Hid (dE Q V n g2 g12 zB zE zF zG zH zI zJ zK zL zM))(d:Hid (BW V w))(a:Hid (aa w g16 9 #[.string kL])) :
  wpAnyH Tryz.prog .any dD (NoPanic Q) (fun _=>True) 11 #[false,false,false,true,false,false,false,false,false,false,true,true,true,false,false] ⟨#[iv n,zB,pT g2 0,.slice (some ⟨g12,0,none⟩) 2 2,zE,zF,zG,zH,zI,zJ,zK,zL,zM,zN,zO,zP,.slice (some ⟨g16,0,none⟩) 1 1,zR,zS,zT,zU,zV,zW,.slice (some ⟨g12,0,none⟩) 2 2,iv n,.slice (some ⟨g12,0,none⟩) n 2,za],[]⟩ w:=by
 refine gZ 0 6 (fun i hK=>?_) (fun i hK=>?_)
 ·skip;go_simp;refine(gu 9000 10000 w).mono ?_;rintro e c ⟨rfl,b⟩;have HB1:=Lq (bT d.out b);have a:Hid (aa c g16 9 #[.string kL]):=Lq (a.out.keep b);refine hK.out _ _ trivial (fun _=>?_)
  exact vE g f h HB1 a
 ·skip;go_simp;have b:=bA (bR w) (.cells #[.string tk1,.string kL] 9);have hq:=aa.new w 9 #[.string tk1,.string kL];obtain⟨c,hw1⟩:=ex (w.alloc (.cells #[.string tk1,.string kL] 9));obtain⟨g19,hg1⟩:=ex w.heap.size;rw[hw1]at b hq;rw[hg1]at hq;rw[hw1,hg1];have H19:Hid (aa c g19 9 #[.string tk1,.string kL]):=Lq hq;have HB1:=Lq (bT d.out b);have a:Hid (aa c g16 9 #[.string kL]):=Lq (a.out.keep b);refine hK.out _ _ trivial (fun _=>?_)
  exact vG g f h HB1 a H19
theorem D8(g:Hid (n≤2))(f:Hid (aa V g2 27 #[.slice none 0 0,.slice none 0 0]))(h:Hid (dE Q V n g2 g12 zB zE zF zG zH zI zJ zK zL zM))(d:Hid (BW V w))(a:Hid (aa w g19 9 #[.string tk1,.string kL])) :
  wpAnyH Tryz.prog .any dD (NoPanic Q) (fun _=>True) 11 #[false,false,false,false,false,false,true,false,false,false,true,true,true,false,false] ⟨#[iv n,zB,pT g2 0,.slice (some ⟨g12,0,none⟩) 2 2,zE,zF,zG,zH,zI,zJ,zK,zL,zM,zN,zO,zP,zQ,zR,zS,.slice (some ⟨g19,0,none⟩) 2 2,zU,zV,zW,.slice (some ⟨g12,0,none⟩) 2 2,iv n,.slice (some ⟨g12,0,none⟩) n 2,za],[]⟩ w:=by
 refine gZ 0 3 (fun i hK=>?_) (fun i hK=>?_)
 ·skip;go_simp;refine(gu 9000 10000 w).mono ?_;rintro e c ⟨rfl,b⟩;have HB1:=Lq (bT d.out b);have a:Hid (aa c g19 9 #[.string tk1,.string kL]):=Lq (a.out.keep b);refine hK.out _ _ trivial (fun _=>?_)
  exact vF g f h HB1 a
 ·skip;go_simp;have b:=bA (bR w) (.cells #[.string kL] 9);have hq:=aa.new w 9 #[.string kL];obtain⟨c,hw1⟩:=ex (w.alloc (.cells #[.string kL] 9));obtain⟨g16,hg1⟩:=ex w.heap.size;rw[hw1]at b hq;rw[hg1]at hq;rw[hw1,hg1];have H16:Hid (aa c g16 9 #[.string kL]):=Lq hq;have HB1:=Lq (bT d.out b);have a:Hid (aa c g19 9 #[.string tk1,.string kL]):=Lq (a.out.keep b);refine hK.out _ _ trivial (fun _=>?_)
  exact vG g f h HB1 H16 a
theorem D9(f:Hid (n≤2))(d:Hid (aa V g2 27 #[.slice none 0 0,.slice none 0 0]))(g:Hid (dE Q V n g2 g12 zB zE zF zG zH zI zJ zK zL zM))(c:Hid (BW V w))  :
  wpAnyH Tryz.prog .any dD (NoPanic Q) (fun _=>True) 12 #[false,false,false,false,false,false,false,false,false,false,true,true,true,false,false] ⟨#[iv n,zB,pT g2 0,.slice (some ⟨g12,0,none⟩) 2 2,zE,zF,zG,zH,zI,zJ,zK,zL,zM,zN,zO,zP,zQ,zR,zS,zT,zU,zV,zW,.slice (some ⟨g12,0,none⟩) 2 2,iv n,.slice (some ⟨g12,0,none⟩) n 2,za],[]⟩ w:=by
 refine rd3 0 3 6 (fun h hK=>?_) (fun h hK=>?_) (fun h hK=>?_)
 ·skip;go_simp;refine(gu 9000 10000 w).mono ?_;rintro e b ⟨rfl,a⟩;have HB1:=Lq (bT c.out a);refine hK.out _ _ trivial (fun _=>?_)
  exact D6 f d g HB1 
 ·skip;go_simp;have a:=bA (bR w) (.cells #[.string kL] 9);have hq:=aa.new w 9 #[.string kL];obtain⟨b,hw1⟩:=ex (w.alloc (.cells #[.string kL] 9));obtain⟨g16,hg1⟩:=ex w.heap.size;rw[hw1]at a hq;rw[hg1]at hq;rw[hw1,hg1];have H16:Hid (aa b g16 9 #[.string kL]):=Lq hq;have HB1:=Lq (bT c.out a);refine hK.out _ _ trivial (fun _=>?_)
  exact D7 f d g HB1 H16
 ·skip;go_simp;have a:=bA (bR w) (.cells #[.string tk1,.string kL] 9);have hq:=aa.new w 9 #[.string tk1,.string kL];obtain⟨b,hw1⟩:=ex (w.alloc (.cells #[.string tk1,.string kL] 9));obtain⟨g19,hg1⟩:=ex w.heap.size;rw[hw1]at a hq;rw[hg1]at hq;rw[hw1,hg1];have H19:Hid (aa b g19 9 #[.string tk1,.string kL]):=Lq hq;have HB1:=Lq (bT c.out a);refine hK.out _ _ trivial (fun _=>?_)
  exact D8 f d g HB1 H19
theorem Ea{g h i:Value}(a:Hid (n≤2))(b:Hid (aa V g2 27 #[.slice none 0 0,.slice none 0 0]))(c:Hid (dE Q V n g2 g12 zB zE zF zG zH zI zJ zK zL zM)) :
  (aF Tryz.f41 2).wp Tryz.prog Q ⟨#[iv n,zB,pT g2 0,.slice (some ⟨g12,0,none⟩) 2 2,zE,zF,zG,zH,zI,zJ,zK,zL,zM,zN,zO,zP,zQ,zR,zS,zT,zU,zV,zW,g,h,i,za],[]⟩ V:=by
 refine gd (ops:=dD) (r:=2) (n:=15) (S:=fun _=>True) (fun _ _=>trivial) fun V0 HB0 hHeld=>?_
 have j:(n:Int)≤2:=by have:=a.out;omega
 have f:¬(2:Int)<(n:Int):=by omega
 have d:¬(n:Int)<0:=by omega
 refine tk 10 (.slice (some ⟨g12,0,none⟩) 2 2) ?_;refine tk 11 (iv n) ?_;refine tk 12 (.slice (some ⟨g12,0,none⟩) n 2) ?_;exact D9 a b c HB0
end
section
variable{g:Nat}{W w:World}
def aK:ByteArray:=⟨#[107,101,101,108]⟩
def aV:ByteArray:=⟨#[116,97,110,107,49]⟩
def bV:ByteArray:=⟨#[100,101,99,107]⟩
def cD:ByteArray:=⟨#[112,105,112,101,49]⟩
def aT:ByteArray:=⟨#[104,111,108,100,49]⟩
def iw:ByteArray:=⟨#[112,97,114,116,32,107,101,101,108,32,98,101,97,109,32,48,32,52,48,32,57,48,48,48,32,49,48,48,48,48,10,112,97,114,116,32,116,97,110,107,49,32,116,97,110,107,32,49,48,32,49,57,32,50,48,48,48,32,50,53,48,48,32,107,101,101,108,10,112,97,114,116,32,100,101,99,107,32,112,108,97,116,101,32,53,32,50,52,32,51,48,48,48,32,51,48,48,48,32,116,97,110,107,49,32,107,101,101,108,10,49,48,48,32,97,100,100,32,112,105,112,101,49,32,112,105,112,101,32,49,50,32,51,48,32,49,48,48,32,50,48,48,32,116,97,110,107,49,10,50,48,48,32,115,119,97,112,32,116,97,110,107,49,32,104,111,108,100,49,32,112,108,97,116,101,32,49,48,32,50,57,32,56,48,48,32,57,48,48,32,107,101,101,108,10]⟩
def bW:List ah:=[⟨aK,2,0,40,[],9000,10000⟩,⟨aV,4,10,19,[aK],2000,2500⟩,⟨bV,1,5,24,[aV,aK],3000,3000⟩]
def fR:List bQ:=[⟨1,100,⟨#[]⟩,⟨cD,5,12,30,[aV],100,200⟩⟩,⟨3,200,aV,⟨aT,1,10,29,[aK],800,900⟩⟩]
theorem vH(w:World):Cs 50 #[] w fun e w'=>e=.returned (.string iw)∧w'=w:=by
 go_enter Tryz.func50,Tryz.ntmps50
 go_wp2
 go_ret
 exact⟨rfl,rfl⟩
theorem aa.rd1{α:Type}{enc:α→Value}{t:TypeId}{xs:List α}(h:aa w g t (xs.map enc).toArray):am enc w w.heap.size (some ⟨g,0,none⟩) xs:=by intro i x hx;refine⟨g,0,rfl,h.lt, ?_⟩;rw[h.cell];simp[hx]
theorem aa.rdN{α:Type}{k:Nat}{enc:α→List Value}(a:∀x,(enc x).length=k){t:TypeId}{xs:List α}(h:aa w g t (xs.flatMap enc).toArray):aG k enc w w.heap.size (some ⟨g,0,none⟩) xs:=by
 intro i x hx;refine⟨g,0,rfl,h.lt,fun j u hu=>?_⟩
 have:=jo a xs i x hx j u hu;rw[h.cell];simp[this]
structure fF(w:World)(A C:Option Addr)(cap capc:Nat)(ms:List aj)(cs:List ao):Prop where
 sl:az w w.heap.size A cap ms
 ch:de w w.heap.size C capc cs
 wf:∀c∈cs,Lit.wf (.int .i64 c.what)=true
theorem fF.below{A C:Option Addr}{cap a:Nat}{ms:List aj}{cs:List ao}(h:fF w A C cap a ms cs)(b:BW w W):fF W A C cap a ms cs:=⟨(h.sl.below b (lr _)).more b.size,(h.ch.below b (lr _)).more b.size,h.wf⟩
def Eb(n:Nat)(w:World)(e:Ending)(w':World):Prop:=∃(A C:Option Addr) (cap capc:Nat) (ms:List aj) (cs:List ao),e=.returned (.agg #[.slice A ms.length cap,.slice C cs.length capc])∧fF w' A C cap capc ms cs∧ab ms=bW∧an cs=fR.take n∧BW w w'
theorem mr{p:ah}(h:aa w g 9 (p.on.map Value.string).toArray)(a:p.name.size≤maxLen)(b:∀o∈p.on,o.size≤maxLen)(c:p.on.length≤5):aR w w.heap.size ⟨p,some ⟨g,0,none⟩,p.on.length⟩ :=
 ⟨aa.rd1 h,lr _,by unfold maxLen;simp only;omega,a,b,by simp only;omega⟩
theorem vI{p:ah}(h:p.on=[])(a:p.name.size≤maxLen):aR w w.heap.size ⟨p,none,0⟩ :=
 ⟨by rw[h];intro i x hx;simp at hx,by simp[h],by unfold maxLen;simp only;omega,a,by simp[h],by simp[h]⟩
theorem Ec{q r i d f j n:Nat}(E:n≤2)(l:aa W q 9 #[.string tk1])(y:aa W r 9 #[.string kL])(t:aa W i 68 #[iv 1,iv 100,.string ⟨#[]⟩,.string pp1,iv 5,iv 12,iv 30,.slice (some ⟨q,0,none⟩) 1 1,iv 100,iv 200,iv 3,iv 200,.string tk1,.string hd1,iv 1,iv 10,iv 29,.slice (some ⟨r,0,none⟩) 1 1,iv 800,iv 900])(u:aa W d 9 #[.string kL])(v:aa W f 9 #[.string tk1,.string kL])(k:aa W j 50 #[.string kL,iv 2,iv 0,iv 40,.slice none 0 0,iv 9000,iv 10000,.string tk1,iv 4,iv 10,iv 19,.slice (some ⟨d,0,none⟩) 1 1,iv 2000,iv 2500,.string dK,iv 1,iv 5,iv 24,.slice (some ⟨f,0,none⟩) 2 2,iv 3000,iv 3000]) :
  fF W (some ⟨j,0,none⟩) (some ⟨i,0,none⟩) 3 2 [⟨⟨aK,2,0,40,[],9000,10000⟩,none,0⟩,⟨⟨aV,4,10,19,[aK],2000,2500⟩,some ⟨d,0,none⟩,1⟩,⟨⟨bV,1,5,24,[aV,aK],3000,3000⟩,some ⟨f,0,none⟩,2⟩]
   ([⟨1,100,⟨#[]⟩,⟨⟨cD,5,12,30,[aV],100,200⟩,some ⟨q,0,none⟩,1⟩⟩,⟨3,200,aV,⟨⟨aT,1,10,29,[aK],800,900⟩,some ⟨r,0,none⟩,1⟩⟩].take n):=by
 have b:∀s:ByteArray,s.size≤5→s.size≤maxLen:=fun s hs=>by unfold maxLen;omega
 have z:aR W W.heap.size ⟨⟨aK,2,0,40,[],9000,10000⟩,none,0⟩:=vI rfl (b _ (by decide))
 have A:aR W W.heap.size ⟨⟨aV,4,10,19,[aK],2000,2500⟩,some ⟨d,0,none⟩,1⟩:=mr (p:=⟨aV,4,10,19,[aK],2000,2500⟩) u (b _ (by decide)) (fun o ho=>by simp only[List.mem_singleton]at ho;subst ho;exact b _ (by decide)) (by decide)
 have B:aR W W.heap.size ⟨⟨bV,1,5,24,[aV,aK],3000,3000⟩,some ⟨f,0,none⟩,2⟩:=mr (p:=⟨bV,1,5,24,[aV,aK],3000,3000⟩) v (b _ (by decide)) (fun o ho=>by simp only[List.mem_cons,List.not_mem_nil,or_false]at ho;rcases ho with rfl | rfl<;>exact b _ (by decide)) (by decide)
 have C:aR W W.heap.size ⟨⟨cD,5,12,30,[aV],100,200⟩,some ⟨q,0,none⟩,1⟩:=mr (p:=⟨cD,5,12,30,[aV],100,200⟩) l (b _ (by decide)) (fun o ho=>by simp only[List.mem_singleton]at ho;subst ho;exact b _ (by decide)) (by decide)
 have D:aR W W.heap.size ⟨⟨aT,1,10,29,[aK],800,900⟩,some ⟨r,0,none⟩,1⟩:=mr (p:=⟨aT,1,10,29,[aK],800,900⟩) y (b _ (by decide)) (fun o ho=>by simp only[List.mem_singleton]at ho;subst ho;exact b _ (by decide)) (by decide)
 refine⟨⟨⟨aa.rdN cH k,fun m x=>?_⟩,lr _,by unfold maxLen;omega,fun h=>(by cases h),fun a l=>?_⟩,⟨?_,fun c hc=>?_, ?_,by unfold maxLen;omega⟩,fun c hc=>?_⟩
 ·simp only[List.mem_cons,List.not_mem_nil,or_false]at x;rcases x with rfl | rfl | rfl
  ·exact z
  ·exact A
  ·exact B
 ·injection l with l
  subst l;exact⟨rfl,k.lt⟩
 ·exact aG.take (aa.rdN Ch t) n
 ·have hc:=List.mem_of_mem_take hc;simp only[List.mem_cons,List.not_mem_nil,or_false]at hc;rcases hc with rfl | rfl
  ·exact⟨C,b ⟨#[]⟩ (by decide)⟩
  ·exact⟨D,b aV (by decide)⟩
 ·simp only[List.length_take,List.length_cons,List.length_nil];omega
 ·have hc:=List.mem_of_mem_take hc;simp only[List.mem_cons,List.not_mem_nil,or_false]at hc;rcases hc with rfl | rfl
  ·exact(show Lit.wf (.int .i64 1)=true by decide)
  ·exact(show Lit.wf (.int .i64 3)=true by decide)
theorem rS(n:Nat)(C:n≤2)(w:World):Cs 41 #[iv n] w (Eb n w):=by
 obtain⟨F,r,B⟩:=nA w (.cells #[.slice none 0 0,.slice none 0 0] 27);have q1:aa F w.heap.size 27 #[.slice none 0 0,.slice none 0 0]:=by rw[←r];exact aa.new w 27 _
 obtain⟨m,k⟩:=ex w.heap.size;rw[k]at q1;have HB1:=Lq B;have HQ1:=Lq q1;have HG2:Hid (w.heap.size≤m):=Lq (Nat.le_of_eq k);have HN:=Lq C;clear B q1;go_enter Tryz.func41,Tryz.ntmps41
 go_wp2_with (first | (go_at_call 52;((with_reducible refine(gu _ _ _).mono ?_);rintro e w' ⟨rfl,d⟩)) | (go_at_call 51;((with_reducible refine(iV _ _ _ _ _ _ _ _ _ _).mono ?_);rintro e w' ⟨rfl,d⟩)))
 rename_i y s w3 j z u _ _;obtain⟨w5,e5⟩:=ex w';rw[e5]at d;rw[e5];have hb5:=d;clear e5 d;clear r k;obtain⟨w2a,hw2a⟩:=ex (y.alloc (.cells #[.string tk1] 9));obtain⟨ga,hga⟩:=ex y.heap.size;have ba:=bA (bR y) (.cells #[.string tk1] 9);have qa:=aa.new y 9 #[.string tk1];rw[hw2a]at j ba qa;rw[hga]at qa;obtain⟨w4a,hw4a⟩:=ex (z.alloc (.cells #[.string kL] 9));obtain⟨gb,hgb⟩:=ex z.heap.size;have bb:=bA (bR z) (.cells #[.string kL] 9);have qb:=aa.new z 9 #[.string kL];rw[hw4a]at hb5 bb qb;rw[hgb]at qb;rw[hga,hgb];obtain⟨w6,hw6⟩:=ex (w5.alloc (.cells #[iv 1,iv 100,.string ⟨#[]⟩,.string pp1,iv 5,iv 12,iv 30,.slice (some ⟨ga,0,none⟩) 1 1,iv 100,iv 200,iv 3,iv 200,.string tk1,.string hd1,iv 1,iv 10,iv 29,.slice (some ⟨gb,0,none⟩) 1 1,iv 800,iv 900] 68));obtain⟨g12,hg12⟩:=ex w5.heap.size;have b6:=bA (bR w5) (.cells #[iv 1,iv 100,.string ⟨#[]⟩,.string pp1,iv 5,iv 12,iv 30,.slice (some ⟨ga,0,none⟩) 1 1,iv 100,iv 200,iv 3,iv 200,.string tk1,.string hd1,iv 1,iv 10,iv 29,.slice (some ⟨gb,0,none⟩) 1 1,iv 800,iv 900] 68);have q12:=aa.new w5 68 #[iv 1,iv 100,.string ⟨#[]⟩,.string pp1,iv 5,iv 12,iv 30,.slice (some ⟨ga,0,none⟩) 1 1,iv 100,iv 200,iv 3,iv 200,.string tk1,.string hd1,iv 1,iv 10,iv 29,.slice (some ⟨gb,0,none⟩) 1 1,iv 800,iv 900];rw[hw6]at b6 q12;rw[hg12]at q12;rw[hw6,hg12];have b3a:=bT j u;have b35:=bT b3a (bT bb (bT hb5 b6));have HA:=Lq (qa.keep b35);have HB:=Lq (qb.keep (bT hb5 b6));have H12:=Lq q12;have b16:=bT s (bT ba b35);have HG:=Lq (HQ1.out.keep b16);have HB6:=Lq (bT HB1.out b16);clear s j u hb5 hw2a hw4a hw6 hga hgb hg12 ba qa bb qb b6 q12 b3a b35 b16;go_upto_region 2 with fail
 refine Ea HN HG (Lq ?_);intro J K L M N O R S T U V X Y Z G H f x d o p q;obtain⟨W9,hW9⟩:=ex ((x.setCell ⟨m,0,none⟩ (.slice (some ⟨f,0,none⟩) 3 3)).setCell ⟨m,1,none⟩ (.slice (some ⟨g12,0,none⟩) n 2));have o9:ai x W9 m:=by rw[←hW9];exact((ai.of_below (bR x) m).set 0 _).set 1 _
 have A:aa W9 m 27 #[.slice (some ⟨f,0,none⟩) 3 3,.slice (some ⟨g12,0,none⟩) n 2]:=by
  rw[←hW9];have h:=((HG.out.keep d).set_ 0 (.slice (some ⟨f,0,none⟩) 3 3)).set_ 1 (.slice (some ⟨g12,0,none⟩) n 2)
  simpa using h
 have l:∀g t cs,aa x g t cs→t≠27→aa W9 g t cs:=fun g t cs h ht=>h.same (o9.block g h.lt (fun e=>by
  subst e;have i:=HG.out.keep d;unfold aa at h i;rw[h]at i;injection i with i
  injection i with _ i
  exact ht i))
 have D:=Ec HN.out (l _ _ _ (HA.out.keep d) (by decide)) (l _ _ _ (HB.out.keep d) (by decide)) (l _ _ _ (H12.out.keep d) (by decide)) (l _ _ _ o (by decide)) (l _ _ _ p (by decide)) (l _ _ _ q (by decide))
 have E:=Lq D;have HB9:=Lq (o9.below (bT HB6.out d) HG2.out);have d0:=A.c 0;have d1:=A.c 1;clear o9 A l D d o p q C;rw[hW9];clear hW9;go_wp2_with fail;refine bodyPost_ret (v:=.agg #[.slice (some ⟨f,0,none⟩) 3 3,.slice (some ⟨g12,0,none⟩) n 2]) (by simp[results,Tryz.results41,go_sem,d0,d1]) rfl ⟨_,_,_,_,_,_, ?_,E.out,rfl, ?_,HB9.out⟩
 ·have I:∀a b:ao,([a,b].take n).length=n:=fun a b=>by have:=HN.out;simp only[List.length_take,List.length_cons,List.length_nil];omega
  rw[I];rfl
 ·simp only[an,List.map_take];rfl
end
def rT(x:ah)(before others:List ah):Bool:=du x.name&&others.all (fun p=>!eqS p.name x.name)&&decide (1≤x.kind∧x.kind≤5)&&decide (0≤x.first∧x.first≤x.last∧x.last≤40)&&decide (1≤x.wlo∧x.wlo≤x.whi∧x.whi≤1000000)&&x.on.all (fun o=>match before.find? (aX o)with
 | some y=>dN x y
 | none=>false)&&decide ((x.on.map fun o=>o.data.toList).Nodup)
theorem rU(o:ByteArray):o.toList=o.data.toList:=Lib.toList_data o
theorem rV{x:ah}{b o:List ah}(h:rT x b o=true):cQ x b o:=by
 unfold rT at h;simp only[Bool.and_eq_true,decide_eq_true_eq]at h;obtain⟨⟨⟨⟨⟨⟨a,c⟩,d⟩,f⟩,g⟩,i⟩,j⟩:=h;refine⟨a,fun p hp e=>?_,d,f,g,fun s hs=>?_, ?_⟩
 ·have:=List.all_eq_true.1 c p hp;rw[gY.2 e]at this;cases this
 ·have:=List.all_eq_true.1 i s hs;cases hf:b.find? (aX s)with
  | none=>rw[hf]at this;cases this
  | some y=>rw[hf]at this;exact⟨y,rfl,this⟩
 ·have e:x.on.map ByteArray.toList=x.on.map fun o=>o.data.toList:=List.map_congr_left fun o _=>rU o
  rw[e];exact j
def vJ(l:List ah):Bool:=decide (l.length≤12)&&(List.range l.length).all fun i=>match l[i]? with
 | some p=>rT p (l.take i) (l.take i)
 | none=>true
theorem vK{l:List ah}(h:vJ l=true):aE l:=by
 unfold vJ at h;simp only[Bool.and_eq_true,decide_eq_true_eq]at h;refine⟨h.1,fun i p a=>?_⟩
 have:=List.all_eq_true.1 h.2 i (List.mem_range.2 (lG a));rw[a]at this;exact rV this
def mY:List ah:=bW++[⟨cD,5,12,30,[aV],100,200⟩]
def dg:List ah:=[⟨aK,2,0,40,[],9000,10000⟩,⟨aT,1,10,29,[aK],800,900⟩,⟨bV,1,5,24,[aT,aK],3000,3000⟩,⟨cD,5,12,30,[aT],100,200⟩]
theorem Ee:bL bW ⟨1,100,⟨#[]⟩,⟨cD,5,12,30,[aV],100,200⟩⟩=some mY :=
 qZ rfl (by kernel_rfl) (by decide) (rV (by kernel_rfl))
theorem Ef:bL mY ⟨3,200,aV,⟨aT,1,10,29,[aK],800,900⟩⟩=some dg:=by
 have h:=rg (l:=mY) (c:=⟨3,200,aV,⟨aT,1,10,29,[aK],800,900⟩⟩) rfl (by kernel_rfl) (rV (by kernel_rfl)) (fun q hq hs=>by
  have a:((mY.drop (aL mY aV+1)).all fun q=>!standsB q aV||dN q ⟨aT,1,10,29,[aK],800,900⟩)=true:=by kernel_rfl
  have:=List.all_eq_true.1 a q hq;rw[hs]at this
  simpa using this)
 rw[h];exact congrArg some (by kernel_rfl)
theorem vL{day:Int}{l now a:List ah}{last:Int}{c:bQ}(b:inB last 40000 c.day=true)(hc:bL l c=some a):fa day (some (l,last,now)) c=some (a,c.day,if c.day≤day then a else now):=by unfold fa;simp only;rw[if_pos b,hc];rfl
theorem vM(day:Int):dd day bW fR=some (dg,200,if(200:Int)≤day then dg else if(100:Int)≤day then mY else bW):=by
 unfold dd fR;rw[List.foldl_cons,vL (by kernel_rfl) Ee,List.foldl_cons,vL (by kernel_rfl) Ef]
 rfl
theorem kI:bS bW fR:=⟨vK (by kernel_rfl),by decide,by rw[vM];rfl⟩
theorem ou:bS bW []:=⟨vK (by kernel_rfl),by decide,rfl⟩
theorem jv:aA 200 bW fR=dg:=by unfold aA;rw[vM];rfl
theorem rW(day:Int):aA day bW []=bW:=rfl
theorem pH:fR.take 0=[]:=rfl
theorem Eg:fN 10 19 bW=5695:=by kernel_rfl
theorem Eh:fO 10 19 bW=6440:=by kernel_rfl
theorem Ei:jH dg aK dg.length=[aT,bV,cD]:=by kernel_rfl
theorem Ej:hasP dg aK=true:=by kernel_rfl
theorem Ek:hasP dg aV=false:=by kernel_rfl
section
variable{nm:ByteArray}
theorem El(d f:Option Addr)(c a:List ByteArray)(B c1 g:Nat)(w:World)(p:c.length≤maxLen)(r:a.length≤maxLen)(h:am .string w B d c)(i:am .string w B f a) :
  Cs 96 #[.slice d c.length c1,.slice f a.length g] w (Rt w (.bool (decide (c=a)))):=by
 unfold maxLen at p r;by_cases hl:c.length=a.length
 ·cases c with
  | nil =>
   have:a=[]:=List.length_eq_zero_iff.1 hl.symm;subst this;refine(Go.Proofs.Tryz.slices_Equal_string_empty d f c1 0 g w (by omega)).mono ?_
   rintro e w' ⟨rfl,rfl⟩;exact⟨by simp,bR _⟩
  | cons x c =>
   cases a with
   | nil=>simp at hl
   | cons y a =>
    obtain⟨k,n,rfl,_,_⟩:=h 0 x rfl;obtain⟨b2,o2,rfl,_,_⟩:=i 0 y rfl;have hc:∀(b o:Nat) (l:List ByteArray),am .string w B (some ⟨b,o,none⟩) l→∀j,j<l.length→w.cell? ⟨b,o+j,none⟩=some (.string (l.getD j ByteArray.empty)):=by
     intro b o l s j m;obtain⟨b',o',e,_,hc⟩:=s j _ (gE m);injection e with e
     injection e with e1 e2
     subst e1 e2;rw[hc,List.getD_eq_getElem?_getD,gE m];rfl
    refine(Go.Proofs.Tryz.slices_Equal_string k n (x::c).length c1 b2 o2 (y::a).length g (x::c) (y::a) w (lr _) (lr _) (by omega) (by omega) (hc k n _ h) (hc b2 o2 _ i)).mono ?_
    rintro e w' ⟨rfl,q,rfl⟩;exact⟨by rw[List.take_length,List.take_length],cY (bR _) _⟩
 ·refine(Go.Proofs.Tryz.slices_Equal_string_lens d f c.length c1 a.length g w hl).mono ?_;rintro e w' ⟨rfl,rfl⟩;have:¬c=a:=fun e=>hl (by rw[e])
  exact⟨by simp[this],bR _⟩
theorem rX(l:List ByteArray):(fv l).length≤l.length:=by unfold fv;rw[List.length_map];refine lT (vt _) ?_;rw[List.length_mergeSort,List.length_map];exact lr _
def rY(x y:ah):Bool:=x.name.toList==y.name.toList&&x.kind==y.kind&&x.first==y.first&&x.last==y.last&&x.wlo==y.wlo&&x.whi==y.whi
def sameIn(a b:List ah)(nm:ByteArray):Bool:=hasP a nm&&hasP b nm&&(match a[aL a nm]?,b[aL b nm]? with
 | some x,some y=>rY x y&&decide (x.on=y.on)
 | _,_=>false)
def jw(a b:List ah)(l:List ByteArray):List ByteArray:=l.filter fun nm=>!sameIn a b nm
theorem Em{a b:List ah}{l:List ByteArray}{k:Nat}(h:l[k]?=some nm):jw a b (l.take (k+1))=jw a b (l.take k)++(if sameIn a b nm then[]else[nm]):=by unfold jw;rw[List.take_add_one,h];cases hs:sameIn a b nm<;>simp[hs]
theorem vN{a b:List ah}(h:(hasP a nm&&hasP b nm)=false):sameIn a b nm=false:=by unfold sameIn;rw[h];rfl
theorem En{a b:List ah}{x y:ah}(c:hasP a nm=true)(d:hasP b nm=true)(hx:a[aL a nm]?=some x)(f:b[aL b nm]?=some y):sameIn a b nm=(rY x y&&decide (x.on=y.on)):=by unfold sameIn;rw[c,d,hx,f];rfl
def lC(a b:List ah):List ByteArray:=fv (a.map ah.name++b.map ah.name)
def Eo(a b:List ah)(w:World)(e:Ending)(w':World):Prop:=∃v,e=.returned (.tuple #[v,iv 0])∧BW w w'∧w'.ownsRow w.heap.size 9 1 v (jw a b (lC a b)).length ((jw a b (lC a b)).map .string)
theorem vO{ms:List aj}{cs:List ao}{day:Int}{w w':World}{e:Ending}(d:bS (ab ms) (an cs))(g:inB 0 40000 day=true)(h:mj ms cs day w e w'):∃(out:List aj) (A:Option Addr) (c:Nat),e=.returned (.tuple #[.agg #[.slice A out.length c],iv 0])∧BW w w'∧ab out=aA day (ab ms) (an cs)∧az w' w'.heap.size A c out:=by obtain⟨r,A,n,c,rfl,f,a,b⟩:=h;obtain rfl:=a.2 ⟨d,g⟩;obtain⟨out,rfl,h3,h4⟩:=b rfl;exact⟨out,A,c,rfl,f,h3,h4⟩
theorem Ep(A C T U:Option Addr)(ms u:List aj)(cs t:List ao)(cap o q f:Nat)(day:Int)(w:World)(H:fF w A C cap o ms cs)(H':fF w T U q f u t)(hP:bS (ab ms) (an cs))(ai:bS (ab u) (an t))(hd:inB 0 40000 day=true)(h0:0<(aA day (ab ms) (an cs)).length) :
  Cs 43 #[.agg #[.slice A ms.length cap,.slice C cs.length o],.agg #[.slice T u.length q,.slice U t.length f],iv day] w (Eo (aA day (ab ms) (an cs)) (aA day (ab u) (an t)) w):=by
 obtain⟨W1,aD,b1⟩:=nA w (.cells #[.slice A ms.length cap,.slice C cs.length o] 27);obtain⟨W2,hW2,b2⟩:=nA W1 (.cells #[.slice T u.length q,.slice U t.length f] 27);obtain⟨g3,hg3⟩:=ex w.heap.size;obtain⟨g4,hg4⟩:=ex W1.heap.size;have q1:aa W1 g3 27 #[.slice A ms.length cap,.slice C cs.length o]:=by rw[←aD,←hg3];exact aa.new w 27 _
 have q2:aa W2 g4 27 #[.slice T u.length q,.slice U t.length f]:=by rw[←hW2,←hg4];exact aa.new W1 27 _
 have b3:=bT b1 b2;have HPA:Hid (∀W,BW W2 W→fF W A C cap o ms cs):=Lq fun W d=>H.below (bT b3 d)
 have aM:Hid (∀W,BW W2 W→fF W T U q f u t):=Lq fun W d=>H'.below (bT b3 d)
 have aI:Hid (Cs 93 #[.agg #[.slice A ms.length cap,.slice C cs.length o]] W2 (nY (bS (ab ms) (an cs)) W2)):=Lq (let h:=HPA.out W2 (bR _);rH A C ms cs W2.heap.size cap o W2 (lr _) h.sl h.ch h.wf);have HOA:Hid (∀W,BW W2 W→Cs 12 #[.agg #[.slice A ms.length cap,.slice C cs.length o],iv day] W (mj ms cs day W)):=Lq fun W d=>let h:=HPA.out W d;pB A C ms cs W.heap.size cap o day W (lr _) h.sl h.ch h.wf
 have aK:Hid (∀W,BW W2 W→Cs 12 #[.agg #[.slice T u.length q,.slice U t.length f],iv day] W (mj u t day W)):=Lq fun W d=>let h:=aM.out W d;pB T U u t W.heap.size q f day W (lr _) h.sl h.ch h.wf
 have HX:Hid (∀W,BW W2 W→W.cell? ⟨g3,0,none⟩=some (.slice A ms.length cap)∧W.cell? ⟨g3,1,none⟩=some (.slice C cs.length o)∧W.cell? ⟨g4,0,none⟩=some (.slice T u.length q)∧W.cell? ⟨g4,1,none⟩=some (.slice U t.length f)):=Lq fun W d=>have k:=q1.keep (bT b2 d);have k2:=q2.keep d;⟨k.c 0,k.c 1,k2.c 0,k2.c 1⟩
 obtain⟨B,R⟩:=ex (aA day (ab ms) (an cs));obtain⟨lb,hlb⟩:=ex (aA day (ab u) (an t));have hoka:aE B:=R▸kT hP day;have hokb:aE lb:=hlb▸kT ai day;have HOKA:=Lq hoka;have HOKB:=Lq hokb;rw[R]at h0 ⊢;rw[hlb];have HLA:=Lq R;have HLB:=Lq hlb;have H0:=Lq h0;have HPP:=Lq hP;have HPP':=Lq ai;have HD:=Lq hd;have HB3:=Lq b3;obtain⟨i9,hi9,hz90,hz91,hz92⟩:=info_parts Tryz.info9;obtain⟨x0,x1,x2,x3⟩:=HX.out _ (bR W2);clear H H' b1 b2 b3 q1 q2 R hlb h0 hP ai hd hoka hokb;go_enter Tryz.func43,Tryz.ntmps43
 go_wp2_with fail
 go_step3
 go_wp2_with fail;refine aI.out.mono ?_;rintro e w3 ⟨rp,ri,r,rfl,ae,d⟩;obtain rfl:=ae.2 HPP.out;have HB23:=Lq d;clear d ae x0 x1 x2 x3 aD hW2 hg3 hg4;obtain⟨x0,x1,x2,x3⟩:=HX.out _ HB23.out;go_wp2_with fail;refine(aK.out _ HB23.out).mono ?_;intro e w4 hop;obtain⟨outb,Ab,cb,rfl,d,hpb,hslb⟩:=vO HPP'.out HD.out hop;obtain⟨Wa,W5,hWa,hW5,hb5,hqa,hba,hq5⟩:=gg w4 62 (.slice none 0 0) (.slice Ab outb.length cb);obtain⟨g8,hg8⟩:=ex w4.heap.size;rw[hg8]at hW5 hqa hq5;have HB25:=Lq (bT HB23.out (bT d hb5));have HQ8:=Lq hq5;have HSB:=Lq ((hslb.below hb5 (lr _)).more hb5.size);have HPSB:Hid (ab outb=lb):=Lq (hpb.trans HLB.out);have af:=hqa.frozen 0;have ac:=hqa.c 0;have al:=hqa.lt;clear hop d hpb hslb hb5 hqa hba hq5 x0 x1 x2 x3;obtain⟨x0,x1,x2,x3⟩:=HX.out _ HB25.out;go_wp2_with fail;clear af ac al hWa hW5 hg8;refine(HOA.out _ HB25.out).mono ?_;intro e w6 hop;obtain⟨outa,Aa,ca,rfl,d,hpa,hsla⟩:=vO HPP.out HD.out hop;obtain⟨Wb,W7,hWb,hW7,hb7,hqb,hbb,hq7⟩:=gg w6 62 (.slice none 0 0) (.slice Aa outa.length ca);obtain⟨g9,z⟩:=ex w6.heap.size;rw[z]at hW7 hqb hq7;have hb57:=bT d hb7;have HB27:=Lq (bT HB25.out hb57);have HQ9:=Lq hq7;have HQ8':=Lq (HQ8.out.keep hb57);have HSA:=Lq ((hsla.below hb7 (lr _)).more hb7.size);have HSB':=Lq ((HSB.out.below hb57 (lr _)).more hb57.size);have HPSA:Hid (ab outa=B):=Lq (hpa.trans HLA.out);have af:=hqb.frozen 0;have ac:=hqb.c 0;have al:=hqb.lt;have a8:=HQ8'.out.c 0;have a9:=hq7.c 0;clear hop d hpa hsla hb7 hqb hbb hq7 hb57 x0 x1 x2 x3;have h12a:outa.length≤12:=by have h:=HOKA.out.len;rw[←HPSA.out]at h;simpa using h
 have aW:outb.length≤12:=by have h:=HOKB.out.len;rw[←HPSB.out]at h;simpa using h
 go_wp2_with fail
 go_step3
 go_wp2_with fail;clear af ac al a8 a9 hWb hW7 z;obtain⟨W8,ak,E⟩:=nA W7 (.cells #[.slice Aa outa.length ca,.slice Ab outb.length cb] 62);have hq8:aa W8 W7.heap.size 62 #[.slice Aa outa.length ca,.slice Ab outb.length cb]:=by rw[←ak];exact aa.new W7 62 _
 obtain⟨gr,aq⟩:=ex W7.heap.size;rw[aq]at hq8;rw[ak,aq];have HNM:Hid (Cs 94 #[.slice (some ⟨gr,0,none⟩) 2 2] W8 fun e w'=>∃g c,e=.returned (.slice (some ⟨g,0,none⟩) (lC B lb).length c)∧am .string w' w'.heap.size (some ⟨g,0,none⟩) (lC B lb)∧(lC B lb).length≤c∧c≤maxLen∧BW W8 w'):=by
  have J:bU [⟨outa,Aa,ca⟩,⟨outb,Ab,cb⟩]=B.map ah.name++lb.map ah.name:=by unfold bU mX;simp only[List.flatMap_cons,List.flatMap_nil,List.append_nil,HPSA.out,HPSB.out]
  have h:=vw (some ⟨gr,0,none⟩) [⟨outa,Aa,ca⟩,⟨outb,Ab,cb⟩] W8.heap.size 2 W8 (lr _) (by unfold maxLen;simp) ⟨fun i x hx=>by
    match i,hx with
    | 0,hx=>simp at hx;subst hx;exact⟨gr,0,rfl,hq8.lt,hq8.c 0⟩
    | 1,hx=>simp at hx;subst hx;exact⟨gr,0,rfl,hq8.lt,hq8.c 1⟩
    | n+2,hx=>simp at hx,fun s hs=>by
    simp only[List.mem_cons,List.not_mem_nil,or_false]at hs;rcases hs with rfl | rfl
    ·exact(HSA.out.below E (lr _)).more E.size
    ·exact(HSB'.out.below E (lr _)).more E.size⟩ (by rw[J,List.length_append,List.length_map];have:=H0.out;omega) (by rw[J,List.length_append,List.length_map,List.length_map,←HPSA.out,←HPSB.out];simp only[ab,List.length_map];omega)
  rw[J]at h;exact Lq h
 have aZ:=Lq (bT HB27.out E);have HB78:=Lq E;clear E hq8 ak aq;refine HNM.out.mono ?_;rintro e w9 ⟨gn,cn,rfl,hrd,hln,hcn,d⟩;obtain⟨NL,hNL⟩:=ex (lC B lb);have HNL:=Lq hNL;have hNL2:=hNL;simp only[hNL]at hrd hln ⊢;have HRD:=Lq hrd;have HRDW:Hid (∀W,BW w9 W→am .string W W.heap.size (some ⟨gn,0,none⟩) NL):=Lq fun W d=>(hrd.below d (lr _)).more d.size
 have V:=Lq (bT HB78.out d);have hnl9:NL.length≤9223372036854775807:=by simp only[maxLen]at hcn;omega
 have aS:NL.length≤24:=by rw[←hNL2];refine lT (rX _) ?_;rw[List.length_append,List.length_map,List.length_map,←HPSA.out,←HPSB.out];simp only[ab,List.length_map];omega
 have X:=Lq (bT HB3.out (bT HB27.out V.out));clear hrd d hNL hNL2 HNM hln hcn;go_wp2_with fail;go_loopw [6,46] (fun v i wr=>∃j:Nat,j≤NL.length∧i=iv j∧Hid (wr.ownsRow w9.heap.size 9 1 v (jw B lb (NL.take j)).length ((jw B lb (NL.take j)).map .string))∧Hid (BW w9 wr)) (fun _ i _=>NL.length-(intOf i).toNat)
 case atStart=>exact⟨0,Nat.zero_le _,rfl,Lq (by simp only[List.take_zero,jw,List.filter_nil,List.length_nil,List.map_nil];exact World.ownsRow_nil _ _ _ _),Lq (bR _)⟩
 case round =>
  obtain⟨j,hj,rfl,aB,N⟩:=hrel;have hj0:=nn j;by_cases hlt:j<NL.length
  ·obtain⟨nm,ar⟩:=gX (l:=NL) (i:=j) hlt;obtain⟨b,off,hA,_,c0⟩:=(HRDW.out wr N.out) j nm ar;injection hA with hA
   injection hA with e1 e2
   subst e1 e2;rw[Nat.zero_add]at c0;have O:=Lq (Em (a:=B) (b:=lb) ar);have HLN:Hid ((jw B lb (NL.take j)).length≤j):=Lq (by unfold jw;exact lT (List.length_filter_le _ _) (by rw[List.length_take];omega))
   obtain⟨ra,K⟩:=ex (ct B nm);obtain⟨rb,L⟩:=ex (ct lb nm);have HFA:Hid (∀W,BW W7 W→Cs 88 #[.pointer (some ⟨g9,0,none⟩),.string nm] W (Rt W (iv ra))):=Lq fun W d=>by have h2:=(HSA.out.below d (lr _)).more d.size;have h3:=jK Aa outa W.heap.size ca g9 nm W (lr _) (lT h2.le h2.max) h2.rd ((HQ9.out.keep d).c 0);rw[HPSA.out,K]at h3;exact h3
   have aJ:Hid (∀W,BW W7 W→Cs 88 #[.pointer (some ⟨g8,0,none⟩),.string nm] W (Rt W (iv rb))):=Lq fun W d=>by have h2:=(HSB'.out.below d (lr _)).more d.size;have h3:=jK Ab outb W.heap.size cb g8 nm W (lr _) (lT h2.le h2.max) h2.rd ((HQ8'.out.keep d).c 0);rw[HPSB.out,L]at h3;exact h3
   have ag:=Lq K;have KRB:=Lq L;have HB7R:=Lq (bT V.out N.out);clear ar K L;go_wp2_with fail;refine(HFA.out _ HB7R.out).mono ?_;rintro e w10 ⟨rfl,d⟩;have HB10:=Lq d;have HB710:=Lq (bT HB7R.out d);clear d c0;go_wp2_with fail;refine(aJ.out _ HB710.out).mono ?_;rintro e w11 ⟨rfl,d⟩;have HB11:=Lq (bT HB10.out d);have HB711:=Lq (bT HB710.out d);have HB911:=Lq (bT N.out HB11.out);clear d;have HRW11:=Lq (aN aB.out HB11.out);by_cases ha:hasP B nm=true
   ·by_cases d:hasP lb nm=true
    ·obtain⟨aw,aH,x,hx,_⟩:=fU ha;obtain⟨pb1,pb2,y,hy,_⟩:=fU d;rw[ag.out]at aw;rw[KRB.out]at pb1;have HSN:=Lq (En ha d hx hy);obtain⟨ia,hia⟩:=ex (aL B nm);obtain⟨ib,hib⟩:=ex (aL lb nm);rw[hia]at aw aH hx;rw[hib]at pb1 pb2 hy;subst aw pb1;obtain⟨xm,hxm,hxp⟩:∃xm,outa[ia]?=some xm∧xm.p=x:=by
      rw[←HPSA.out,List.getElem?_map]at hx;cases hc:outa[ia]? with
      | none=>rw[hc]at hx;cases hx
      | some xm=>rw[hc]at hx;injection hx with hx;exact⟨xm,rfl,hx⟩
     obtain⟨ym,S,aT⟩:∃ym,outb[ib]?=some ym∧ym.p=y:=by
      rw[←HPSB.out,List.getElem?_map]at hy;cases hc:outb[ib]? with
      | none=>rw[hc]at hy;cases hy
      | some ym=>rw[hc]at hy;injection hy with hy;exact⟨ym,rfl,hy⟩
     subst hxp aT;have au:∀W,BW w11 W→az W W.heap.size Aa ca outa:=fun W d=>let h:=bT HB711.out d;(HSA.out.below h (lr _)).more h.size
     have av:∀W,BW w11 W→az W W.heap.size Ab cb outb:=fun W d=>let h:=bT HB711.out d;(HSB'.out.below h (lr _)).more h.size
     have G:Hid (∀W,BW w11 W→aR W W.heap.size xm):=Lq fun W d=>(au W d).rd.ok xm (mG ⟨ia,hxm⟩)
     have I:Hid (∀W,BW w11 W→aR W W.heap.size ym):=Lq fun W d=>(av W d).rd.ok ym (mG ⟨ib,S⟩)
     obtain⟨Y,oa,aC,_,_,c0,c1,c2,c3,c4,c5,c6⟩:=(au w11 (bR _)).rd.at hxm;obtain⟨bb,ob,hAb,_,_,e0,e1,e2,e3,e4,e5,e6⟩:=(av w11 (bR _)).rd.at S;obtain⟨⟨xn,xk,xf,xl,xon,xw,xz⟩,xA,xc⟩:=xm;obtain⟨⟨yn,yk,yf,yl,yon,yw,yz⟩,yA,yc⟩:=ym;have h9:=(HQ9.out.keep HB711.out).c 0;have h8:=(HQ8'.out.keep HB711.out).c 0;rw[aC]at h9;rw[hAb]at h8;simp only at c0 c1 c2 c3 c4 c5 c6 e0 e1 e2 e3 e4 e5 e6 G I HSN;have hia2:ia<outa.length:=(lG hxm);have hib2:ib<outb.length:=(lG S);have HIL:Hid (ia<outa.length∧ib<outb.length):=Lq ⟨hia2,hib2⟩;have HCL:Hid (∀W,BW w11 W→W.cell? ⟨g9,0,none⟩=some (.slice (some ⟨Y,oa,none⟩) outa.length ca)∧W.cell? ⟨g8,0,none⟩=some (.slice (some ⟨bb,ob,none⟩) outb.length cb)∧W.cell? ⟨Y,oa+ia*7,none⟩=some (.string xn)∧W.cell? ⟨Y,oa+ia*7+1,none⟩=some (iv xk)∧W.cell? ⟨Y,oa+ia*7+2,none⟩=some (iv xf)∧W.cell? ⟨Y,oa+ia*7+3,none⟩=some (iv xl)∧W.cell? ⟨Y,oa+ia*7+4,none⟩=some (.slice xA xon.length xc)∧W.cell? ⟨Y,oa+ia*7+5,none⟩=some (iv xw)∧W.cell? ⟨Y,oa+ia*7+6,none⟩=some (iv xz)∧W.cell? ⟨bb,ob+ib*7,none⟩=some (.string yn)∧W.cell? ⟨bb,ob+ib*7+1,none⟩=some (iv yk)∧W.cell? ⟨bb,ob+ib*7+2,none⟩=some (iv yf)∧W.cell? ⟨bb,ob+ib*7+3,none⟩=some (iv yl)∧W.cell? ⟨bb,ob+ib*7+4,none⟩=some (.slice yA yon.length yc)∧W.cell? ⟨bb,ob+ib*7+5,none⟩=some (iv yw)∧W.cell? ⟨bb,ob+ib*7+6,none⟩=some (iv yz)):=Lq fun W d=>⟨kC d h9,kC d h8,kC d c0,kC d c1,kC d c2,kC d c3,kC d c4,kC d c5,kC d c6,kC d e0,kC d e1,kC d e2,kC d e3,kC d e4,kC d e5,kC d e6⟩
     obtain⟨bq,ap⟩:=ex (rY (ah.mk xn xk xf xl xon xw xz) (ah.mk yn yk yf yl yon yw yz));obtain⟨be,hbe⟩:=ex (decide (xon=yon));have HEQ:Hid (∀W,BW w11 W→Cs 96 #[.slice xA xon.length xc,.slice yA yon.length yc] W (Rt W (.bool be))):=Lq fun W d=>hbe▸El xA yA xon yon W.heap.size xc yc W (lT (G.out W d).le (G.out W d).cm) (lT (I.out W d).le (I.out W d).cm) (G.out W d).on (I.out W d).on
     have ax:Hid ((xn.toList==yn.toList&&xk==yk&&xf==yf&&xl==yl&&xw==yw&&xz==yz)=bq):=Lq ap;have HSN2:Hid (sameIn B lb nm=(bq&&be)):=Lq (by rw[HSN.out,ap,hbe])
     have aX:=nn ia;have hib0:=nn ib;clear ha d hx hy hia hib aH pb2 hxm S au av c0 c1 c2 c3 c4 c5 c6 e0 e1 e2 e3 e4 e5 e6 h9 h8 hia2 hib2 ap hbe HSN G I aC hAb;go_wp2_with fail;go_upto_region 13 with fail
     refine DX HIL HCL (Lq ?_);intro a0 a1 a2 a3 a4 a5 a6 a7 bc bd bf bg gx gy aU Z aO aP aQ aF aG;have HB12:=Lq Z;have HSX:Hid (∀W,BW aU W→W.cell? ⟨gx,0,none⟩=some (.string xn)∧W.cell? ⟨gx,1,none⟩=some (iv xk)∧W.cell? ⟨gx,2,none⟩=some (iv xf)∧W.cell? ⟨gx,3,none⟩=some (iv xl)∧W.cell? ⟨gx,4,none⟩=some (.slice xA xon.length xc)∧W.cell? ⟨gx,5,none⟩=some (iv xw)∧W.cell? ⟨gx,6,none⟩=some (iv xz)∧W.cell? ⟨gy,0,none⟩=some (.string yn)∧W.cell? ⟨gy,1,none⟩=some (iv yk)∧W.cell? ⟨gy,2,none⟩=some (iv yf)∧W.cell? ⟨gy,3,none⟩=some (iv yl)∧W.cell? ⟨gy,4,none⟩=some (.slice yA yon.length yc)∧W.cell? ⟨gy,5,none⟩=some (iv yw)∧W.cell? ⟨gy,6,none⟩=some (iv yz)):=Lq fun W d=>have k:=aF.keep d;have k2:=aG.keep d;⟨k.c 0,k.c 1,k.c 2,k.c 3,k.c 4,k.c 5,k.c 6,k2.c 0,k2.c 1,k2.c 2,k2.c 3,k2.c 4,k2.c 5,k2.c 6⟩
     clear Z aO aP aQ aF aG;go_upto_region 14 with fail
     refine DZ HSX ax (Lq fun W d=>HEQ.out W (bT HB12.out d)) (Lq fun W=>rz ⟨⟨xn,xk,xf,xl,xon,xw,xz⟩,xA,xc⟩ W) (Lq fun W=>rz ⟨⟨yn,yk,yf,yl,yon,yw,yz⟩,yA,yc⟩ W) (Lq ?_)
     intro bh bi bj bk bl bm bn bo bp br bt aV ad;have HB13:=Lq (bT HB12.out ad);have HRW13:=Lq (aN HRW11.out HB13.out);have HB713:=Lq (bT HB711.out HB13.out);have HB913:=Lq (bT HB911.out HB13.out);clear ad;obtain⟨bs,hbs⟩:=ex (bq&&be);rw[hbs]at HSN2 ⊢;clear hbs ax HEQ;cases bs with
     | true =>
      go_wp2_with fail;go_roundw
      case measure=>simp[intOf];omega
      case rel =>
       refine⟨j+1,by omega,by go_num,Lq ?_,HB913⟩
       rw[O.out,HSN2.out]
       simpa using HRW13.out
     | false =>
      have F:Hid ((if sameIn B lb nm=true then[]else[nm])=[nm]):=Lq (by rw[HSN2.out];rfl)
      have D:=Lq (HRW13.out.alloc (.cells #[.string nm] 9));have hln:=HLN.out;have HBA:=Lq (HB913.out);go_wp2_with (at_builtin;refine wpList_append_own _ rfl _ _ 40 rfl w9.heap.size 9 i9 (.string ⟨#[]⟩) 1 16 Tryz.underlying40 hi9 hz90 hz91 hz92 rfl (by decide) _ _ _ rfl D.out ⟨aV.heap.size,0,none⟩ 1 1 [.string nm] rfl rfl (fK _ _ _) ?d2 ?d3 ?d4 ?d5 ?_)
      case d2=>simp[Value.oneCell']
      case d3=>unfold maxLen;omega
      case d4=>omega
      case d5=>have:=HBA.out.size;(try simp only[World.size_alloc]);omega
      intro v9 M m z _;have hb9:BW w9 M:=cC D.out z (lr _) (bA HBA.out _);have HB20:=Lq hb9;have HO9:=Lq m;clear m z hb9;go_wp2_with fail;go_roundw
      case measure=>simp[intOf];omega
      case rel =>
       refine⟨j+1,by omega,by go_num,Lq ?_,HB20⟩
       rw[O.out,F.out]
       simpa using HO9.out
    ·have L:rb = -1:=by rw[←KRB.out];exact kY (by simpa using d)
     have aY:0≤ra:=by rw[←ag.out,(fU ha).1];omega
     have F:Hid ((if sameIn B lb nm=true then[]else[nm])=[nm]):=Lq (by rw[vN (by simp[d])];rfl)
     subst L;clear ha d;have D:=Lq (HRW11.out.alloc (.cells #[.string nm] 9));have hln:=HLN.out;have HBA:=Lq (HB911.out);go_wp2_with (at_builtin;refine wpList_append_own _ rfl _ _ 40 rfl w9.heap.size 9 i9 (.string ⟨#[]⟩) 1 16 Tryz.underlying40 hi9 hz90 hz91 hz92 rfl (by decide) _ _ _ rfl D.out ⟨w11.heap.size,0,none⟩ 1 1 [.string nm] rfl rfl (fK _ _ _) ?d2 ?d3 ?d4 ?d5 ?_)
     case d2=>simp[Value.oneCell']
     case d3=>unfold maxLen;omega
     case d4=>omega
     case d5=>have:=HBA.out.size;(try simp only[World.size_alloc]);omega
     intro v9 M m z _;have hb9:BW w9 M:=cC D.out z (lr _) (bA HBA.out _);have HB20:=Lq hb9;have HO9:=Lq m;clear m z hb9;go_wp2_with fail;go_roundw
     case measure=>simp[intOf];omega
     case rel =>
      refine⟨j+1,by omega,by go_num,Lq ?_,HB20⟩
      rw[O.out,F.out]
      simpa using HO9.out
   ·have K:ra = -1:=by rw[←ag.out];exact kY (by simpa using ha)
    have F:Hid ((if sameIn B lb nm=true then[]else[nm])=[nm]):=Lq (by rw[vN (by simp[ha])];rfl)
    subst K;clear ha;have D:=Lq (HRW11.out.alloc (.cells #[.string nm] 9));have hln:=HLN.out;have HBA:=Lq (HB911.out);go_wp2_with (at_builtin;refine wpList_append_own _ rfl _ _ 40 rfl w9.heap.size 9 i9 (.string ⟨#[]⟩) 1 16 Tryz.underlying40 hi9 hz90 hz91 hz92 rfl (by decide) _ _ _ rfl D.out ⟨w11.heap.size,0,none⟩ 1 1 [.string nm] rfl rfl (fK _ _ _) ?d2 ?d3 ?d4 ?d5 ?_)
    case d2=>simp[Value.oneCell']
    case d3=>unfold maxLen;omega
    case d4=>omega
    case d5=>have:=HBA.out.size;(try simp only[World.size_alloc]);omega
    intro v9 M m z _;have hb9:BW w9 M:=cC D.out z (lr _) (bA HBA.out _);have HB20:=Lq hb9;have HO9:=Lq m;clear m z hb9;go_wp2_with fail;go_roundw
    case measure=>simp[intOf];omega
    case rel =>
     refine⟨j+1,by omega,by go_num,Lq ?_,HB20⟩
     rw[O.out,F.out]
     simpa using HO9.out
  ·obtain rfl:j=NL.length:=by omega
   go_wp2_with fail;rw[Exit.noGoto_ret]
   go_ret2
   refine⟨_,rfl,bT X.out N.out, ?_⟩;have h:=dv aB.out X.out.size;rw[List.take_of_length_le (lr _)]at h;rw[HNL.out];exact h
end
end Go.Proofs.YtbillnhcmkpohaaGreatDoor
