/- The reference: a region of Same (printed by mkHE4.py). The reference compares plans .. -/
import Derived.Test.YtbillnhcmkpohaaGreatDoorM19
set_option maxRecDepth 1000000
set_option maxHeartbeats 0
namespace Go.Proofs.YtbillnhcmkpohaaGreatDoor
open Go.RowKit
section
variable{xm xn ym yn:ByteArray}{Q:Exit→Act→World→Prop}{xd xf xk xl xw xw1 xz yd yf yk yl yw yw1 yz:Int}{ba bb ca cb g2 g3 gx gy k na nb oa ob xc xo yc yo:Nat}{xA yA:Option Addr}{zA zB zK zL zM zN zO zP zQ zR zS zT zU zV zW zX zY zZ za zb zc zd ze zf zg zh zi zE zt zu zv zw zx zF zy zz zAA zAB zAC zAD zAE zAF zAG zAH zAI zAJ zAK zAL zAM zAN zAO zAP zAQ zAR zH zAS zAT zI zJ:Value}{V w:World}
noncomputable def oH:Array Oper:=aU (aF Tryz.f57 5)
abbrev oI(V:World)(g2 g3 ba oa bb ob na nb ca cb k xo yo xc yc:Nat)(xn yn xm ym:ByteArray)(xw1 xd yw1 yd xk xf xl xw xz yk yf yl yw yz:Int)(xA yA:Option Addr):Prop:=∀W,BW V W→(fun W=>cA W g2 1 (.slice (some ⟨ba,oa,none⟩) na ca)∧cA W g3 1 (.slice (some ⟨bb,ob,none⟩) nb cb)∧cA W ba (oa+k*10) (iv xw1)∧cA W ba (oa+k*10+1) (iv xd)∧cA W ba (oa+k*10+2) (.string xm)∧cA W ba (oa+k*10+3) (.string xn)∧cA W ba (oa+k*10+4) (iv xk)∧cA W ba (oa+k*10+5) (iv xf)∧cA W ba (oa+k*10+6) (iv xl)∧cA W ba (oa+k*10+7) (.slice xA xo xc)∧cA W ba (oa+k*10+8) (iv xw)∧cA W ba (oa+k*10+9) (iv xz)∧cA W bb (ob+k*10) (iv yw1)∧cA W bb (ob+k*10+1) (iv yd)∧cA W bb (ob+k*10+2) (.string ym)∧cA W bb (ob+k*10+3) (.string yn)∧cA W bb (ob+k*10+4) (iv yk)∧cA W bb (ob+k*10+5) (iv yf)∧cA W bb (ob+k*10+6) (iv yl)∧cA W bb (ob+k*10+7) (.slice yA yo yc)∧cA W bb (ob+k*10+8) (iv yw)∧cA W bb (ob+k*10+9) (iv yz)) W
abbrev oJ(Q:Exit→Act→World→Prop)(V:World)(g2 g3 k xo yo xc yc:Nat)(xn yn xm ym:ByteArray)(xw1 xd yw1 yd xk xf xl xw xz yk yf yl yw yz:Int)(xA yA:Option Addr)(zA zB zE zF zJ zK zL zM zN zO zP zQ zR zS zT zU zV zW zX zY zZ za zb zc zd ze zf zg zh zi zt zu zv zw zx zy zz zAA zAB zAC zAD zAE zAF zAG zAH zAI zAJ zAK zAL zAM zAN zAO zAP zAQ zAR zAS zAT:Value):Prop:=∀u35 u36 u37 u38 u39 u40 u41 u42 u43 u44 gx gy W',BW V W'→V.heap.size≤gx→V.heap.size≤gy→gx≠gy→aa W' gx 68 #[iv xw1,iv xd,.string xm,.string xn,iv xk,iv xf,iv xl,.slice xA xo xc,iv xw,iv xz]→aa W' gy 68 #[iv yw1,iv yd,.string ym,.string yn,iv yk,iv yf,iv yl,.slice yA yo yc,iv yw,iv yz]→Q .normal ⟨(zA::zB::.pointer (some ⟨g2,0,none⟩)::.pointer (some ⟨g3,0,none⟩)::zE::zF::iv k::.pointer (some ⟨gx,0,none⟩)::.pointer (some ⟨gy,0,none⟩)::zJ::zK::zL::zM::zN::zO::zP::zQ::zR::zS::zT::zU::zV::zW::zX::zY::zZ::za::zb::zc::zd::ze::zf::zg::zh::zi::u35::u36::u37::u38::u39::u40::u41::u42::u43::u44::zt::zu::zv::zw::zx::zy::zz::zAA::zAB::zAC::zAD::zAE::zAF::zAG::zAH::zAI::zAJ::zAK::zAL::zAM::zAN::zAO::zAP::zAQ::zAR::zAS::zAT::[]).toArray,[]⟩ W'
abbrev yJ(V:World)(gx:Nat)(w:World):Prop:=V.heap.size≤gx∧aa w gx 68 #[iv 0,iv 0,.string ⟨#[]⟩,.string ⟨#[]⟩,iv 0,iv 0,iv 0,.slice none 0 0,iv 0,iv 0]
abbrev yK(V:World)(gy:Nat)(w:World):Prop:=V.heap.size≤gy∧aa w gy 68 #[iv 0,iv 0,.string ⟨#[]⟩,.string ⟨#[]⟩,iv 0,iv 0,iv 0,.slice none 0 0,iv 0,iv 0]
theorem yL(t:Hid (k<na∧k<nb))(r:Hid (oI V g2 g3 ba oa bb ob na nb ca cb k xo yo xc yc xn yn xm ym xw1 xd yw1 yd xk xf xl xw xz yk yf yl yw yz xA yA))(u:Hid (oJ Q V g2 g3 k xo yo xc yc xn yn xm ym xw1 xd yw1 yd xk xf xl xw xz yk yf yl yw yz xA yA zA zB zE zF zJ zK zL zM zN zO zP zQ zR zS zT zU zV zW zX zY zZ za zb zc zd ze zf zg zh zi zt zu zv zw zx zy zz zAA zAB zAC zAD zAE zAF zAG zAH zAI zAJ zAK zAL zAM zAN zAO zAP zAQ zAR zAS zAT))(s:Hid (BW V w))(a:Hid (yJ V gx w))(d:Hid (yK V gy w))(f:Hid (gx≠gy)) :
  wpAnyH Tryz.prog .any oH (NoPanic Q) (fun W=>cA W g2 1 (.slice (some ⟨ba,oa,none⟩) na ca)∧cA W g3 1 (.slice (some ⟨bb,ob,none⟩) nb cb)∧cA W ba (oa+k*10) (iv xw1)∧cA W ba (oa+k*10+1) (iv xd)∧cA W ba (oa+k*10+2) (.string xm)∧cA W ba (oa+k*10+3) (.string xn)∧cA W ba (oa+k*10+4) (iv xk)∧cA W ba (oa+k*10+5) (iv xf)∧cA W ba (oa+k*10+6) (iv xl)∧cA W ba (oa+k*10+7) (.slice xA xo xc)∧cA W ba (oa+k*10+8) (iv xw)∧cA W ba (oa+k*10+9) (iv xz)∧cA W bb (ob+k*10) (iv yw1)∧cA W bb (ob+k*10+1) (iv yd)∧cA W bb (ob+k*10+2) (.string ym)∧cA W bb (ob+k*10+3) (.string yn)∧cA W bb (ob+k*10+4) (iv yk)∧cA W bb (ob+k*10+5) (iv yf)∧cA W bb (ob+k*10+6) (iv yl)∧cA W bb (ob+k*10+7) (.slice yA yo yc)∧cA W bb (ob+k*10+8) (iv yw)∧cA W bb (ob+k*10+9) (iv yz)) 2 #[true,true,true,true,true,true,true,true,true,true,true,true,false,false] ⟨(zA::zB::.pointer (some ⟨g2,0,none⟩)::.pointer (some ⟨g3,0,none⟩)::zE::zF::iv k::.pointer (some ⟨gx,0,none⟩)::.pointer (some ⟨gy,0,none⟩)::zJ::zK::zL::zM::zN::zO::zP::zQ::zR::zS::zT::zU::zV::zW::zX::zY::zZ::za::zb::zc::zd::ze::zf::zg::zh::zi::.pointer (some ⟨g2,1,none⟩)::.slice (some ⟨ba,oa,none⟩) na ca::iv k::.pointer (some ⟨ba,oa+k*10,none⟩)::.agg #[iv xw1,iv xd,.string xm,.string xn,iv xk,iv xf,iv xl,.slice xA xo xc,iv xw,iv xz]::.pointer (some ⟨g3,1,none⟩)::.slice (some ⟨bb,ob,none⟩) nb cb::iv k::.pointer (some ⟨bb,ob+k*10,none⟩)::.agg #[iv yw1,iv yd,.string ym,.string yn,iv yk,iv yf,iv yl,.slice yA yo yc,iv yw,iv yz]::zt::zu::zv::zw::zx::zy::zz::zAA::zAB::zAC::zAD::zAE::zAF::zAG::zAH::zAI::zAJ::zAK::zAL::zAM::zAN::zAO::zAP::zAQ::zAR::zAS::zAT::[]).toArray,[]⟩ w:=by
 have x:=t;have hne:gx≠gy:=f.out;refine rd1 12 fun v hK=>?_
 obtain⟨g,h,i,j,l,m,n,o,p,q⟩:=a.out.2.f10;obtain⟨e0,e1,e2,e3,e4,e5,e6,e7,e8,e9⟩:=a.out.2.c10;have el:=a.out.2.lt;obtain⟨w1,hw1⟩:=ex ((((((((((w.setCell ⟨gx,0,none⟩ (iv xw1)).setCell ⟨gx,1,none⟩ (iv xd)).setCell ⟨gx,2,none⟩ (.string xm)).setCell ⟨gx,3,none⟩ (.string xn)).setCell ⟨gx,4,none⟩ (iv xk)).setCell ⟨gx,5,none⟩ (iv xf)).setCell ⟨gx,6,none⟩ (iv xl)).setCell ⟨gx,7,none⟩ (.slice xA xo xc)).setCell ⟨gx,8,none⟩ (iv xw)).setCell ⟨gx,9,none⟩ (iv xz));have o1:ai w w1 gx:=by rw[←hw1];exact(((((((((((ai.of_below (bR w) gx).set 0 _).set 1 _).set 2 _).set 3 _).set 4 _).set 5 _).set 6 _).set 7 _).set 8 _).set 9 _)
 have b:aa w1 gx 68 #[iv xw1,iv xd,.string xm,.string xn,iv xk,iv xf,iv xl,.slice xA xo xc,iv xw,iv xz]:=by rw[←hw1];exact px _ _ _ _ _ _ _ _ _ _ a.out.2
 have c:=d.out.2.same (o1.block gy d.out.2.lt (Ne.symm hne));have HB1:Hid (BW V w1):=Lq (o1.below s.out a.out.1);have HX1:=Lq b;have HY1:=Lq c;clear b c o1;go_simp;refine hK.out _ _ (r.out _ HB1.out) (fun _=>?_)
 clear hK hw1 g h i j l m n o p q e0 e1 e2 e3 e4 e5 e6 e7 e8 e9 el;refine rd1 13 fun v hK=>?_
 obtain⟨g,h,i,j,l,m,n,o,p,q⟩:=HY1.out.f10;obtain⟨e0,e1,e2,e3,e4,e5,e6,e7,e8,e9⟩:=HY1.out.c10;have el:=HY1.out.lt;obtain⟨w2,hw2⟩:=ex ((((((((((w1.setCell ⟨gy,0,none⟩ (iv yw1)).setCell ⟨gy,1,none⟩ (iv yd)).setCell ⟨gy,2,none⟩ (.string ym)).setCell ⟨gy,3,none⟩ (.string yn)).setCell ⟨gy,4,none⟩ (iv yk)).setCell ⟨gy,5,none⟩ (iv yf)).setCell ⟨gy,6,none⟩ (iv yl)).setCell ⟨gy,7,none⟩ (.slice yA yo yc)).setCell ⟨gy,8,none⟩ (iv yw)).setCell ⟨gy,9,none⟩ (iv yz));have o2:ai w1 w2 gy:=by rw[←hw2];exact(((((((((((ai.of_below (bR w1) gy).set 0 _).set 1 _).set 2 _).set 3 _).set 4 _).set 5 _).set 6 _).set 7 _).set 8 _).set 9 _)
 have b:aa w2 gy 68 #[iv yw1,iv yd,.string ym,.string yn,iv yk,iv yf,iv yl,.slice yA yo yc,iv yw,iv yz]:=by rw[←hw2];exact px _ _ _ _ _ _ _ _ _ _ HY1.out
 have c:=HX1.out.same (o2.block gx HX1.out.lt hne);have HB2:Hid (BW V w2):=Lq (o2.below HB1.out d.out.1);have HX2:=Lq c;have HY2:=Lq b;clear b c o2;go_simp;refine hK.out _ _ (r.out _ HB2.out) (fun _=>?_)
 clear hK hw2 g h i j l m n o p q e0 e1 e2 e3 e4 e5 e6 e7 e8 e9 el;exact dn (u.out _ _ _ _ _ _ _ _ _ _ _ _ _ HB2.out a.out.1 d.out.1 hne HX2.out HY2.out)
theorem GG(h:Hid (k<na∧k<nb))(g:Hid (oI V g2 g3 ba oa bb ob na nb ca cb k xo yo xc yc xn yn xm ym xw1 xd yw1 yd xk xf xl xw xz yk yf yl yw yz xA yA))(i:Hid (oJ Q V g2 g3 k xo yo xc yc xn yn xm ym xw1 xd yw1 yd xk xf xl xw xz yk yf yl yw yz xA yA zA zB zE zF zJ zK zL zM zN zO zP zQ zR zS zT zU zV zW zX zY zZ za zb zc zd ze zf zg zh zi zt zu zv zw zx zy zz zAA zAB zAC zAD zAE zAF zAG zAH zAI zAJ zAK zAL zAM zAN zAO zAP zAQ zAR zAS zAT))(f:Hid (BW V w))(b:Hid (yJ V gx w)) :
  wpAnyH Tryz.prog .any oH (NoPanic Q) (fun W=>cA W g2 1 (.slice (some ⟨ba,oa,none⟩) na ca)∧cA W g3 1 (.slice (some ⟨bb,ob,none⟩) nb cb)∧cA W ba (oa+k*10) (iv xw1)∧cA W ba (oa+k*10+1) (iv xd)∧cA W ba (oa+k*10+2) (.string xm)∧cA W ba (oa+k*10+3) (.string xn)∧cA W ba (oa+k*10+4) (iv xk)∧cA W ba (oa+k*10+5) (iv xf)∧cA W ba (oa+k*10+6) (iv xl)∧cA W ba (oa+k*10+7) (.slice xA xo xc)∧cA W ba (oa+k*10+8) (iv xw)∧cA W ba (oa+k*10+9) (iv xz)∧cA W bb (ob+k*10) (iv yw1)∧cA W bb (ob+k*10+1) (iv yd)∧cA W bb (ob+k*10+2) (.string ym)∧cA W bb (ob+k*10+3) (.string yn)∧cA W bb (ob+k*10+4) (iv yk)∧cA W bb (ob+k*10+5) (iv yf)∧cA W bb (ob+k*10+6) (iv yl)∧cA W bb (ob+k*10+7) (.slice yA yo yc)∧cA W bb (ob+k*10+8) (iv yw)∧cA W bb (ob+k*10+9) (iv yz)) 3 #[true,true,true,true,true,true,true,true,true,true,true,false,false,false] ⟨(zA::zB::.pointer (some ⟨g2,0,none⟩)::.pointer (some ⟨g3,0,none⟩)::zE::zF::iv k::.pointer (some ⟨gx,0,none⟩)::zI::zJ::zK::zL::zM::zN::zO::zP::zQ::zR::zS::zT::zU::zV::zW::zX::zY::zZ::za::zb::zc::zd::ze::zf::zg::zh::zi::.pointer (some ⟨g2,1,none⟩)::.slice (some ⟨ba,oa,none⟩) na ca::iv k::.pointer (some ⟨ba,oa+k*10,none⟩)::.agg #[iv xw1,iv xd,.string xm,.string xn,iv xk,iv xf,iv xl,.slice xA xo xc,iv xw,iv xz]::.pointer (some ⟨g3,1,none⟩)::.slice (some ⟨bb,ob,none⟩) nb cb::iv k::.pointer (some ⟨bb,ob+k*10,none⟩)::.agg #[iv yw1,iv yd,.string ym,.string yn,iv yk,iv yf,iv yl,.slice yA yo yc,iv yw,iv yz]::zt::zu::zv::zw::zx::zy::zz::zAA::zAB::zAC::zAD::zAE::zAF::zAG::zAH::zAI::zAJ::zAK::zAL::zAM::zAN::zAO::zAP::zAQ::zAR::zAS::zAT::[]).toArray,[]⟩ w:=by
 refine rd1 11 (fun j hK=>?_)
 ·skip;go_simp;have d:=bA (bR w) (.cells #[iv 0,iv 0,.string ⟨#[]⟩,.string ⟨#[]⟩,iv 0,iv 0,iv 0,.slice none 0 0,iv 0,iv 0] 68);have hq:=aa.new w 68 #[iv 0,iv 0,.string ⟨#[]⟩,.string ⟨#[]⟩,iv 0,iv 0,iv 0,.slice none 0 0,iv 0,iv 0];obtain⟨w1,hw1⟩:=ex (w.alloc (.cells #[iv 0,iv 0,.string ⟨#[]⟩,.string ⟨#[]⟩,iv 0,iv 0,iv 0,.slice none 0 0,iv 0,iv 0] 68));obtain⟨gy,hg1⟩:=ex w.heap.size;rw[hw1]at d hq;rw[hg1]at hq;rw[hw1,hg1];have HY:Hid (V.heap.size≤gy∧aa w1 gy 68 #[iv 0,iv 0,.string ⟨#[]⟩,.string ⟨#[]⟩,iv 0,iv 0,iv 0,.slice none 0 0,iv 0,iv 0]):=Lq ⟨by rw[←hg1];exact f.out.size,hq⟩
  have c:Hid (gx≠gy):=Lq ((by have:=b.out.2.lt;omega))
  have a:=Lq (bT f.out d);have b:Hid (V.heap.size≤gx∧aa w1 gx 68 #[iv 0,iv 0,.string ⟨#[]⟩,.string ⟨#[]⟩,iv 0,iv 0,iv 0,.slice none 0 0,iv 0,iv 0]):=Lq (⟨b.out.1,b.out.2.keep d⟩);refine hK.out _ _ (g.out _ a.out) (fun _=>?_)
  exact yL h g i a b HY c
theorem GH(h:Hid (k<na∧k<nb))(g:Hid (oI V g2 g3 ba oa bb ob na nb ca cb k xo yo xc yc xn yn xm ym xw1 xd yw1 yd xk xf xl xw xz yk yf yl yw yz xA yA))(i:Hid (oJ Q V g2 g3 k xo yo xc yc xn yn xm ym xw1 xd yw1 yd xk xf xl xw xz yk yf yl yw yz xA yA zA zB zE zF zJ zK zL zM zN zO zP zQ zR zS zT zU zV zW zX zY zZ za zb zc zd ze zf zg zh zi zt zu zv zw zx zy zz zAA zAB zAC zAD zAE zAF zAG zAH zAI zAJ zAK zAL zAM zAN zAO zAP zAQ zAR zAS zAT))(f:Hid (BW V w))(b:Hid (yK V gy w)) :
  wpAnyH Tryz.prog .any oH (NoPanic Q) (fun W=>cA W g2 1 (.slice (some ⟨ba,oa,none⟩) na ca)∧cA W g3 1 (.slice (some ⟨bb,ob,none⟩) nb cb)∧cA W ba (oa+k*10) (iv xw1)∧cA W ba (oa+k*10+1) (iv xd)∧cA W ba (oa+k*10+2) (.string xm)∧cA W ba (oa+k*10+3) (.string xn)∧cA W ba (oa+k*10+4) (iv xk)∧cA W ba (oa+k*10+5) (iv xf)∧cA W ba (oa+k*10+6) (iv xl)∧cA W ba (oa+k*10+7) (.slice xA xo xc)∧cA W ba (oa+k*10+8) (iv xw)∧cA W ba (oa+k*10+9) (iv xz)∧cA W bb (ob+k*10) (iv yw1)∧cA W bb (ob+k*10+1) (iv yd)∧cA W bb (ob+k*10+2) (.string ym)∧cA W bb (ob+k*10+3) (.string yn)∧cA W bb (ob+k*10+4) (iv yk)∧cA W bb (ob+k*10+5) (iv yf)∧cA W bb (ob+k*10+6) (iv yl)∧cA W bb (ob+k*10+7) (.slice yA yo yc)∧cA W bb (ob+k*10+8) (iv yw)∧cA W bb (ob+k*10+9) (iv yz)) 3 #[true,true,true,true,true,true,true,true,true,true,false,true,false,false] ⟨(zA::zB::.pointer (some ⟨g2,0,none⟩)::.pointer (some ⟨g3,0,none⟩)::zE::zF::iv k::zH::.pointer (some ⟨gy,0,none⟩)::zJ::zK::zL::zM::zN::zO::zP::zQ::zR::zS::zT::zU::zV::zW::zX::zY::zZ::za::zb::zc::zd::ze::zf::zg::zh::zi::.pointer (some ⟨g2,1,none⟩)::.slice (some ⟨ba,oa,none⟩) na ca::iv k::.pointer (some ⟨ba,oa+k*10,none⟩)::.agg #[iv xw1,iv xd,.string xm,.string xn,iv xk,iv xf,iv xl,.slice xA xo xc,iv xw,iv xz]::.pointer (some ⟨g3,1,none⟩)::.slice (some ⟨bb,ob,none⟩) nb cb::iv k::.pointer (some ⟨bb,ob+k*10,none⟩)::.agg #[iv yw1,iv yd,.string ym,.string yn,iv yk,iv yf,iv yl,.slice yA yo yc,iv yw,iv yz]::zt::zu::zv::zw::zx::zy::zz::zAA::zAB::zAC::zAD::zAE::zAF::zAG::zAH::zAI::zAJ::zAK::zAL::zAM::zAN::zAO::zAP::zAQ::zAR::zAS::zAT::[]).toArray,[]⟩ w:=by
 refine rd1 10 (fun j hK=>?_)
 ·skip;go_simp;have d:=bA (bR w) (.cells #[iv 0,iv 0,.string ⟨#[]⟩,.string ⟨#[]⟩,iv 0,iv 0,iv 0,.slice none 0 0,iv 0,iv 0] 68);have hq:=aa.new w 68 #[iv 0,iv 0,.string ⟨#[]⟩,.string ⟨#[]⟩,iv 0,iv 0,iv 0,.slice none 0 0,iv 0,iv 0];obtain⟨w1,hw1⟩:=ex (w.alloc (.cells #[iv 0,iv 0,.string ⟨#[]⟩,.string ⟨#[]⟩,iv 0,iv 0,iv 0,.slice none 0 0,iv 0,iv 0] 68));obtain⟨gx,hg1⟩:=ex w.heap.size;rw[hw1]at d hq;rw[hg1]at hq;rw[hw1,hg1];have HX:Hid (V.heap.size≤gx∧aa w1 gx 68 #[iv 0,iv 0,.string ⟨#[]⟩,.string ⟨#[]⟩,iv 0,iv 0,iv 0,.slice none 0 0,iv 0,iv 0]):=Lq ⟨by rw[←hg1];exact f.out.size,hq⟩
  have c:Hid (gx≠gy):=Lq ((by have:=b.out.2.lt;omega))
  have a:=Lq (bT f.out d);have b:Hid (V.heap.size≤gy∧aa w1 gy 68 #[iv 0,iv 0,.string ⟨#[]⟩,.string ⟨#[]⟩,iv 0,iv 0,iv 0,.slice none 0 0,iv 0,iv 0]):=Lq (⟨b.out.1,b.out.2.keep d⟩);refine hK.out _ _ (g.out _ a.out) (fun _=>?_)
  exact yL h g i a HX b c
theorem GI(f:Hid (k<na∧k<nb))(d:Hid (oI V g2 g3 ba oa bb ob na nb ca cb k xo yo xc yc xn yn xm ym xw1 xd yw1 yd xk xf xl xw xz yk yf yl yw yz xA yA))(g:Hid (oJ Q V g2 g3 k xo yo xc yc xn yn xm ym xw1 xd yw1 yd xk xf xl xw xz yk yf yl yw yz xA yA zA zB zE zF zJ zK zL zM zN zO zP zQ zR zS zT zU zV zW zX zY zZ za zb zc zd ze zf zg zh zi zt zu zv zw zx zy zz zAA zAB zAC zAD zAE zAF zAG zAH zAI zAJ zAK zAL zAM zAN zAO zAP zAQ zAR zAS zAT))(c:Hid (BW V w))  :
  wpAnyH Tryz.prog .any oH (NoPanic Q) (fun W=>cA W g2 1 (.slice (some ⟨ba,oa,none⟩) na ca)∧cA W g3 1 (.slice (some ⟨bb,ob,none⟩) nb cb)∧cA W ba (oa+k*10) (iv xw1)∧cA W ba (oa+k*10+1) (iv xd)∧cA W ba (oa+k*10+2) (.string xm)∧cA W ba (oa+k*10+3) (.string xn)∧cA W ba (oa+k*10+4) (iv xk)∧cA W ba (oa+k*10+5) (iv xf)∧cA W ba (oa+k*10+6) (iv xl)∧cA W ba (oa+k*10+7) (.slice xA xo xc)∧cA W ba (oa+k*10+8) (iv xw)∧cA W ba (oa+k*10+9) (iv xz)∧cA W bb (ob+k*10) (iv yw1)∧cA W bb (ob+k*10+1) (iv yd)∧cA W bb (ob+k*10+2) (.string ym)∧cA W bb (ob+k*10+3) (.string yn)∧cA W bb (ob+k*10+4) (iv yk)∧cA W bb (ob+k*10+5) (iv yf)∧cA W bb (ob+k*10+6) (iv yl)∧cA W bb (ob+k*10+7) (.slice yA yo yc)∧cA W bb (ob+k*10+8) (iv yw)∧cA W bb (ob+k*10+9) (iv yz)) 4 #[true,true,true,true,true,true,true,true,true,true,false,false,false,false] ⟨(zA::zB::.pointer (some ⟨g2,0,none⟩)::.pointer (some ⟨g3,0,none⟩)::zE::zF::iv k::zH::zI::zJ::zK::zL::zM::zN::zO::zP::zQ::zR::zS::zT::zU::zV::zW::zX::zY::zZ::za::zb::zc::zd::ze::zf::zg::zh::zi::.pointer (some ⟨g2,1,none⟩)::.slice (some ⟨ba,oa,none⟩) na ca::iv k::.pointer (some ⟨ba,oa+k*10,none⟩)::.agg #[iv xw1,iv xd,.string xm,.string xn,iv xk,iv xf,iv xl,.slice xA xo xc,iv xw,iv xz]::.pointer (some ⟨g3,1,none⟩)::.slice (some ⟨bb,ob,none⟩) nb cb::iv k::.pointer (some ⟨bb,ob+k*10,none⟩)::.agg #[iv yw1,iv yd,.string ym,.string yn,iv yk,iv yf,iv yl,.slice yA yo yc,iv yw,iv yz]::zt::zu::zv::zw::zx::zy::zz::zAA::zAB::zAC::zAD::zAE::zAF::zAG::zAH::zAI::zAJ::zAK::zAL::zAM::zAN::zAO::zAP::zAQ::zAR::zAS::zAT::[]).toArray,[]⟩ w:=by
 refine gZ 10 11 (fun h hK=>?_) (fun h hK=>?_)
 ·skip;go_simp;have b:=bA (bR w) (.cells #[iv 0,iv 0,.string ⟨#[]⟩,.string ⟨#[]⟩,iv 0,iv 0,iv 0,.slice none 0 0,iv 0,iv 0] 68);have hq:=aa.new w 68 #[iv 0,iv 0,.string ⟨#[]⟩,.string ⟨#[]⟩,iv 0,iv 0,iv 0,.slice none 0 0,iv 0,iv 0];obtain⟨w1,hw1⟩:=ex (w.alloc (.cells #[iv 0,iv 0,.string ⟨#[]⟩,.string ⟨#[]⟩,iv 0,iv 0,iv 0,.slice none 0 0,iv 0,iv 0] 68));obtain⟨gx,hg1⟩:=ex w.heap.size;rw[hw1]at b hq;rw[hg1]at hq;rw[hw1,hg1];have HX:Hid (V.heap.size≤gx∧aa w1 gx 68 #[iv 0,iv 0,.string ⟨#[]⟩,.string ⟨#[]⟩,iv 0,iv 0,iv 0,.slice none 0 0,iv 0,iv 0]):=Lq ⟨by rw[←hg1];exact c.out.size,hq⟩
  have a:=Lq (bT c.out b);refine hK.out _ _ (d.out _ a.out) (fun _=>?_)
  exact GG f d g a HX
 ·skip;go_simp;have b:=bA (bR w) (.cells #[iv 0,iv 0,.string ⟨#[]⟩,.string ⟨#[]⟩,iv 0,iv 0,iv 0,.slice none 0 0,iv 0,iv 0] 68);have hq:=aa.new w 68 #[iv 0,iv 0,.string ⟨#[]⟩,.string ⟨#[]⟩,iv 0,iv 0,iv 0,.slice none 0 0,iv 0,iv 0];obtain⟨w1,hw1⟩:=ex (w.alloc (.cells #[iv 0,iv 0,.string ⟨#[]⟩,.string ⟨#[]⟩,iv 0,iv 0,iv 0,.slice none 0 0,iv 0,iv 0] 68));obtain⟨gy,hg1⟩:=ex w.heap.size;rw[hw1]at b hq;rw[hg1]at hq;rw[hw1,hg1];have HY:Hid (V.heap.size≤gy∧aa w1 gy 68 #[iv 0,iv 0,.string ⟨#[]⟩,.string ⟨#[]⟩,iv 0,iv 0,iv 0,.slice none 0 0,iv 0,iv 0]):=Lq ⟨by rw[←hg1];exact c.out.size,hq⟩
  have a:=Lq (bT c.out b);refine hK.out _ _ (d.out _ a.out) (fun _=>?_)
  exact GH f d g a HY
theorem GJ{g h i j l m o p q s:Value}(a:Hid (k<na∧k<nb))(b:Hid (oI V g2 g3 ba oa bb ob na nb ca cb k xo yo xc yc xn yn xm ym xw1 xd yw1 yd xk xf xl xw xz yk yf yl yw yz xA yA))(c:Hid (oJ Q V g2 g3 k xo yo xc yc xn yn xm ym xw1 xd yw1 yd xk xf xl xw xz yk yf yl yw yz xA yA zA zB zE zF zJ zK zL zM zN zO zP zQ zR zS zT zU zV zW zX zY zZ za zb zc zd ze zf zg zh zi zt zu zv zw zx zy zz zAA zAB zAC zAD zAE zAF zAG zAH zAI zAJ zAK zAL zAM zAN zAO zAP zAQ zAR zAS zAT)) :
  (aF Tryz.f57 5).wp Tryz.prog Q ⟨(zA::zB::.pointer (some ⟨g2,0,none⟩)::.pointer (some ⟨g3,0,none⟩)::zE::zF::iv k::zH::zI::zJ::zK::zL::zM::zN::zO::zP::zQ::zR::zS::zT::zU::zV::zW::zX::zY::zZ::za::zb::zc::zd::ze::zf::zg::zh::zi::g::h::i::j::l::m::o::p::q::s::zt::zu::zv::zw::zx::zy::zz::zAA::zAB::zAC::zAD::zAE::zAF::zAG::zAH::zAI::zAJ::zAK::zAL::zAM::zAN::zAO::zAP::zAQ::zAR::zAS::zAT::[]).toArray,[]⟩ V:=by
 refine gd (ops:=oH) (r:=5) (n:=14) (S:=fun W=>cA W g2 1 (.slice (some ⟨ba,oa,none⟩) na ca)∧cA W g3 1 (.slice (some ⟨bb,ob,none⟩) nb cb)∧cA W ba (oa+k*10) (iv xw1)∧cA W ba (oa+k*10+1) (iv xd)∧cA W ba (oa+k*10+2) (.string xm)∧cA W ba (oa+k*10+3) (.string xn)∧cA W ba (oa+k*10+4) (iv xk)∧cA W ba (oa+k*10+5) (iv xf)∧cA W ba (oa+k*10+6) (iv xl)∧cA W ba (oa+k*10+7) (.slice xA xo xc)∧cA W ba (oa+k*10+8) (iv xw)∧cA W ba (oa+k*10+9) (iv xz)∧cA W bb (ob+k*10) (iv yw1)∧cA W bb (ob+k*10+1) (iv yd)∧cA W bb (ob+k*10+2) (.string ym)∧cA W bb (ob+k*10+3) (.string yn)∧cA W bb (ob+k*10+4) (iv yk)∧cA W bb (ob+k*10+5) (iv yf)∧cA W bb (ob+k*10+6) (iv yl)∧cA W bb (ob+k*10+7) (.slice yA yo yc)∧cA W bb (ob+k*10+8) (iv yw)∧cA W bb (ob+k*10+9) (iv yz)) (fun W hb=>b.out W hb) fun V0 HB0 hHeld=>?_
 have d:=nn k;have hi1:(k:Int)<(na:Int):=by have:=a.out;omega
 have f:(k:Int)<(nb:Int):=by have:=a.out;omega
 refine tk 0 (.pointer (some ⟨g2,1,none⟩)) ?_;refine tk 1 (.slice (some ⟨ba,oa,none⟩) na ca) ?_;refine tk 2 (iv k) ?_;refine tk 3 (.pointer (some ⟨ba,oa+k*10,none⟩)) ?_;refine tk 4 (.agg #[iv xw1,iv xd,.string xm,.string xn,iv xk,iv xf,iv xl,.slice xA xo xc,iv xw,iv xz]) ?_;refine tk 5 (.pointer (some ⟨g3,1,none⟩)) ?_;refine tk 6 (.slice (some ⟨bb,ob,none⟩) nb cb) ?_;refine tk 7 (iv k) ?_;refine tk 8 (.pointer (some ⟨bb,ob+k*10,none⟩)) ?_;refine tk 9 (.agg #[iv yw1,iv yd,.string ym,.string yn,iv yk,iv yf,iv yl,.slice yA yo yc,iv yw,iv yz]) ?_;exact GI a b c HB0
end
end Go.Proofs.YtbillnhcmkpohaaGreatDoor
namespace Go.Proofs.YtbillnhcmkpohaaGreatDoor
open Go.RowKit Go.Shelf
attribute [local go_sem] Oper.semAt_some
theorem GK(A B C D:Option Addr)(xs E:List aj)(cs q:List ao)(G H I J:Nat)(w:World)(HP:fF w A C G I xs cs)(HQ:fF w B D H J E q)(he:ab xs=ab E)(u:an cs=an q)(hl:xs.length≤1000)(ae:cs.length≤1000)(L:∀p∈ab xs,p.on.length≤1000000)(s:∀c∈an cs,c.part.on.length≤1000000) :
  Cs 57 #[.agg #[.slice A xs.length G,.slice C cs.length I],.agg #[.slice B E.length H,.slice D q.length J]] w (Rt w (.bool true)):=by
 obtain⟨Y,K,g⟩:=nA w (.cells #[.slice A xs.length G,.slice C cs.length I] 27);obtain⟨W2,hW2,b2⟩:=nA Y (.cells #[.slice B E.length H,.slice D q.length J] 27);obtain⟨g2,hg2⟩:=ex w.heap.size;obtain⟨g3,hg3⟩:=ex Y.heap.size;have q1:aa Y g2 27 #[.slice A xs.length G,.slice C cs.length I]:=by rw[←K,←hg2];exact aa.new w 27 _
 have q2:aa W2 g3 27 #[.slice B E.length H,.slice D q.length J]:=by rw[←hW2,←hg3];exact aa.new Y 27 _
 have z:=q1.keep b2;have hdl:q.length=cs.length:=by have:=congrArg List.length u;simpa using this.symm
 have Z:=Lq (bT g b2);have HP2:=Lq (HP.below (bT g b2));have HQ2:=Lq (HQ.below (bT g b2));have HSH:=Lq (yI A B xs E G H W2 (HP.below (bT g b2)).sl (HQ.below (bT g b2)).sl he hl L);have HEC:=Lq u;have HONC:=Lq s;have HG2:=Lq z;have HG3:=Lq q2;obtain⟨d0,d1⟩:=z.c2;obtain⟨e0,e1⟩:=q2.c2;rw[hdl]at e1 HG3 hW2 ⊢;clear HP HQ he u L s g b2 q1 q2 z;go_enter Tryz.func57,Tryz.ntmps57
 go_wp2_with fail;refine HSH.out.mono ?_;rintro e w3 ⟨rfl,j⟩;have HB3:=Lq (bT Z.out j);have HP3:=Lq (HP2.out.below j);have HQ3:=Lq (HQ2.out.below j);have HG23:=Lq (HG2.out.keep j);have HG33:=Lq (HG3.out.keep j);have r:=HG23.out.c 1;have h2:=HG33.out.c 1;clear j d0 d1 e0 e1 K hW2 hg2 hg3;go_wp2_with fail;clear r h2;go_loopw [5,6] (fun b i wr=>∃k:Nat,k≤cs.length∧i=iv k∧b=.bool true∧Hid (BW w3 wr)) (fun _ i _=>cs.length-(intOf i).toNat)
 case atStart=>exact⟨0,Nat.zero_le _,rfl,rfl,Lq (bR _)⟩
 case round =>
  obtain⟨k,hk,rfl,rfl,d⟩:=hrel;have hk0:=nn k;have hkw:IntKind.i64.wrap ((k:Int)+1)=(k:Int)+1:=by rw[IntKind.wrap_i64];omega
  have r:=(HG23.out.keep d.out).c 1;by_cases hlt:k<cs.length
  ·obtain⟨x,hx⟩:=gX (l:=cs) (i:=k) hlt;obtain⟨y,hy⟩:=gX (l:=q) (i:=k) (by omega)
   have O:x.c=y.c:=by
    have r:(an cs)[k]?=some x.c:=by rw[List.getElem?_map,hx];rfl
    have h2:(an q)[k]?=some y.c:=by rw[List.getElem?_map,hy];rfl
    rw[HEC.out,h2]at r;injection r with r
    exact r.symm
   have n:=HONC.out x.c (List.mem_map_of_mem (mG ⟨k,hx⟩));obtain⟨wh,dy,cn,⟨xp,xA,xc⟩⟩:=x;obtain⟨wh',dy',cn',⟨yp,yA,yc⟩⟩:=y;simp only[ao.c]at O n;injection O with hy1 hy2 hy3 hy4
   subst hy1 hy2 hy3 hy4;obtain⟨U,S,R,T,m,V,X⟩:=xp;simp only at n;have hsa:=HP3.out.ch.below d.out (lr _);have hsb:=HQ3.out.ch.below d.out (lr _);obtain⟨g,o1,rfl,hb1,hmx,hnx,a0,a1,a2,a3,a4,a5,a6,a7,a8,a9⟩:=hsa.at hx;obtain⟨b2,o2,rfl,hb2,hmy,hny,c0,c1,c2,c3,c4,c5,c6,c7,c8,c9⟩:=hsb.at hy;simp only at a0 a1 a2 a3 a4 a5 a6 a7 a8 a9 c0 c1 c2 c3 c4 c5 c6 c7 c8 c9 hmx hmy;have HS:Hid (∀W,BW wr W→cA W g2 1 (.slice (some ⟨g,o1,none⟩) cs.length I)∧cA W g3 1 (.slice (some ⟨b2,o2,none⟩) cs.length J)∧cA W g (o1+k*10) (iv wh)∧cA W g (o1+k*10+1) (iv dy)∧cA W g (o1+k*10+2) (.string cn)∧cA W g (o1+k*10+3) (.string U)∧cA W g (o1+k*10+4) (iv S)∧cA W g (o1+k*10+5) (iv R)∧cA W g (o1+k*10+6) (iv T)∧cA W g (o1+k*10+7) (.slice xA m.length xc)∧cA W g (o1+k*10+8) (iv V)∧cA W g (o1+k*10+9) (iv X)∧cA W b2 (o2+k*10) (iv wh)∧cA W b2 (o2+k*10+1) (iv dy)∧cA W b2 (o2+k*10+2) (.string cn)∧cA W b2 (o2+k*10+3) (.string U)∧cA W b2 (o2+k*10+4) (iv S)∧cA W b2 (o2+k*10+5) (iv R)∧cA W b2 (o2+k*10+6) (iv T)∧cA W b2 (o2+k*10+7) (.slice yA m.length yc)∧cA W b2 (o2+k*10+8) (iv V)∧cA W b2 (o2+k*10+9) (iv X)):=Lq fun W j=>by
    have f:∀{b o:Nat} {v:Value},wr.cell? ⟨b,o,none⟩=some v→cA W b o v:=fun{b o v} h=>(World.cell?_of_block (w:=wr) (a:=⟨b,_,none⟩) (j.block b (br h))).trans h
    exact⟨f ((HG23.out.keep d.out).c 1),f ((HG33.out.keep d.out).c 1),f a0,f a1,f a2,f a3,f a4,f a5,f a6,f a7,f a8,f a9,f c0,f c1,f c2,f c3,f c4,f c5,f c6,f c7,f c8,f c9⟩
   have F:Hid (∀W,BW wr W→Cs 112 #[.agg #[.string U,iv S,iv R,iv T,.slice xA m.length xc,iv V,iv X],.agg #[.string U,iv S,iv R,iv T,.slice yA m.length yc,iv V,iv X]] W (Rt W (.bool true))):=Lq fun W j=>yH U S R T V X m xA yA xc yc W ((hmx.on.below j d.out.size).more (lT d.out.size j.size)) ((hmy.on.below j d.out.size).more (lT d.out.size j.size)) n
   clear hx hy hsa hsb hmx hmy hnx hny a0 a1 a2 a3 a4 a5 a6 a7 a8 a9 c0 c1 c2 c3 c4 c5 c6 c7 c8 c9 n;go_wp2_with fail;go_upto_region 5 with fail
   refine GJ (Lq ⟨hlt,hlt⟩) HS (Lq ?_);rintro ag ah ai ak al am ap aq ar au gx gy W7 t ac ad af M N;have HE7:=Lq (F.out _ t);have HB7:=Lq (bT d.out t);obtain⟨x0,x1,x2,x3,x4,x5,x6,x7,x8,x9⟩:=M.c10;obtain⟨y0,y1,y2,y3,y4,y5,y6,y7,y8,y9⟩:=N.c10;clear t ac ad M N F HS r;have hkl:k+1≤cs.length:=hlt;go_wp2_with fail;refine HE7.out.mono ?_;rintro e w8 ⟨rfl,hb8⟩;have HB8:=Lq (bT HB7.out hb8);clear hb8 x0 x1 x2 x3 x4 x5 x6 x7 x8 x9 y0 y1 y2 y3 y4 y5 y6 y7 y8 y9;go_wp2_with fail;go_roundw
   case measure=>simp[intOf];omega
   case rel=>exact⟨k+1,hkl,by go_num,rfl,HB8⟩
  ·obtain rfl:k=cs.length:=by omega
   go_wp2_with fail;go_ret
   exact⟨rfl,bT HB3.out d.out⟩
end Go.Proofs.YtbillnhcmkpohaaGreatDoor
namespace Go.Proofs.YtbillnhcmkpohaaGreatDoor
open Go.RowKit
def p9:List di:=[
 .part aK ⟨#[98,101,97,109]⟩ ⟨#[48]⟩ ⟨#[52,48]⟩ ⟨#[57,48,48,48]⟩ ⟨#[49,48,48,48,48]⟩ ⟨aK,2,0,40,[],9000,10000⟩,
 .part aV ⟨#[116,97,110,107]⟩ ⟨#[49,48]⟩ ⟨#[49,57]⟩ ⟨#[50,48,48,48]⟩ ⟨#[50,53,48,48]⟩ ⟨aV,4,10,19,[aK],2000,2500⟩,
 .part bV ⟨#[112,108,97,116,101]⟩ ⟨#[53]⟩ ⟨#[50,52]⟩ ⟨#[51,48,48,48]⟩ ⟨#[51,48,48,48]⟩ ⟨bV,1,5,24,[aV,aK],3000,3000⟩,
 .add ⟨#[49,48,48]⟩ cD ⟨#[112,105,112,101]⟩ ⟨#[49,50]⟩ ⟨#[51,48]⟩ ⟨#[49,48,48]⟩ ⟨#[50,48,48]⟩ 100 ⟨cD,5,12,30,[aV],100,200⟩,
 .swap ⟨#[50,48,48]⟩ aV aT ⟨#[112,108,97,116,101]⟩ ⟨#[49,48]⟩ ⟨#[50,57]⟩ ⟨#[56,48,48]⟩ ⟨#[57,48,48]⟩ 200 ⟨aT,1,10,29,[aK],800,900⟩]
def jf:Nat→ByteArray
 | 0=>iw
 | 1=>⟨#[112,97,114,116,32,116,97,110,107,49,32,116,97,110,107,32,49,48,32,49,57,32,50,48,48,48,32,50,53,48,48,32,107,101,101,108,10,112,97,114,116,32,100,101,99,107,32,112,108,97,116,101,32,53,32,50,52,32,51,48,48,48,32,51,48,48,48,32,116,97,110,107,49,32,107,101,101,108,10,49,48,48,32,97,100,100,32,112,105,112,101,49,32,112,105,112,101,32,49,50,32,51,48,32,49,48,48,32,50,48,48,32,116,97,110,107,49,10,50,48,48,32,115,119,97,112,32,116,97,110,107,49,32,104,111,108,100,49,32,112,108,97,116,101,32,49,48,32,50,57,32,56,48,48,32,57,48,48,32,107,101,101,108,10]⟩
 | 2=>⟨#[112,97,114,116,32,100,101,99,107,32,112,108,97,116,101,32,53,32,50,52,32,51,48,48,48,32,51,48,48,48,32,116,97,110,107,49,32,107,101,101,108,10,49,48,48,32,97,100,100,32,112,105,112,101,49,32,112,105,112,101,32,49,50,32,51,48,32,49,48,48,32,50,48,48,32,116,97,110,107,49,10,50,48,48,32,115,119,97,112,32,116,97,110,107,49,32,104,111,108,100,49,32,112,108,97,116,101,32,49,48,32,50,57,32,56,48,48,32,57,48,48,32,107,101,101,108,10]⟩
 | 3=>⟨#[49,48,48,32,97,100,100,32,112,105,112,101,49,32,112,105,112,101,32,49,50,32,51,48,32,49,48,48,32,50,48,48,32,116,97,110,107,49,10,50,48,48,32,115,119,97,112,32,116,97,110,107,49,32,104,111,108,100,49,32,112,108,97,116,101,32,49,48,32,50,57,32,56,48,48,32,57,48,48,32,107,101,101,108,10]⟩
 | 4=>⟨#[50,48,48,32,115,119,97,112,32,116,97,110,107,49,32,104,111,108,100,49,32,112,108,97,116,101,32,49,48,32,50,57,32,56,48,48,32,57,48,48,32,107,101,101,108,10]⟩
 | _=>⟨#[]⟩
theorem qf:jU p9=bW:=rfl
theorem qg:jV p9=fR:=rfl
theorem GL:nj (jf 0) (jf 1) (.part aK ⟨#[98,101,97,109]⟩ ⟨#[48]⟩ ⟨#[52,48]⟩ ⟨#[57,48,48,48]⟩ ⟨#[49,48,48,48,48]⟩ ⟨aK,2,0,40,[],9000,10000⟩) :=
 ⟨⟨rfl,⟨1,⟨by decide,by kernel_rfl⟩,rfl⟩,⟨by decide,by kernel_rfl⟩,⟨by decide,by kernel_rfl⟩,⟨by decide,by kernel_rfl⟩,⟨by decide,by kernel_rfl⟩⟩,of_decide_eq_true (by kernel_rfl),of_decide_eq_true (by kernel_rfl),by kernel_rfl,⟨⟨#[112,97,114,116,32,107,101,101,108,32,98,101,97,109,32,48,32,52,48,32,57,48,48,48,32,49,48,48,48,48]⟩,by kernel_rfl,of_decide_eq_true (by kernel_rfl),by kernel_rfl,by kernel_rfl,of_decide_eq_true (by kernel_rfl)⟩⟩
theorem GM:nj (jf 1) (jf 2) (.part aV ⟨#[116,97,110,107]⟩ ⟨#[49,48]⟩ ⟨#[49,57]⟩ ⟨#[50,48,48,48]⟩ ⟨#[50,53,48,48]⟩ ⟨aV,4,10,19,[aK],2000,2500⟩) :=
 ⟨⟨rfl,⟨3,⟨by decide,by kernel_rfl⟩,rfl⟩,⟨by decide,by kernel_rfl⟩,⟨by decide,by kernel_rfl⟩,⟨by decide,by kernel_rfl⟩,⟨by decide,by kernel_rfl⟩⟩,of_decide_eq_true (by kernel_rfl),of_decide_eq_true (by kernel_rfl),by kernel_rfl,⟨⟨#[112,97,114,116,32,116,97,110,107,49,32,116,97,110,107,32,49,48,32,49,57,32,50,48,48,48,32,50,53,48,48,32,107,101,101,108]⟩,by kernel_rfl,of_decide_eq_true (by kernel_rfl),by kernel_rfl,by kernel_rfl,of_decide_eq_true (by kernel_rfl)⟩⟩
theorem GN:nj (jf 2) (jf 3) (.part bV ⟨#[112,108,97,116,101]⟩ ⟨#[53]⟩ ⟨#[50,52]⟩ ⟨#[51,48,48,48]⟩ ⟨#[51,48,48,48]⟩ ⟨bV,1,5,24,[aV,aK],3000,3000⟩) :=
 ⟨⟨rfl,⟨0,⟨by decide,by kernel_rfl⟩,rfl⟩,⟨by decide,by kernel_rfl⟩,⟨by decide,by kernel_rfl⟩,⟨by decide,by kernel_rfl⟩,⟨by decide,by kernel_rfl⟩⟩,of_decide_eq_true (by kernel_rfl),of_decide_eq_true (by kernel_rfl),by kernel_rfl,⟨⟨#[112,97,114,116,32,100,101,99,107,32,112,108,97,116,101,32,53,32,50,52,32,51,48,48,48,32,51,48,48,48,32,116,97,110,107,49,32,107,101,101,108]⟩,by kernel_rfl,of_decide_eq_true (by kernel_rfl),by kernel_rfl,by kernel_rfl,of_decide_eq_true (by kernel_rfl)⟩⟩
theorem GO:nj (jf 3) (jf 4) (.add ⟨#[49,48,48]⟩ cD ⟨#[112,105,112,101]⟩ ⟨#[49,50]⟩ ⟨#[51,48]⟩ ⟨#[49,48,48]⟩ ⟨#[50,48,48]⟩ 100 ⟨cD,5,12,30,[aV],100,200⟩) :=
 ⟨⟨⟨⟨by decide,by kernel_rfl⟩,by kernel_rfl⟩,⟨rfl,⟨4,⟨by decide,by kernel_rfl⟩,rfl⟩,⟨by decide,by kernel_rfl⟩,⟨by decide,by kernel_rfl⟩,⟨by decide,by kernel_rfl⟩,⟨by decide,by kernel_rfl⟩⟩⟩,of_decide_eq_true (by kernel_rfl),of_decide_eq_true (by kernel_rfl),by kernel_rfl,⟨⟨#[49,48,48,32,97,100,100,32,112,105,112,101,49,32,112,105,112,101,32,49,50,32,51,48,32,49,48,48,32,50,48,48,32,116,97,110,107,49]⟩,by kernel_rfl,of_decide_eq_true (by kernel_rfl),by kernel_rfl,by kernel_rfl,of_decide_eq_true (by kernel_rfl)⟩⟩
theorem GP:nj (jf 4) (jf 5) (.swap ⟨#[50,48,48]⟩ aV aT ⟨#[112,108,97,116,101]⟩ ⟨#[49,48]⟩ ⟨#[50,57]⟩ ⟨#[56,48,48]⟩ ⟨#[57,48,48]⟩ 200 ⟨aT,1,10,29,[aK],800,900⟩) :=
 ⟨⟨⟨⟨by decide,by kernel_rfl⟩,by kernel_rfl⟩,⟨rfl,⟨0,⟨by decide,by kernel_rfl⟩,rfl⟩,⟨by decide,by kernel_rfl⟩,⟨by decide,by kernel_rfl⟩,⟨by decide,by kernel_rfl⟩,⟨by decide,by kernel_rfl⟩⟩⟩,of_decide_eq_true (by kernel_rfl),of_decide_eq_true (by kernel_rfl),by kernel_rfl,⟨⟨#[50,48,48,32,115,119,97,112,32,116,97,110,107,49,32,104,111,108,100,49,32,112,108,97,116,101,32,49,48,32,50,57,32,56,48,48,32,57,48,48,32,107,101,101,108]⟩,by kernel_rfl,of_decide_eq_true (by kernel_rfl),by kernel_rfl,by kernel_rfl,of_decide_eq_true (by kernel_rfl)⟩⟩
theorem GQ:xN iw jf p9:=by
 refine⟨rfl,by kernel_rfl,by decide,fun k a h=>?_⟩
 match k,h with
 | 0,h=>injection h with h;subst h;exact GL
 | 1,h=>injection h with h;subst h;exact GM
 | 2,h=>injection h with h;subst h;exact GN
 | 3,h=>injection h with h;subst h;exact GO
 | 4,h=>injection h with h;subst h;exact GP
 | n+5,h=>cases h
theorem yM:(⟨(lF bW fR).toArray⟩:ByteArray)=iw:=by kernel_rfl
section
variable{u v:Value}{W:World}
def fo(W:World)(n:Nat)(v:Value):Prop:=∃(A C:Option Addr) (cap capc:Nat) (ms:List aj) (cs:List ao),v=.agg #[.slice A ms.length cap,.slice C cs.length capc]∧fF W A C cap capc ms cs∧ab ms=bW∧an cs=fR.take n
theorem lO(n:Nat)(h:n≤2)(w:World):Cs 41 #[iv n] w fun e w'=>∃v,e=.returned v∧fo w' n v∧BW w w' :=
 (rS n h w).mono fun _ _ ⟨A,C,cap,a,ms,cs,g,b,c,d,f⟩=>⟨_,g,⟨A,C,cap,a,ms,cs,rfl,b,c,d⟩,f⟩
theorem fo.below{V:World}{n:Nat}(h:fo W n v)(f:BW W V):fo V n v:=by obtain⟨A,C,cap,a,ms,cs,g,b,c,d⟩:=h;exact⟨A,C,cap,a,ms,cs,g,b.below f,c,d⟩
theorem nF:fR.take 2=fR:=rfl
theorem GR(h:fo W 2 v):Cs 40 #[v,iv 200] W fun e w'=>∃(A:Option Addr) (c:Nat) (ms:List aj),e=.returned (.tuple #[.agg #[.slice A ms.length c],iv 0])∧ab ms=dg∧az w' w'.heap.size A c ms∧BW W w':=by
 obtain⟨A,C,cap,a,ms,cs,rfl,d,g,b⟩:=h;rw[nF]at b;refine(Dc A C ms cs _ cap a 200 W (lr _) d.sl d.ch d.wf).mono ?_;rintro e w' ⟨r,A',n,c,rfl,hb,hr,hout⟩;have hr0:r=0:=hr.2 (by rw[g,b];exact⟨kI,by decide⟩)
 subst hr0;obtain⟨f,rfl,i,j⟩:=hout rfl;exact⟨A',c,f,rfl,by rw[i,g,b,jv],j,hb⟩
theorem GS(h:fo W 0 v):Cs 4 #[v,iv 0,iv 10,iv 19] W (Rt W (.tuple #[.agg #[iv 5695,iv 6440],iv 0])):=by
 obtain⟨A,C,cap,a,ms,cs,rfl,d,f,g⟩:=h;refine(uI A C ms cs _ cap a 0 10 19 W (lr _) d.sl d.ch d.wf).mono ?_;rintro e w' ⟨lo,hi,r,rfl,hb,hr,hv⟩;have hr0:r=0:=hr.2 (by rw[f,g];exact⟨⟨ou,by decide⟩,by decide,by decide⟩)
 subst hr0;obtain⟨b,c⟩:=hv rfl;rw[f,g]at b c;rw[pH,rW,Eg]at b;rw[pH,rW,Eh]at c;subst b c;exact⟨rfl,hb⟩
theorem yN{w:World}{base:Nat}{l:List ByteArray}(h:w.ownsRow base 9 1 v l.length (l.map .string)):∃A c,v=.slice A l.length c∧am .string w w.heap.size A l:=by obtain⟨A,c,e,a,_⟩:=io h;exact⟨A,c,e,a⟩
theorem GT(h:fo W 2 v):Cs 42 #[v,iv 200,.string aK] W fun e w'=>∃(A:Option Addr) (c:Nat),e=.returned (.tuple #[.slice A 3 c,iv 0])∧am .string w' w'.heap.size A [aT,bV,cD]∧BW W w':=by
 obtain⟨A,C,cap,a,ms,cs,rfl,d,g,b⟩:=h;rw[nF]at b;refine(uL A C ms cs _ cap a 200 aK W (lr _) d.sl d.ch d.wf).mono ?_;rintro e w' ⟨v,r,n,l,rfl,hb,ho,rfl,hr,hl,_⟩;have hr0:r=0:=hr.2 (by rw[g,b];exact⟨⟨kI,by decide⟩,by rw[jv];exact Ej⟩)
 subst hr0;have f:=hl rfl;rw[g,b,jv,Ei]at f;subst f;obtain⟨A',c',rfl,hrd⟩:=yN ho;exact⟨A',c',rfl,hrd,hb⟩
theorem GU(h:fo W 2 v):Cs 42 #[v,iv 200,.string aV] W fun e w'=>∃u,e=.returned (.tuple #[u,iv 4])∧BW W w':=by
 obtain⟨A,C,cap,a,ms,cs,rfl,c,d,b⟩:=h;rw[nF]at b;refine(uL A C ms cs _ cap a 200 aV W (lr _) c.sl c.ch c.wf).mono ?_;rintro e w' ⟨v,r,n,l,rfl,hb,ho,rfl,hr,hl,h4⟩;have hr0:r≠0:=fun h0=>by have:=(hr.1 h0).2;rw[d,b,jv,Ek]at this;cases this
 rcases(h4 hr0).2 with rfl | hn
 ·exact⟨v,rfl,hb⟩
 ·exact absurd (by rw[d,b];exact⟨kI,by decide⟩) hn
theorem GV{l r:List (List UInt8)}(d:l.isPerm r=true)(f:r.Pairwise fun x y=>decide (x≤y)=true):(l.mergeSort fun x y=>decide (x≤y))=r:=by
 refine List.Perm.eq_of_pairwise (le:=fun x y=>decide (x≤y)=true) (fun a b _ _ h1 h2=>?_) (List.pairwise_mergeSort (fun a b c h1 h2=>?_) (fun a b=>?_) l) f ((List.mergeSort_perm l _).trans (List.isPerm_iff.1 d))
 ·simp only[decide_eq_true_eq]at h1 h2;exact List.le_antisymm h1 h2
 ·simp only[decide_eq_true_eq]at *;exact List.le_trans h1 h2
 ·simp only[Bool.or_eq_true,decide_eq_true_eq];exact List.le_total a b
theorem yO:fv (dg.map ah.name++bW.map ah.name)=[bV,aT,aK,cD,aV]:=by
 unfold fv;rw[GV (r:=[[100,101,99,107],[100,101,99,107],[104,111,108,100,49],[107,101,101,108],[107,101,101,108],[112,105,112,101,49],[116,97,110,107,49]]) (by kernel_rfl) (by decide)]
 kernel_rfl
theorem GW:lC dg bW=[bV,aT,aK,cD,aV]:=yO
theorem GX:jw dg bW (lC dg bW)=[bV,aT,cD,aV]:=by
 rw[GW]
 kernel_rfl
theorem GY(h:fo W 2 v)(k:fo W 0 u):Cs 43 #[v,u,iv 200] W fun e w'=>∃(A:Option Addr) (c:Nat),e=.returned (.tuple #[.slice A 4 c,iv 0])∧am .string w' w'.heap.size A [bV,aT,cD,aV]∧BW W w':=by
 obtain⟨A,C,cap,a,ms,cs,rfl,i,d,b⟩:=h;obtain⟨A',C',cap',capc',ms',cs',rfl,kp,k1,k2⟩:=k;rw[nF]at b;rw[pH]at k2;refine(Ep A C A' C' ms ms' cs cs' cap a cap' capc' 200 W i kp (by rw[d,b];exact kI) (by rw[k1,k2];exact ou) (by decide) (by rw[d,b,jv];decide)).mono ?_
 rintro e w' ⟨v,rfl,g,f⟩;rw[d,b,k1,k2,jv,rW,GX]at f;obtain⟨A',c',rfl,hrd⟩:=yN f;exact⟨A',c',rfl,hrd,g⟩
def oK(W:World)(v:Value):Prop:=∃(b:Nat) (p q:mt),v=.slice (some ⟨b,0,none⟩) 2 2∧kJ W b 0 p q∧ab p.ms=bW∧an p.cs=fR∧ab q.ms=bW∧an q.cs=[]
theorem sO(w:World):Cs 45 #[] w fun e w'=>∃v,e=.returned v∧oK w' v∧BW w w':=by
 have k:=Lq (rS 2 (by omega) w)
 have l:=Lq (rS 0 (by omega))
 go_enter Tryz.func45,Tryz.ntmps45
 go_wp2_with fail;refine k.out.mono ?_;rintro e n ⟨A,C,cap,a,ms,cs,rfl,i,g,b,h⟩;have HP1:=Lq (show _∧_∧_ from⟨i,g,b⟩)
 have m:=Lq h;clear i g b h;go_wp2_with fail;refine(l.out n).mono ?_;rintro e w2 ⟨A',C',cap',capc',ms',cs',rfl,i,g,b,h⟩;have HQ2:=Lq (show _∧_∧_ from⟨i,g,b⟩)
 have j:=Lq h;clear i g b h l k;obtain⟨w3,hw3,b3⟩:=nA w2 (.cells #[.slice A ms.length cap,.slice C cs.length a,.slice A' ms'.length cap',.slice C' cs'.length capc'] 27);have q3:aa w3 w2.heap.size 27 #[.slice A ms.length cap,.slice C cs.length a,.slice A' ms'.length cap',.slice C' cs'.length capc']:=by rw[←hw3];exact aa.new w2 27 _
 have d:=Lq b3;have HQ3:=Lq q3;clear b3 q3;go_wp2_with fail;go_ret
 have f:=bT j.out d.out;have b:=HP1.out.2.2;have k2:=HQ2.out.2.2;rw[nF]at b;rw[pH]at k2;refine⟨_,rfl,⟨_,⟨A,C,cap,a,ms,cs⟩,⟨A',C',cap',capc',ms',cs'⟩,rfl,⟨HQ3.out.c 0,HQ3.out.c 1,HQ3.out.c 2,HQ3.out.c 3,HP1.out.1.below f,HQ2.out.1.below d.out, ?_⟩,HP1.out.2.1,b,HQ2.out.2.1,k2⟩,bT m.out f⟩;have:=congrArg List.length k2
 simpa using this
theorem oL:aA 200 bW []=bW:=rfl
def sP:List dX:=[⟨aV,15,4⟩]
theorem GZ:bD [dg,bW] sP 2=[1]:=by kernel_rfl
theorem yP:bD [dg,bW] [] 2=[0,1]:=by kernel_rfl
theorem yQ:gQ [dg,bW] [0,1]=[dg,bW]:=by kernel_rfl
theorem oM:gA [dg,bW]=[bV,aT,aK,cD,aV]:=yO
theorem yR:lE [dg,bW]=[bV,aK]:=by
 unfold lE;rw[oM]
 kernel_rfl
theorem yS:gR [dg,bW] (dG [bV,aT,aK,cD,aV])=(aT,10,1):=by kernel_rfl
theorem G0{g:Nat}(h:oK W v)(n:aa W g 113 #[.string aV,iv 15,iv 4]):Cs 44 #[v,iv 200,.slice (some ⟨g,0,none⟩) 1 1] W fun e w'=>∃(A:Option Addr) (c:Nat),e=.returned (.tuple #[.slice A 1 c,iv 0])∧am iv w' w'.heap.size A [1]∧BW W w':=by
 obtain⟨b,p,q,rfl,o,a,d,k,l⟩:=h;refine(EJ b 0 2 p q sP (some ⟨g,0,none⟩) 1 200 W o (by decide) (by rw[a,d];exact kI) (by rw[k,l];exact ou) (aa.rdN Er (xs:=sP) n) (by decide) (fun s hs=>by rw[List.mem_singleton.1 hs];exact⟨by kernel_rfl,of_decide_eq_true (by kernel_rfl),by decide,by decide⟩)).mono ?_
 rintro e w' ⟨A,c,f,j,_,_,m⟩;rw[a,d,k,l,jv,oL,GZ]at f j;exact⟨A,c,f,fun i x hx=>by
  match i,hx with
  | 0,hx =>
   injection hx with hx
   subst hx;exact j 0 1 rfl,m⟩
theorem G1(h:oK W v):Cs 46 #[v,iv 200,.slice none 0 0] W fun e w'=>∃(A d:Option Addr) (c f:Nat),e=.returned (.tuple #[.slice A 2 c,.slice d 5 f,iv 0])∧am .string w' w'.heap.size A [bV,aK]∧am .string w' w'.heap.size d [bV,aT,aK,cD,aV]∧BW W w':=by
 obtain⟨b,p,q,rfl,t,g,i,k,l⟩:=h;have hag:bD [aA 200 (ab p.ms) (an p.cs),aA 200 (ab q.ms) (an q.cs)] [] 2=[0,1]:=by rw[g,i,k,l,jv,oL,yP]
 have j:gQ [aA 200 (ab p.ms) (an p.cs),aA 200 (ab q.ms) (an q.cs)] [0,1]=[dg,bW]:=by rw[g,i,k,l,jv,oL,yQ]
 have m:=EL b 0 2 p q [] none 0 200 W t (by decide) (by rw[g,i];exact kI) (by rw[k,l];exact ou) aG.nil (by decide) (fun s hs=>by cases hs)
 rw[hag,j]at m;refine(m (by decide) (by decide) (by decide)).mono ?_
 rintro e w' ⟨A,d,c,f,n,o,a,_,_,_,_,r⟩;rw[yR,oM]at n;rw[yR]at o;rw[oM]at a;exact⟨A,d,c,f,n,o,a,r⟩
theorem G2(h:oK W v):Cs 47 #[v,iv 200,.slice none 0 0] W (Rt W (.tuple #[.string aT,iv 10,iv 1,iv 0])):=by
 obtain⟨b,p,q,rfl,l,a,c,f,g⟩:=h;have hag:bD [aA 200 (ab p.ms) (an p.cs),aA 200 (ab q.ms) (an q.cs)] [] 2=[0,1]:=by rw[a,c,f,g,jv,oL,yP]
 have d:gQ [aA 200 (ab p.ms) (an p.cs),aA 200 (ab q.ms) (an q.cs)] [0,1]=[dg,bW]:=by rw[a,c,f,g,jv,oL,yQ]
 have i:=Fa b 0 2 p q [] none 0 200 W l (by decide) (by rw[a,c];exact kI) (by rw[f,g];exact ou) aG.nil (by decide) (fun s hs=>by cases hs)
 rw[hag,d]at i;refine(i (by decide) (by decide) (by decide) (by rw[oM,yS];kernel_rfl)).mono ?_
 rintro e w' ⟨j,k⟩;rw[oM,yS]at j;exact⟨j,k⟩
theorem yU:∀p∈bW,lI p∧(aM (jP p)).length≤100000:=by intro p a;simp only[bW,List.mem_cons,List.not_mem_nil,or_false]at a;rcases a with rfl | rfl | rfl<;>exact⟨⟨by decide,fun n hn=>by simp[kK]at hn;omega,by decide⟩,of_decide_eq_true (by kernel_rfl)⟩
theorem yV:∀c∈fR,1≤c.what∧c.what≤3∧(-9223372036854775808≤c.day∧c.day≤9223372036854775807)∧(c.what≠2→lI c.part)∧(aM (ic c)).length≤100000:=by intro c hc;simp only[fR,List.mem_cons,List.not_mem_nil,or_false]at hc;rcases hc with rfl | rfl<;>exact⟨by decide,by decide,by decide,fun _=>⟨by decide,fun n hn=>by simp[kK]at hn;omega,by decide⟩,of_decide_eq_true (by kernel_rfl)⟩
theorem G3(h:fo W 2 v)(j:fe W):Cs 48 #[v] W (Rt W (.tuple #[.string iw,iv 0])):=by
 obtain⟨A,C,cap,a,ms,cs,rfl,i,d,b⟩:=h;rw[nF]at b;refine(Fz A C cap a ms cs W i (by rw[d,b];exact kI) j (fun m hm=>yU m.p (d▸List.mem_map_of_mem hm)) (fun c hc=>yV c.c (b▸List.mem_map_of_mem hc)) ?_ ?_).mono ?_
 ·have:=congrArg List.length d;simp only[List.length_map]at this;rw[this];decide
 ·have:=congrArg List.length b;simp only[List.length_map]at this;rw[this];decide
 ·rintro e w' ⟨f,g⟩;rw[d,b,yM]at f;exact⟨f,g⟩
theorem yW:∀p∈bW,mC p:=by
 intro p b;simp only[bW,List.mem_cons,List.not_mem_nil,or_false]at b;have s5:∀s:ByteArray,s.size≤5→s.size≤maxLen:=fun s hs=>by unfold maxLen;omega
 rcases b with rfl | rfl | rfl<;>exact⟨s5 _ (by decide),fun o a=>by
  simp only[List.mem_cons,List.not_mem_nil,or_false]at a;all_goals first
  | (subst a;exact s5 _ (by decide))
  | (rcases a with rfl | rfl<;>exact s5 _ (by decide)),by decide⟩
theorem yX:∀c∈fR,mC c.part∧c.name.size≤maxLen:=by
 intro c hc;simp only[fR,List.mem_cons,List.not_mem_nil,or_false]at hc;have s5:∀s:ByteArray,s.size≤5→s.size≤maxLen:=fun s hs=>by unfold maxLen;omega
 rcases hc with rfl | rfl<;>exact⟨⟨s5 _ (by decide),fun o a=>by simp only[List.mem_cons,List.not_mem_nil,or_false]at a;subst a;exact s5 _ (by decide),by decide⟩,s5 _ (by decide)⟩
theorem G4(m:Int)(i:fe W)(g:W.cell? ⟨0,0,none⟩=some (iv m)):Cs 49 #[.string iw] W fun e w'=>∃v,e=.returned (.tuple #[v,iv 0])∧fo w' 2 v∧BW W w':=by
 refine(FH iw jf p9 m W i g GQ (of_decide_eq_true (by kernel_rfl)) (by rw[qf,qg];exact kI) (by rw[qf,qg];exact yM) (by rw[qf];exact yW) (by rw[qg];exact yX) (by rw[qf];exact yU) (by rw[qg];exact yV)).mono ?_
 rintro e w' ⟨A,C,cap,a,ms,cs,f,h,b,c,d⟩;exact⟨_,f,⟨A,C,cap,a,ms,cs,rfl,h,b,c⟩,d⟩
theorem G5(h:fo W 2 v)(k:fo W 2 u):Cs 57 #[v,u] W (Rt W (.bool true)):=by
 obtain⟨A,C,cap,a,ms,cs,rfl,g,d,f⟩:=h;obtain⟨A',C',cap',capc',ms',cs',rfl,kp,k1,k2⟩:=k;have hon:∀p∈bW,p.on.length≤1000000:=fun p g=>lT (yW p g).on (by omega)
 have b:∀c∈fR.take 2,c.part.on.length≤1000000:=fun c hc=>lT (yX c hc).1.on (by omega)
 refine GK A A' C C' ms ms' cs cs' cap cap' a capc' W g kp (by rw[d,k1]) (by rw[f,k2]) ?_ ?_ (by rw[d];exact hon) (by rw[f];exact b)
 ·have:=congrArg List.length d;simp only[List.length_map]at this;rw[this];decide
 ·have:=congrArg List.length f;simp only[List.length_map]at this;rw[this];decide
end
section
variable{T:Array Value}{Q:Exit→Act→World→Prop}{cs10:List ao}{ms ms1 ms10:List aj}{c1 c3 c4 c5 c6 c7 cap10 capc10 ga gb gc gw p1 p20 p3:Nat}{A A1 A10 A3 A4 A5 A6 A7 C10:Option Addr}{U V V0:World}
theorem G7(h:ab ms=dg):ms.length≤1000:=by have:=congrArg List.length h;simp only[List.length_map]at this;rw[this];decide
theorem G8(h:ab ms=dg):∀p∈ab ms,p.on.length≤1000000:=by rw[h];intro p a;simp only[dg,List.mem_cons,List.not_mem_nil,or_false]at a;rcases a with rfl | rfl | rfl | rfl<;>decide
theorem G9{W:World}(c:aa W ga 9 #[.string kL])(g:aa W gb 9 #[.string hd1,.string kL])(hc:aa W gc 9 #[.string hd1])(f:aa W gw 50 #[.string kL,iv 2,iv 0,iv 40,.slice none 0 0,iv 9000,iv 10000,.string hd1,iv 1,iv 10,iv 29,.slice (some ⟨ga,0,none⟩) 1 1,iv 800,iv 900,.string dK,iv 1,iv 5,iv 24,.slice (some ⟨gb,0,none⟩) 2 2,iv 3000,iv 3000,.string pp1,iv 5,iv 12,iv 30,.slice (some ⟨gc,0,none⟩) 1 1,iv 100,iv 200]) :
  az W W.heap.size (some ⟨gw,0,none⟩) 4 [⟨⟨aK,2,0,40,[],9000,10000⟩,none,0⟩,⟨⟨aT,1,10,29,[aK],800,900⟩,(some ⟨ga,0,none⟩),1⟩,⟨⟨bV,1,5,24,[aT,aK],3000,3000⟩,(some ⟨gb,0,none⟩),2⟩,⟨⟨cD,5,12,30,[aT],100,200⟩,(some ⟨gc,0,none⟩),1⟩]:=by
 have b:∀s:ByteArray,s.size≤5→s.size≤maxLen:=fun s hs=>by unfold maxLen;omega
 have i:aR W W.heap.size ⟨⟨aK,2,0,40,[],9000,10000⟩,none,0⟩:=vI rfl (b _ (by decide))
 have j:aR W W.heap.size ⟨⟨aT,1,10,29,[aK],800,900⟩,(some ⟨ga,0,none⟩),1⟩:=mr (p:=⟨aT,1,10,29,[aK],800,900⟩) c (b _ (by decide)) (fun o ho=>by simp only[List.mem_singleton]at ho;subst ho;exact b aK (by decide)) (by decide)
 have k:aR W W.heap.size ⟨⟨bV,1,5,24,[aT,aK],3000,3000⟩,(some ⟨gb,0,none⟩),2⟩:=mr (p:=⟨bV,1,5,24,[aT,aK],3000,3000⟩) g (b _ (by decide)) (fun o ho=>by simp only[List.mem_cons,List.not_mem_nil,or_false]at ho;rcases ho with rfl | rfl<;>exact b _ (by decide)) (by decide)
 have l:aR W W.heap.size ⟨⟨cD,5,12,30,[aT],100,200⟩,(some ⟨gc,0,none⟩),1⟩:=mr (p:=⟨cD,5,12,30,[aT],100,200⟩) hc (b _ (by decide)) (fun o ho=>by simp only[List.mem_singleton]at ho;subst ho;exact b aT (by decide)) (by decide)
 refine⟨⟨aa.rdN cH f,fun m d=>?_⟩,lr _,by unfold maxLen;omega,fun h=>(by cases h),fun a c=>?_⟩
 ·simp only[List.mem_cons,List.not_mem_nil,or_false]at d;rcases d with rfl | rfl | rfl | rfl
  ·exact i
  ·exact j
  ·exact k
  ·exact l
 ·injection c with c
  subst c;exact⟨rfl,f.lt⟩
noncomputable def lQ:Array Oper:=aU (aF Tryz.f18 12)
abbrev jZ(p1 p3 p20 c1 cap10 capc10:Nat)(A1 A10 C10:Option Addr)(ms1 ms10:List aj)(cs10:List ao)(W:World):Prop:=W.cell? ⟨p1,0,none⟩=some (.slice A1 ms1.length c1)∧cA W p3 0 (iv 5695)∧cA W p3 1 (iv 6440)∧cA W p20 0 (.slice A10 ms10.length cap10)∧cA W p20 1 (.slice C10 cs10.length capc10)
theorem z7{s:ByteArray}{b:Bool}(h:du s=b)(c:s.size≤maxLen)(a:BW V U):Cs 53 #[.string s] U fun e w'=>e=.returned (.bool b)∧BW V w':=h▸(oU s U c).mono fun _ _ h=>⟨h.1,bT a h.2⟩
theorem qh{l:List ByteArray}(c:Nat)(h:am .string V V.heap.size A l)(b:l.length≤1000000)(a:BW V U):Cs 55 #[.slice A l.length c,.slice (some ⟨U.heap.size,0,none⟩) l.length l.length] (U.alloc (.cells (l.map .string).toArray 9)) fun e w'=>e=.returned (.bool true)∧BW V w' :=
 (pN A (some ⟨U.heap.size,0,none⟩) l c l.length _ ((h.below (bA a _) (lr _)).more (bA a _).size) (aa.rd1 (xs:=l) (aa.new U 9 _)) b).mono fun _ _ h=>⟨h.1,bT (bA a _) h.2⟩
theorem qi{l:List Int}(c:Nat)(h:am iv V V.heap.size A l)(b:l.length≤1000000)(a:BW V U):Cs 56 #[.slice A l.length c,.slice (some ⟨U.heap.size,0,none⟩) l.length l.length] (U.alloc (.cells (l.map iv).toArray 3)) fun e w'=>e=.returned (.bool true)∧BW V w' :=
 (Fb A (some ⟨U.heap.size,0,none⟩) l c l.length _ ((h.below (bA a _) (lr _)).more (bA a _).size) (aa.rd1 (xs:=l) (aa.new U 3 _)) b).mono fun _ _ h=>⟨h.1,bT (bA a _) h.2⟩
abbrev z8(T:Array Value)(c3 c4 c5 c6 c7 gw p1 p20 p3:Nat)(A3 A4 A5 A6 A7:Option Addr):Prop:=aq 196 T [(1,pT p1 0),(2,iv 0),(3,pT p3 0),(4,iv 0),(5,.slice A3 3 c3),(6,iv 0),(7,.slice A4 4 c4),(8,iv 0),(9,.slice A5 1 c5),(10,iv 0),(11,.slice A6 2 c6),(12,.slice A7 5 c7),(13,iv 0),(14,.string hd1),(15,iv 10),(16,iv 1),(17,iv 0),(18,.string iw),(19,iv 0),(20,pT p20 0),(21,iv 0),(23,iv 4),(24,.slice (some ⟨gw,0,none⟩) 4 4)]
theorem Ha(d:Hid (∀W,BW V W→jZ p1 p3 p20 c1 cap10 capc10 A1 A10 C10 ms1 ms10 cs10 W))(j:Hid (∀U,BW V U→Cs 54 #[.slice A1 ms1.length c1,.slice (some ⟨gw,0,none⟩) 4 4] U fun e w'=>e=.returned (.bool true)∧BW V w'))(i:Hid (BW V V0))(H:z8 T c3 c4 c5 c6 c7 gw p1 p20 p3 A3 A4 A5 A6 A7)(hK:Hid (∀T' W',BW V W'→aq 196 T' [(5,.slice A3 3 c3),(7,.slice A4 4 c4),(9,.slice A5 1 c5),(11,.slice A6 2 c6),(12,.slice A7 5 c7),(14,.string hd1),(15,iv 10),(16,iv 1),(18,.string iw),(20,pT p20 0),(149,.bool true)]→wpAnyH Tryz.prog .any lQ (NoPanic Q) (jZ p1 p3 p20 c1 cap10 capc10 A1 A10 C10 ms1 ms10 cs10) 47 (bJ 104 57) ⟨T',[]⟩ W')):wpAnyH Tryz.prog .any lQ (NoPanic Q) (jZ p1 p3 p20 c1 cap10 capc10 A1 A10 C10 ms1 ms10 cs10) 104 (bJ 104 0) ⟨T,[]⟩ V0:=by
 have f:=d.out _ i.out;have a:=H.g 2;refine bM 0 93 (iv 0) H ?_;intro T H;have a:=H.g 93;refine bM 1 94 (.bool true) H ?_;intro T H;have a:=H.g 94;refine bM 2 95 (.bool true) H ?_;intro T H;refine dj 2 95 4 (iv 0) H fun T H=>?_
 refine dj 6 99 6 (iv 0) H fun T H=>?_
 refine dj 10 103 8 (iv 0) H fun T H=>?_
 refine dj 14 107 10 (iv 0) H fun T H=>?_
 refine dj 18 111 13 (iv 0) H fun T H=>?_
 refine dj 22 115 17 (iv 0) H fun T H=>?_
 refine dj 26 119 19 (iv 0) H fun T H=>?_
 refine dj 30 123 21 (iv 0) H fun T H=>?_
 refine dj 34 127 23 (iv 4) H fun T H=>?_
 refine fA 39 132 53 #[.string tk1] H (fJ d.out (z7 (s:=⟨#[116,97,110,107,49]⟩) (b:=true) (by kernel_rfl) (by unfold maxLen;decide) i.out)) ?_ (rI 38 131 H)
 rintro _ k T f ⟨rfl,c⟩ H;have K39:=Lq c;refine fB 40 133 131 132 H fun T H=>?_
 refine fA 42 135 53 #[.string ⟨#[49,116,97,110,107]⟩] H (fJ d.out (z7 (s:=⟨#[49,116,97,110,107]⟩) (b:=false) (by kernel_rfl) (by unfold maxLen;decide) K39.out)) ?_ (rI 41 134 H)
 rintro _ l T f ⟨rfl,c⟩ H;have K42:=Lq c;have a:=H.g 135;refine bM 43 136 (.bool true) H ?_ (rI 41 134 H);intro T H;refine fB 44 137 134 136 H fun T H=>?_
 have a:=H.g 1;refine bM 46 139 (pT p1 0) H ?_ (rI 45 138 H);intro T H;have a:=H.g 139;refine bM 47 140 (.slice A1 ms1.length c1) H ?_ (rI 45 138 H);intro T H;have a:=H.g 24;refine bM 48 141 (.slice (some ⟨gw,0,none⟩) 4 4) H ?_ (rI 45 138 H);intro T H;have a:=H.g 140;have x1:=H.g 141;refine fA 49 142 54 #[.slice A1 ms1.length c1,.slice (some ⟨gw,0,none⟩) 4 4] H (fJ d.out (j.out _ K42.out)) ?_ (rI 45 138 H);rintro _ w49 T f ⟨rfl,c⟩ H;have K49:=Lq c;refine fB 50 143 138 142 H fun T H=>?_
 have a:=H.g 3;refine bM 52 145 (.agg #[iv 5695,iv 6440]) H ?_ (rI 51 144 H);intro T H;refine fA 53 146 52 #[iv 5695,iv 6440] H (fJ d.out ((gu _ _ _).mono fun _ _ h=>⟨h.1,bT K49.out h.2⟩)) ?_ (rI 51 144 H)
 rintro _ m T f ⟨rfl,c⟩ H;have K53:=Lq c;have a:=H.g 145;have x1:=H.g 146;refine bM 54 147 (.bool true) H ?_ (rI 51 144 H);intro T H;refine fB 55 148 144 147 H fun T H=>?_
 exact hK.out _ _ K53.out (aq.cons (H.get 5 _) (aq.cons (H.get 7 _) (aq.cons (H.get 9 _) (aq.cons (H.get 11 _) (aq.cons (H.get 12 _) (aq.cons (H.get 14 _) (aq.cons (H.get 15 _) (aq.cons (H.get 16 _) (aq.cons (H.get 18 _) (aq.cons (H.get 20 _) (aq.cons (H.get 149 _) (aq.nil H.1))))))))))))
theorem Hb(a:Hid (∀W,BW V W→jZ p1 p3 p20 c1 cap10 capc10 A1 A10 C10 ms1 ms10 cs10 W))(m:Hid (am .string V V.heap.size A3 [aT,bV,cD]))(n:Hid (am .string V V.heap.size A4 [bV,aT,cD,aV]))(o:Hid (am iv V V.heap.size A5 [1]))(p:Hid (am .string V V.heap.size A6 [bV,aK]))(q:Hid (am .string V V.heap.size A7 [bV,aT,aK,cD,aV]))(k:Hid (BW V V0))(H:aq 196 T [(5,.slice A3 3 c3),(7,.slice A4 4 c4),(9,.slice A5 1 c5),(11,.slice A6 2 c6),(12,.slice A7 5 c7),(14,.string hd1),(15,iv 10),(16,iv 1),(18,.string iw),(20,pT p20 0),(149,.bool true)])(hK:Hid (∀T' W',BW V W'→aq 196 T' [(14,.string hd1),(15,iv 10),(16,iv 1),(18,.string iw),(20,pT p20 0),(174,.bool true)]→wpAnyH Tryz.prog .any lQ (NoPanic Q) (jZ p1 p3 p20 c1 cap10 capc10 A1 A10 C10 ms1 ms10 cs10) 22 (bJ 104 82) ⟨T',[]⟩ W')):wpAnyH Tryz.prog .any lQ (NoPanic Q) (jZ p1 p3 p20 c1 cap10 capc10 A1 A10 C10 ms1 ms10 cs10) 47 (bJ 104 57) ⟨T,[]⟩ V0:=by
 have j:=a.out _ k.out;have c:=H.g 5;refine bM 57 150 (.slice A3 3 c3) H ?_ (rI 56 149 H);intro T H;refine lP 58 151 (.slice (some ⟨V0.heap.size,0,none⟩) 3 3) (V0.alloc (.cells #[.string hd1,.string dK,.string pp1] 9)) H ?_ (a.out _ (bA k.out _)) (rI 56 149 H);intro T H;have c:=H.g 150;have x1:=H.g 151;refine fA 59 152 55 #[.slice A3 3 c3,.slice (some ⟨V0.heap.size,0,none⟩) 3 3] H (fJ a.out (qh (l:=[aT,bV,cD]) c3 m.out (by decide) k.out)) ?_ (rI 56 149 H)
 rintro _ d T j ⟨rfl,b⟩ H;have K59:=Lq b;refine fB 60 153 149 152 H fun T H=>?_
 have c:=H.g 7;refine bM 62 155 (.slice A4 4 c4) H ?_ (rI 61 154 H);intro T H;refine lP 63 156 (.slice (some ⟨d.heap.size,0,none⟩) 4 4) (d.alloc (.cells #[.string dK,.string hd1,.string pp1,.string tk1] 9)) H ?_ (a.out _ (bA K59.out _)) (rI 61 154 H);intro T H;have c:=H.g 155;have x1:=H.g 156;refine fA 64 157 55 #[.slice A4 4 c4,.slice (some ⟨d.heap.size,0,none⟩) 4 4] H (fJ a.out (qh (l:=[bV,aT,cD,aV]) c4 n.out (by decide) K59.out)) ?_ (rI 61 154 H)
 rintro _ f T j ⟨rfl,b⟩ H;have K64:=Lq b;refine fB 65 158 154 157 H fun T H=>?_
 have c:=H.g 9;refine bM 67 160 (.slice A5 1 c5) H ?_ (rI 66 159 H);intro T H;refine lP 68 161 (.slice (some ⟨f.heap.size,0,none⟩) 1 1) (f.alloc (.cells #[iv 1] 3)) H ?_ (a.out _ (bA K64.out _)) (rI 66 159 H);intro T H;have c:=H.g 160;have x1:=H.g 161;refine fA 69 162 56 #[.slice A5 1 c5,.slice (some ⟨f.heap.size,0,none⟩) 1 1] H (fJ a.out (qi (l:=[1]) c5 o.out (by decide) K64.out)) ?_ (rI 66 159 H)
 rintro _ h T j ⟨rfl,b⟩ H;have K69:=Lq b;refine fB 70 163 159 162 H fun T H=>?_
 have c:=H.g 11;refine bM 72 165 (.slice A6 2 c6) H ?_ (rI 71 164 H);intro T H;refine lP 73 166 (.slice (some ⟨h.heap.size,0,none⟩) 2 2) (h.alloc (.cells #[.string dK,.string kL] 9)) H ?_ (a.out _ (bA K69.out _)) (rI 71 164 H);intro T H;have c:=H.g 165;have x1:=H.g 166;refine fA 74 167 55 #[.slice A6 2 c6,.slice (some ⟨h.heap.size,0,none⟩) 2 2] H (fJ a.out (qh (l:=[bV,aK]) c6 p.out (by decide) K69.out)) ?_ (rI 71 164 H)
 rintro _ i T j ⟨rfl,b⟩ H;have K74:=Lq b;refine fB 75 168 164 167 H fun T H=>?_
 have c:=H.g 12;refine bM 77 170 (.slice A7 5 c7) H ?_ (rI 76 169 H);intro T H;refine lP 78 171 (.slice (some ⟨i.heap.size,0,none⟩) 5 5) (i.alloc (.cells #[.string dK,.string hd1,.string kL,.string pp1,.string tk1] 9)) H ?_ (a.out _ (bA K74.out _)) (rI 76 169 H);intro T H;have c:=H.g 170;have x1:=H.g 171;refine fA 79 172 55 #[.slice A7 5 c7,.slice (some ⟨i.heap.size,0,none⟩) 5 5] H (fJ a.out (qh (l:=[bV,aT,aK,cD,aV]) c7 q.out (by decide) K74.out)) ?_ (rI 76 169 H)
 rintro _ r T j ⟨rfl,b⟩ H;have K79:=Lq b;refine fB 80 173 169 172 H fun T H=>?_
 exact hK.out _ _ K79.out (aq.cons (H.get 14 _) (aq.cons (H.get 15 _) (aq.cons (H.get 16 _) (aq.cons (H.get 18 _) (aq.cons (H.get 20 _) (aq.cons (H.get 174 _) (aq.nil H.1)))))))
theorem Hc(c:Hid (∀W,BW V W→jZ p1 p3 p20 c1 cap10 capc10 A1 A10 C10 ms1 ms10 cs10 W))(d:Hid (∀U,BW V U→Cs 41 #[iv 2] U fun e w'=>∃v,e=.returned v∧fo w' 2 v∧BW V w'))(f:Hid (∀U v,BW V U→fo U 2 v→Cs 57 #[.agg #[.slice A10 ms10.length cap10,.slice C10 cs10.length capc10],v] U fun e w'=>e=.returned (.bool true)∧BW V w'))(j:Hid (BW V V0))(H:aq 196 T [(14,.string hd1),(15,iv 10),(16,iv 1),(18,.string iw),(20,pT p20 0),(174,.bool true)])(hK:Hid (∀T' W',BW V W'→aq 196 T' [(0,.bool true)]→wpAnyH Tryz.prog .any lQ (NoPanic Q) (jZ p1 p3 p20 c1 cap10 capc10 A1 A10 C10 ms1 ms10 cs10) 0 (bJ 104 104) ⟨T',[]⟩ W')):wpAnyH Tryz.prog .any lQ (NoPanic Q) (jZ p1 p3 p20 c1 cap10 capc10 A1 A10 C10 ms1 ms10 cs10) 22 (bJ 104 82) ⟨T,[]⟩ V0:=by
 have i:=c.out _ j.out;refine dj 81 174 14 (.string hd1) H fun T H=>?_
 refine dj 85 178 15 (iv 10) H fun T H=>?_
 refine dj 89 182 16 (iv 1) H fun T H=>?_
 have b:=H.g 18;refine bM 94 187 (.string iw) H ?_ (rI 93 186 H);intro T H;refine fA 95 188 50 #[] H (fJ c.out ((vH _).mono fun _ _ h=>⟨h.1,h.2▸j.out⟩)) ?_ (rI 93 186 H)
 rintro _ k T i ⟨rfl,a⟩ H;have K95:=Lq a;have b:=H.g 187;have x1:=H.g 188;refine bM 96 189 (.bool true) H ?_ (rI 93 186 H);intro T H;refine fB 97 190 186 189 H fun T H=>?_
 have b:=H.g 20;refine bM 99 192 (.agg #[.slice A10 ms10.length cap10,.slice C10 cs10.length capc10]) H ?_ (rI 98 191 H);intro T H;refine fA 100 193 41 #[iv 2] H (G6 c.out (d.out _ K95.out)) ?_ (rI 98 191 H);rintro v100 w100 T i ⟨hv,a⟩ H;have K100:=Lq a;have HV:=Lq hv;have b:=H.g 192;have x1:=H.g 193;refine fA 101 194 57 #[.agg #[.slice A10 ms10.length cap10,.slice C10 cs10.length capc10],v100] H (fJ c.out (f.out _ _ K100.out HV.out)) ?_ (rI 98 191 H);rintro _ w101 T i ⟨rfl,a⟩ H;have K101:=Lq a;have b:=H.g 191;have x1:=H.g 194;refine bM 102 195 (.bool true) H ?_;intro T H;have b:=H.g 195;refine bM 103 0 (.bool true) H ?_;intro T H;exact hK.out _ _ K101.out (aq.cons (H.get 0 _) (aq.nil H.1))
theorem Hd{c:Code}(hc:c=Code.region 12 lQ true)(z:aa V p1 24 #[.slice A1 ms1.length c1])(B:aa V p3 33 #[iv 5695,iv 6440])(l:aa V p20 27 #[.slice A10 ms10.length cap10,.slice C10 cs10.length capc10])(a:ab ms1=dg)(t:az V V.heap.size A1 c1 ms1)(d:az V V.heap.size (some ⟨gw,0,none⟩) 4 [⟨⟨aK,2,0,40,[],9000,10000⟩,none,0⟩,⟨⟨aT,1,10,29,[aK],800,900⟩,(some ⟨ga,0,none⟩),1⟩,⟨⟨bV,1,5,24,[aT,aK],3000,3000⟩,(some ⟨gb,0,none⟩),2⟩,⟨⟨cD,5,12,30,[aT],100,200⟩,(some ⟨gc,0,none⟩),1⟩])(b:fo V 2 (.agg #[.slice A10 ms10.length cap10,.slice C10 cs10.length capc10]))(n:am .string V V.heap.size A3 [aT,bV,cD])(o:am .string V V.heap.size A4 [bV,aT,cD,aV])(p:am iv V V.heap.size A5 [1])(q:am .string V V.heap.size A6 [bV,aK])(s:am .string V V.heap.size A7 [bV,aT,aK,cD,aV])(H:z8 T c3 c4 c5 c6 c7 gw p1 p20 p3 A3 A4 A5 A6 A7)(y:∀T W,BW V W→aq 196 T [(0,.bool true)]→Q .normal ⟨T,[]⟩ W):c.wp Tryz.prog Q ⟨T,[]⟩ V:=by
 have f:Hid (∀W,BW V W→jZ p1 p3 p20 c1 cap10 capc10 A1 A10 C10 ms1 ms10 cs10 W):=Lq fun W hb=>have k1:=z.keep hb;have k3:=B.keep hb;have k20:=l.keep hb;⟨k1.c 0,k3.c 0,k3.c 1,k20.c 0,k20.c 1⟩
 have x:Hid (∀U,BW V U→Cs 54 #[.slice A1 ms1.length c1,.slice (some ⟨gw,0,none⟩) 4 4] U fun e w'=>e=.returned (.bool true)∧BW V w'):=Lq fun U hb=>(yI A1 (some ⟨gw,0,none⟩) ms1 [⟨⟨aK,2,0,40,[],9000,10000⟩,none,0⟩,⟨⟨aT,1,10,29,[aK],800,900⟩,(some ⟨ga,0,none⟩),1⟩,⟨⟨bV,1,5,24,[aT,aK],3000,3000⟩,(some ⟨gb,0,none⟩),2⟩,⟨⟨cD,5,12,30,[aT],100,200⟩,(some ⟨gc,0,none⟩),1⟩] c1 4 U ((t.below hb (lr _)).more hb.size) ((d.below hb (lr _)).more hb.size) a (G7 a) (G8 a)).mono fun _ _ h=>⟨h.1,bT hb h.2⟩
 have g:Hid (∀U,BW V U→Cs 41 #[iv 2] U fun e w'=>∃v,e=.returned v∧fo w' 2 v∧BW V w'):=Lq fun U hb=>(lO 2 (by decide) U).mono fun _ _ ⟨v,h1,h2,h3⟩=>⟨v,h1,h2,bT hb h3⟩
 have i:Hid (∀U v,BW V U→fo U 2 v→Cs 57 #[.agg #[.slice A10 ms10.length cap10,.slice C10 cs10.length capc10],v] U fun e w'=>e=.returned (.bool true)∧BW V w'):=Lq fun U v hb hv=>(G5 (b.below hb) hv).mono fun _ _ h=>⟨h.1,bT hb h.2⟩
 refine yZ (m:=104) (r:=12) (ops:=lQ) f.out (fun V0 j E=>?_) (hc:=hc)
 exact Ha f x (Lq j) H (Lq fun C D k u=>Hb f (Lq n) (Lq o) (Lq p) (Lq q) (Lq s) (Lq k) u (Lq fun T2 V2 hb2 H2=>Hc f g i (Lq hb2) H2 (Lq fun T5 V5 hb5 H5=>wpAnyH_done (by kernel_rfl) (NoPanic.normal (y T5 V5 hb5 H5)) _)))
end
def qj(l:List Int)(w:World)(e:Ending)(w':World):Prop:=∃L cap,e=.returned (.slice L l.length cap)∧BW w w'∧am iv w' w'.heap.size L l
theorem Ac(y:ar)(A:aI)(a:Int)(w:World)(d:y.papers.length≤10):Cs 75 #[.agg (ak y A),iv a] w (qj (bC a y.papers.length) w):=by refine(DN y A a w d).mono ?_;rintro e w' ⟨v,rfl,c,b⟩;obtain⟨L,cap,rfl,hr, -⟩:=io b;exact⟨L,cap,rfl,c,hr⟩
theorem sQ(y:ar)(A:aI)(B f:Nat)(w:World)(H:aO w B y A)(g:B≤w.heap.size)(o:dc y)(t:cE y (bC (-1) y.papers.length))(hc:cN y (bC (-1) y.papers.length) f=some true) :
  Cs 22 #[.agg (ak y A)] w (Rt w (.tuple #[.agg (ak y A),iv 0])):=by
 obtain⟨u,r,b⟩:=nA w (.cells (ak y A) 46);obtain⟨g1,hg1⟩:=ex w.heap.size;have q1:aa u g1 46 (ak y A):=by rw[←r,←hg1];exact aa.new w 46 _
 obtain⟨E,s,d⟩:=nA u (.cells #[.slice none 0 0,.slice none 0 0,.slice none 0 0,.slice none 0 0,.slice none 0 0] 74);obtain⟨g2,hg2⟩:=ex u.heap.size;have q2:aa E g2 74 #[.slice none 0 0,.slice none 0 0,.slice none 0 0,.slice none 0 0,.slice none 0 0]:=by rw[←s,←hg2];exact aa.new u 74 _
 have n:=q1.keep d;have HB:=Lq (bT b d);have HG2:Hid (w.heap.size≤g2):=Lq (by rw[←hg2];exact b.size)
 have D:=Lq q2;have HOP:=Lq (oF y A B none [] 0 E (H.below (bT b d) g) (lT g (bT b d).size) o (by unfold maxLen;simp) am.nil (fun k x hx=>by simp at hx))
 have j:Hid (∀W,Cs 75 #[.agg (ak y A),iv (-1)] W (qj (bC (-1) y.papers.length) W)):=Lq fun W=>Ac y A (-1) W o.papers
 have m:Hid (∀W (L:Option Addr) cap,BW E W→am iv W W.heap.size L (bC (-1) y.papers.length)→Cs 21 #[.agg (ak y A),.slice L (bC (-1) y.papers.length).length cap] W (Rt W (.bool true))):=Lq fun W L cap hb hr=>nu y A W.heap.size L _ cap f true W ((H.below (bT (bT b d) hb) g).below (B':=W.heap.size) (bR _) (lT g (bT (bT b d) hb).size) |> fun h=>⟨h.k.more (lT g (bT (bT b d) hb).size),h.p.more (lT g (bT (bT b d) hb).size),h.f.more (lT g (bT (bT b d) hb).size),h.a.more (lT g (bT (bT b d) hb).size),h.l.more (lT g (bT (bT b d) hb).size),h.lk,h.lp,h.lf,h.la,h.ll,h.sk,h.sp⟩) (lr _) o.pap (by have h:=rN (-1) y.papers.length;have:=o.papers;unfold maxLen;omega) hr t (by have:=o.kinds;omega) hc
 obtain⟨G,I,J,K,M⟩:=n.c5;have l1:=n.lt;obtain⟨la,hla⟩:=ex (bC (-1) y.papers.length);rw[hla]at j m;clear H g o t hc b q1 d q2 n hla;go_enter Tryz.func22,Tryz.ntmps22
 go_wp2_with fail;refine HOP.out.mono ?_;rintro e F ⟨rfl,(z:Hid _)⟩;clear HOP G I J K M l1 r s hg1 hg2;obtain⟨Wa,Wb,hWa,hWb,hbb,qa,hba,qb⟩:=fh F 74 (.slice none 0 0) (.slice none 0 0) (.slice none 0 0) (.slice none 0 0) (.slice none 0 0) (.slice A.k y.kinds.length A.ck) (.slice A.p y.places.length A.cp) (.slice A.f y.first.length A.cf) (.slice A.a y.papers.length A.ca) (.slice A.l y.last.length A.cl);obtain⟨g4,hg4⟩:=ex F.heap.size;rw[hg4]at hWb qa qb;obtain⟨f0,f1,f2,f3,f4⟩:=qa.f5;obtain⟨e0,e1,e2,e3,e4⟩:=qa.c5;have el:=qa.lt;have HBX:=Lq (bT z.out hbb);have HQ4:Hid (aa Wb g4 74 (ak y A)):=Lq qb;clear hbb qa hba qb;go_upto_region 2 with fail
 clear f0 f1 f2 f3 f4 e0 e1 e2 e3 e4 el hWa hWb hg4;have q:Hid (∀W,BW Wb W→cA W g4 0 (.slice A.k y.kinds.length A.ck)∧cA W g4 1 (.slice A.p y.places.length A.cp)∧cA W g4 2 (.slice A.f y.first.length A.cf)∧cA W g4 3 (.slice A.a y.papers.length A.ca)∧cA W g4 4 (.slice A.l y.last.length A.cl)):=Lq fun W hb=>⟨(HQ4.out.keep hb).c 0,(HQ4.out.keep hb).c 1,(HQ4.out.keep hb).c 2,(HQ4.out.keep hb).c 3,(HQ4.out.keep hb).c 4⟩
 obtain⟨N,O,R,S,T⟩:=q.out _ (bR _);go_region_held3 (fun W=>cA W g4 0 (.slice A.k y.kinds.length A.ck)∧cA W g4 1 (.slice A.p y.places.length A.cp)∧cA W g4 2 (.slice A.f y.first.length A.cf)∧cA W g4 3 (.slice A.a y.papers.length A.ca)∧cA W g4 4 (.slice A.l y.last.length A.cl)) (first | exact q.out _ (bT (u0 hb5) hb6) | exact q.out _ (u0 hb5) | exact q.out _ (aZ (bR _))) (first | (go_at_call 75;((with_reducible refine(j.out _).mono ?_);rintro e w5 ⟨L5,c5,rfl,hb5,hr5⟩)) | (go_at_call 21;((with_reducible refine(m.out _ _ _ (bT HBX.out (u0 hb5)) hr5).mono ?_);rintro e w6 ⟨rfl,hb6⟩)))
 have i:=Lq (bT (u0 hb5) hb6);clear hb5 hr5 hb6 N O R S T j m;obtain⟨N,O,R,S,T⟩:=q.out _ i.out;have yl:=(HQ4.out.keep i.out).lt;have q2:=D.out.keep (bT HBX.out i.out);obtain⟨G,I,J,K,M⟩:=q2.c5;obtain⟨f0,f1,f2,f3,f4⟩:=q2.f5;have l2:=q2.lt;have qs:=((((q2.set_ 0 (.slice A.k y.kinds.length A.ck)).set_ 1 (.slice A.p y.places.length A.cp)).set_ 2 (.slice A.f y.first.length A.cf)).set_ 3 (.slice A.a y.papers.length A.ca)).set_ 4 (.slice A.l y.last.length A.cl);simp only[List.setIfInBounds_toArray,List.set_cons_zero,List.set_cons_succ]at qs;obtain⟨d0,d1,d2,d3,d4⟩:=qs.c5;have HBE:Hid (∀W,BW w W→BW w (((((W.setCell ⟨g2,0,none⟩ (.slice A.k y.kinds.length A.ck)).setCell ⟨g2,1,none⟩ (.slice A.p y.places.length A.cp)).setCell ⟨g2,2,none⟩ (.slice A.f y.first.length A.cf)).setCell ⟨g2,3,none⟩ (.slice A.a y.papers.length A.ca)).setCell ⟨g2,4,none⟩ (.slice A.l y.last.length A.cl))):=Lq fun W hb=>aH (aH (aH (aH (aH hb HG2.out (p:=⟨g2,0,none⟩) _) HG2.out (p:=⟨g2,1,none⟩) _) HG2.out (p:=⟨g2,2,none⟩) _) HG2.out (p:=⟨g2,3,none⟩) _) HG2.out (p:=⟨g2,4,none⟩) _
 have C:=Lq (HBE.out _ (bT HB.out (bT HBX.out i.out)));clear q2 qs HBE;go_wp2_with fail;exact bodyPost_ret (v:=.tuple #[.agg (ak y A),iv 0]) (by simp[results,Tryz.results22,go_sem,d0,d1,d2,d3,d4]) rfl ⟨rfl,C.out⟩
theorem aO.more{w:World}{B B':Nat}{y:ar}{A:aI}(h:aO w B y A)(b:B≤B'):aO w B' y A :=
 ⟨h.k.more b,h.p.more b,h.f.more b,h.a.more b,h.l.more b,h.lk,h.lp,h.lf,h.la,h.ll,h.sk,h.sp⟩
def ke(mb:Nat→Bool)(m:Nat):List Int:=((List.range m).filter fun i=>!mb i).map fun(i:Nat)=>(i:Int)
theorem Ad(a:Nat→Bool)(m:Nat):ke a (m+1)=ke a m++(if a m=true then[]else[(m:Int)]):=by
 unfold ke;rw[List.range_succ,List.filter_append,List.map_append]
 congr 1
 cases h:a m<;>simp[h]
theorem He(a:Nat→Bool)(m:Nat):(ke a m).length≤m:=by unfold ke;rw[List.length_map];exact lT (List.length_filter_le _ _) (by simp)
theorem Hf(y:ar)(A:aI)(B f:Nat)(d:Nat→Bool)(w:World)(H:aO w B y A)(u:B≤w.heap.size)(q:dc y)(D:cE y (bC (-1) y.papers.length))(hc:cN y (bC (-1) y.papers.length) f=some true)(g:∀i:Nat,i<y.papers.length→cE y (bC i y.papers.length))(z:∀i:Nat,i<y.papers.length→cN y (bC i y.papers.length) f=some (d i)) :
  Cs 61 #[.agg (ak y A)] w fun e w'=>∃v,e=.returned (.tuple #[v,iv 0])∧BW w w'∧w'.ownsRow w.heap.size 3 1 v (ke d y.papers.length).length ((ke d y.papers.length).map iv):=by
 obtain⟨E,x,o⟩:=nA w (.cells (ak y A) 46);obtain⟨g1,hg1⟩:=ex w.heap.size;have q1:aa E g1 46 (ak y A):=by rw[←x,←hg1];exact aa.new w 46 _
 have K:=Lq o;have HEN:=Lq (sQ y A B f E (H.below o u) (lT u o.size) q D hc);have HAL:Hid (∀(i:Nat) W,Cs 75 #[.agg (ak y A),iv i] W (qj (bC i y.papers.length) W)):=Lq fun i W=>Ac y A i W q.papers
 have G:Hid (∀(i:Nat) W (L:Option Addr) cap,i<y.papers.length→BW E W→am iv W W.heap.size L (bC i y.papers.length)→Cs 21 #[.agg (ak y A),.slice L (bC i y.papers.length).length cap] W (Rt W (.bool (d i)))):=Lq fun i W L cap hi hb hr=>nu y A W.heap.size L _ cap f (d i) W ((H.below (bT o hb) u).more (lT u (bT o hb).size)) (lr _) q.pap (by have h:=rN i y.papers.length;have:=q.papers;unfold maxLen;omega) hr (g i hi) (by have:=q.kinds;omega) (z i hi)
 have R:=q.papers;have hbz:w.heap.size≤E.heap.size:=o.size;obtain⟨x0,x1,x2,x3,x4⟩:=q1.c5;have l1:=q1.lt;clear H u q D hc g z o q1;go_enter Tryz.func61,Tryz.ntmps61
 go_wp2_with fail;refine HEN.out.mono ?_;rintro e N ⟨rfl,(F:Hid _)⟩;clear HEN x0 x1 x2 x3 x4 l1 x hg1;obtain⟨Wa,Wb,hWa,hWb,hbb,qa,hba,qb⟩:=fh N 74 (.slice none 0 0) (.slice none 0 0) (.slice none 0 0) (.slice none 0 0) (.slice none 0 0) (.slice A.k y.kinds.length A.ck) (.slice A.p y.places.length A.cp) (.slice A.f y.first.length A.cf) (.slice A.a y.papers.length A.ca) (.slice A.l y.last.length A.cl);obtain⟨g4,hg4⟩:=ex N.heap.size;rw[hg4]at hWb qa qb;obtain⟨f0,f1,f2,f3,f4⟩:=qa.f5;obtain⟨e0,e1,e2,e3,e4⟩:=qa.c5;have el:=qa.lt;obtain⟨d0,d1,d2,d3,d4⟩:=qb.c5;have dl:=qb.lt;have HBX:=Lq (bT F.out hbb);have HQ4:Hid (aa Wb g4 74 (ak y A)):=Lq qb;clear hbb qa hba qb;go_wp2_with fail;clear f0 f1 f2 f3 f4 e0 e1 e2 e3 e4 el d0 d1 d2 d3 d4 dl hWa hWb hg4;have HS:Hid (∀W,BW Wb W→cA W g4 0 (.slice A.k y.kinds.length A.ck)∧cA W g4 1 (.slice A.p y.places.length A.cp)∧cA W g4 2 (.slice A.f y.first.length A.cf)∧cA W g4 3 (.slice A.a y.papers.length A.ca)∧cA W g4 4 (.slice A.l y.last.length A.cl)):=Lq fun W hb=>⟨(HQ4.out.keep hb).c 0,(HQ4.out.keep hb).c 1,(HQ4.out.keep hb).c 2,(HQ4.out.keep hb).c 3,(HQ4.out.keep hb).c 4⟩
 go_loopw [18,2] (fun i v wr=>∃m:Nat,m≤y.papers.length∧i=iv m∧Hid (wr.ownsRow Wb.heap.size 3 1 v (ke d m).length ((ke d m).map iv))∧Hid (BW Wb wr)) (fun i _ _=>y.papers.length-(intOf i).toNat)
 case atStart=>exact⟨0,Nat.zero_le _,rfl,Lq (World.ownsRow_nil _ _ _ _),Lq (bR _)⟩
 case round =>
  obtain⟨m,Z,rfl,I,b⟩:=hrel;have hk0:=nn m;by_cases hlt:m<y.papers.length
  case neg =>
   obtain rfl:m=y.papers.length:=by omega
   go_wp2_with fail
   go_ret2
   exact⟨_,rfl,bT K.out (bT HBX.out b.out),dv I.out (bT K.out HBX.out).size⟩
  have O:(m:Int)<(y.papers.length:Int):=by omega
  obtain⟨J,s⟩:=ex (bC m y.papers.length);have HAM:Hid (∀W,Cs 75 #[.agg (ak y A),iv m] W (qj J W)):=Lq fun W=>s▸HAL.out m W
  obtain⟨M,r⟩:=ex (d m);have HBM:=Lq r;have HCM:Hid (∀W (L:Option Addr) cap,BW Wb W→am iv W W.heap.size L J→Cs 21 #[.agg (ak y A),.slice L J.length cap] W (Rt W (.bool M))):=Lq fun W L cap hb hr=>by have h:=G.out m W L cap hlt (bT HBX.out hb);rw[s,r]at h;exact h hr
  obtain⟨T,U,V,X,Y⟩:=HS.out _ b.out;clear s r;go_upto_region 7 with fail
  go_region_held3 (fun W=>cA W g4 0 (.slice A.k y.kinds.length A.ck)∧cA W g4 1 (.slice A.p y.places.length A.cp)∧cA W g4 2 (.slice A.f y.first.length A.cf)∧cA W g4 3 (.slice A.a y.papers.length A.ca)∧cA W g4 4 (.slice A.l y.last.length A.cl)) (first | exact HS.out _ (bT b.out (bT (u0 hb5) hb6)) | exact HS.out _ (bT b.out (u0 hb5)) | exact HS.out _ (bT b.out (aZ (bR _)))) (first | (go_at_call 75;((with_reducible refine(HAM.out _).mono ?_);rintro e w5 ⟨L5,c5,rfl,hb5,hr5⟩)) | (go_at_call 21;((with_reducible refine(HCM.out _ _ _ (bT b.out (u0 hb5)) hr5).mono ?_);rintro e w6 ⟨rfl,hb6⟩)))
  have n:=Lq (bT b.out (bT (u0 hb5) hb6));have OW6:=Lq (aN I.out (bT (u0 hb5) hb6));clear hb5 hr5 hb6 T U V X Y HAM HCM I;cases M
  ·have t:=Lq (aN OW6.out (bA (bR w6) (.cells #[iv m] 3)));have HBa:=Lq (bA n.out (.cells #[iv m] 3));obtain⟨i3,hi3,hz0,hz1,hz2⟩:=info_parts Tryz.info3w;have hln:=He d m;go_wp2_with (at_builtin;refine wpList_append_own_at _ rfl _ _ 48 rfl Wb.heap.size 3 i3 _ 1 8 Tryz.underlying48 hi3 hz0 hz1 hz2 rfl (by decide) _ _ _ rfl t.out ⟨w6.heap.size,0,none⟩ 1 1 [iv m] rfl rfl (fW _ _ _) ?d2 ?d3 ?d4 ?d5 ?_)
   case d2=>simp[Value.oneCell']
   case d3=>unfold maxLen;omega
   case d4=>omega
   case d5=>(try simp only[World.size_alloc]);have:=n.out.size;omega
   intro v2 S j C _ _;have HB7:Hid (BW Wb S):=Lq (cC t.out C (lr _) HBa.out);have OW7:=Lq j;clear j C hi3 hz0 hz1 hz2;go_wp2_with fail;go_roundw
   case rel=>exact⟨m+1,hlt,by go_num,Lq (by rw[Ad,if_neg (by rw[HBM.out];decide)];simpa using OW7.out),HB7⟩
   case measure=>simp[intOf];omega
  ·go_wp2_with fail;go_roundw
   case rel=>exact⟨m+1,hlt,by go_num,Lq (by rw[Ad,if_pos HBM.out];simpa using OW6.out),n⟩
   case measure=>simp[intOf];omega
end Go.Proofs.YtbillnhcmkpohaaGreatDoor
