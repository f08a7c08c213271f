/- The reference compares ships (printed by mkHE3.py). The reference: a region of Same .. -/
import Derived.Test.YtigcophcpboanaaGreatDoorM19
set_option maxRecDepth 1000000
set_option maxHeartbeats 0
namespace Go.Proofs.YtigcophcpboanaaGreatDoor
open Go.RowKit Go.Shelf
attribute [local go_sem] Oper.semAt_some
theorem ships34_same(A B:Option Addr)(xs ys:List HuM)(c c':Nat)(w:World)(HA:SlM w w.heap.size A c xs)(HB:SlM w w.heap.size B c' ys)(he:psOf xs=psOf ys)(hl:xs.length≤1000)(hon:∀p∈psOf xs,p.on.length≤1000000) :
  Cs 30 #[.slice A xs.length c,.slice B ys.length c'] w (Rt w (.bool true)):=by
 have hll:ys.length=xs.length:=by have:=congrArg List.length he;simpa using this.symm
 have HSA:=Lq HA;have HSB:=Lq HB;have HE:=Lq he;have HON:=Lq hon;rw[hll];clear HA HB he hon;go_enter Tryz.func30,Tryz.ntmps30
 go_wp2_with fail;go_loopw [5,6] (fun b i wr=>∃k:Nat,k≤xs.length∧i=iv k∧b=.bool true∧Hid (BW w wr)) (fun _ i _=>xs.length-(intOf i).toNat)
 case atStart=>exact⟨0,Nat.zero_le _,rfl,rfl,Lq (bR _)⟩
 case round =>
  obtain⟨k,hk,rfl,rfl,HBW⟩:=hrel;have hk0:(0:Int)≤(k:Int):=by omega
  have hkw:IntKind.i64.wrap ((k:Int)+1)=(k:Int)+1:=by rw[IntKind.wrap_i64];omega
  by_cases hlt:k<xs.length
  ·obtain⟨x,hx⟩:=gX (l:=xs) (i:=k) hlt;obtain⟨y,hy⟩:=gX (l:=ys) (i:=k) (by omega)
   have hxy:x.p=y.p:=by
    have h1:=ps_at hx;have h2:=ps_at hy;rw[HE.out,h2]at h1;injection h1 with h1
    exact h1.symm
   have hxo:=HON.out x.p (mG ⟨k,ps_at hx⟩);obtain⟨xp,xA,xc⟩:=x;obtain⟨yp,yA,yc⟩:=y;simp only at hxy hxo;subst hxy;obtain⟨pn,pk,pf,pl,pon,pw,pz⟩:=xp;simp only at hxo;have hsa:=HSA.out.below HBW.out (lr _);have hsb:=HSB.out.below HBW.out (lr _);obtain⟨b1,o1,rfl,hb1,hmx,a0,a1,a2,a3,a4,a5,a6⟩:=hsa.rd.at hx;obtain⟨b2,o2,rfl,hb2,hmy,c0,c1,c2,c3,c4,c5,c6⟩:=hsb.rd.at hy;simp only at a0 a1 a2 a3 a4 a5 a6 c0 c1 c2 c3 c4 c5 c6 hmx hmy;have HS:Hid (∀W,BW wr W→cA W b1 (o1+k*7) (.string pn)∧cA W b1 (o1+k*7+1) (iv pk)∧cA W b1 (o1+k*7+2) (iv pf)∧cA W b1 (o1+k*7+3) (iv pl)∧cA W b1 (o1+k*7+4) (.slice xA pon.length xc)∧cA W b1 (o1+k*7+5) (iv pw)∧cA W b1 (o1+k*7+6) (iv pz)∧cA W b2 (o2+k*7) (.string pn)∧cA W b2 (o2+k*7+1) (iv pk)∧cA W b2 (o2+k*7+2) (iv pf)∧cA W b2 (o2+k*7+3) (iv pl)∧cA W b2 (o2+k*7+4) (.slice yA pon.length yc)∧cA W b2 (o2+k*7+5) (iv pw)∧cA W b2 (o2+k*7+6) (iv pz)):=Lq fun W hb=>by
    have ka:∀{o:Nat} {v:Value},wr.cell? ⟨b1,o,none⟩=some v→cA W b1 o v:=fun h=>(World.cell?_of_block (w:=wr) (a:=⟨b1,_,none⟩) (hb.block b1 (lt_of_cell h))).trans h
    have kb:∀{o:Nat} {v:Value},wr.cell? ⟨b2,o,none⟩=some v→cA W b2 o v:=fun h=>(World.cell?_of_block (w:=wr) (a:=⟨b2,_,none⟩) (hb.block b2 (lt_of_cell h))).trans h
    exact⟨ka a0,ka a1,ka a2,ka a3,ka a4,ka a5,ka a6,kb c0,kb c1,kb c2,kb c3,kb c4,kb c5,kb c6⟩
   have HEQ:Hid (∀W,BW wr W→Cs 85 #[.agg #[.string pn,iv pk,iv pf,iv pl,.slice xA pon.length xc,iv pw,iv pz],.agg #[.string pn,iv pk,iv pf,iv pl,.slice yA pon.length yc,iv pw,iv pz]] W (Rt W (.bool true))):=Lq fun W hb=>equal87_same pn pk pf pl pw pz pon xA yA xc yc W ((hmx.on.below hb HBW.out.size).more (lT HBW.out.size hb.size)) ((hmy.on.below hb HBW.out.size).more (lT HBW.out.size hb.size)) hxo
   clear hx hy hsa hsb hmx hmy a0 a1 a2 a3 a4 a5 a6 c0 c1 c2 c3 c4 c5 c6 hxo;go_wp2_with fail;go_upto_region 5 with fail
   go_region_held3 (fun W=>cA W b1 (o1+k*7) (.string pn)∧cA W b1 (o1+k*7+1) (iv pk)∧cA W b1 (o1+k*7+2) (iv pf)∧cA W b1 (o1+k*7+3) (iv pl)∧cA W b1 (o1+k*7+4) (.slice xA pon.length xc)∧cA W b1 (o1+k*7+5) (iv pw)∧cA W b1 (o1+k*7+6) (iv pz)∧cA W b2 (o2+k*7) (.string pn)∧cA W b2 (o2+k*7+1) (iv pk)∧cA W b2 (o2+k*7+2) (iv pf)∧cA W b2 (o2+k*7+3) (iv pl)∧cA W b2 (o2+k*7+4) (.slice yA pon.length yc)∧cA W b2 (o2+k*7+5) (iv pw)∧cA W b2 (o2+k*7+6) (iv pz)) (first | exact HS.out _ (u0 hb7) | exact HS.out _ (belowDr (bR _)) | exact HS.out _ (belowDq (bR _))) (first | (go_at_call 85;((with_reducible refine(HEQ.out _ (belowDr (bR _))).mono ?_);rintro e w7 ⟨rfl,hb7⟩)))
   have HB7:=Lq (bT HBW.out (u0 hb7));have hkl:k+1≤xs.length:=hlt;clear hb7;go_wp2_with fail;go_roundw
   case measure=>simp[intOf];omega
   case rel=>exact⟨k+1,hkl,by go_num,rfl,HB7⟩
  ·obtain rfl:k=xs.length:=by omega
   go_wp2_with fail;go_ret
   exact⟨rfl,HBW.out⟩
end Go.Proofs.YtigcophcpboanaaGreatDoor
namespace Go.Proofs.YtigcophcpboanaaGreatDoor
open Go.RowKit
section
variable{xm xn ym yn:ByteArray}{Q:Exit→Act→World→Prop}{xd xf xk xl xw xw1 xz yd yf yk yl yw yw1 yz:Int}{ba bb ca cb g2 g3 gx gy k na nb oa ob xc xo yc yo:Nat}{xA yA:Option Addr}{zA zB zK zL zM zN zO zP zQ zR zS zT zU zV zW zX zY zZ za zb zc zd ze zf zg zh zi zE zt zu zv zw zx zF zy zz zAA zAB zAC zAD zAE zAF zAG zAH zAI zAJ zAK zAL zAM zAN zAO zAP zAQ zAR zH zAS zAT zI zJ:Value}{V w:World}
noncomputable def ops37_5:Array Oper:=opsOf (regionOf Tryz.f33 5)
abbrev hHE41(V:World)(g2 g3 ba oa bb ob na nb ca cb k xo yo xc yc:Nat)(xn yn xm ym:ByteArray)(xw1 xd yw1 yd xk xf xl xw xz yk yf yl yw yz:Int)(xA yA:Option Addr):Prop:=∀W,BW V W→(fun W=>cA W g2 1 (.slice (some ⟨ba,oa,none⟩) na ca)∧cA W g3 1 (.slice (some ⟨bb,ob,none⟩) nb cb)∧cA W ba (oa+k*10) (iv xw1)∧cA W ba (oa+k*10+1) (iv xd)∧cA W ba (oa+k*10+2) (.string xm)∧cA W ba (oa+k*10+3) (.string xn)∧cA W ba (oa+k*10+4) (iv xk)∧cA W ba (oa+k*10+5) (iv xf)∧cA W ba (oa+k*10+6) (iv xl)∧cA W ba (oa+k*10+7) (.slice xA xo xc)∧cA W ba (oa+k*10+8) (iv xw)∧cA W ba (oa+k*10+9) (iv xz)∧cA W bb (ob+k*10) (iv yw1)∧cA W bb (ob+k*10+1) (iv yd)∧cA W bb (ob+k*10+2) (.string ym)∧cA W bb (ob+k*10+3) (.string yn)∧cA W bb (ob+k*10+4) (iv yk)∧cA W bb (ob+k*10+5) (iv yf)∧cA W bb (ob+k*10+6) (iv yl)∧cA W bb (ob+k*10+7) (.slice yA yo yc)∧cA W bb (ob+k*10+8) (iv yw)∧cA W bb (ob+k*10+9) (iv yz)) W
abbrev hHE42(Q:Exit→Act→World→Prop)(V:World)(g2 g3 k xo yo xc yc:Nat)(xn yn xm ym:ByteArray)(xw1 xd yw1 yd xk xf xl xw xz yk yf yl yw yz:Int)(xA yA:Option Addr)(zA zB zE zF zJ zK zL zM zN zO zP zQ zR zS zT zU zV zW zX zY zZ za zb zc zd ze zf zg zh zi zt zu zv zw zx zy zz zAA zAB zAC zAD zAE zAF zAG zAH zAI zAJ zAK zAL zAM zAN zAO zAP zAQ zAR zAS zAT:Value):Prop:=∀u35 u36 u37 u38 u39 u40 u41 u42 u43 u44 gx gy W',BW V W'→V.heap.size≤gx→V.heap.size≤gy→gx≠gy→Blk W' gx 58 #[iv xw1,iv xd,.string xm,.string xn,iv xk,iv xf,iv xl,.slice xA xo xc,iv xw,iv xz]→Blk W' gy 58 #[iv yw1,iv yd,.string ym,.string yn,iv yk,iv yf,iv yl,.slice yA yo yc,iv yw,iv yz]→Q .normal ⟨(zA::zB::.pointer (some ⟨g2,0,none⟩)::.pointer (some ⟨g3,0,none⟩)::zE::zF::iv k::.pointer (some ⟨gx,0,none⟩)::.pointer (some ⟨gy,0,none⟩)::zJ::zK::zL::zM::zN::zO::zP::zQ::zR::zS::zT::zU::zV::zW::zX::zY::zZ::za::zb::zc::zd::ze::zf::zg::zh::zi::u35::u36::u37::u38::u39::u40::u41::u42::u43::u44::zt::zu::zv::zw::zx::zy::zz::zAA::zAB::zAC::zAD::zAE::zAF::zAG::zAH::zAI::zAJ::zAK::zAL::zAM::zAN::zAO::zAP::zAQ::zAR::zAS::zAT::[]).toArray,[]⟩ W'
abbrev hHE43(V:World)(gx:Nat)(w:World):Prop:=V.heap.size≤gx∧Blk w gx 58 #[iv 0,iv 0,.string ⟨#[]⟩,.string ⟨#[]⟩,iv 0,iv 0,iv 0,.slice none 0 0,iv 0,iv 0]
abbrev hHE44(V:World)(gy:Nat)(w:World):Prop:=V.heap.size≤gy∧Blk w gy 58 #[iv 0,iv 0,.string ⟨#[]⟩,.string ⟨#[]⟩,iv 0,iv 0,iv 0,.slice none 0 0,iv 0,iv 0]
theorem st37_5_10_11(HI:Hid (k<na∧k<nb))(HS:Hid (hHE41 V g2 g3 ba oa bb ob na nb ca cb k xo yo xc yc xn yn xm ym xw1 xd yw1 yd xk xf xl xw xz yk yf yl yw yz xA yA))(HQ:Hid (hHE42 Q V g2 g3 k xo yo xc yc xn yn xm ym xw1 xd yw1 yd xk xf xl xw xz yk yf yl yw yz xA yA zA zB zE zF zJ zK zL zM zN zO zP zQ zR zS zT zU zV zW zX zY zZ za zb zc zd ze zf zg zh zi zt zu zv zw zx zy zz zAA zAB zAC zAD zAE zAF zAG zAH zAI zAJ zAK zAL zAM zAN zAO zAP zAQ zAR zAS zAT))(HB:Hid (BW V w))(HX:Hid (hHE43 V gx w))(HY:Hid (hHE44 V gy w))(HNE:Hid (gx≠gy)) :
  wpAnyH Tryz.prog .any ops37_5 (NoPanic Q) (fun W=>cA W g2 1 (.slice (some ⟨ba,oa,none⟩) na ca)∧cA W g3 1 (.slice (some ⟨bb,ob,none⟩) nb cb)∧cA W ba (oa+k*10) (iv xw1)∧cA W ba (oa+k*10+1) (iv xd)∧cA W ba (oa+k*10+2) (.string xm)∧cA W ba (oa+k*10+3) (.string xn)∧cA W ba (oa+k*10+4) (iv xk)∧cA W ba (oa+k*10+5) (iv xf)∧cA W ba (oa+k*10+6) (iv xl)∧cA W ba (oa+k*10+7) (.slice xA xo xc)∧cA W ba (oa+k*10+8) (iv xw)∧cA W ba (oa+k*10+9) (iv xz)∧cA W bb (ob+k*10) (iv yw1)∧cA W bb (ob+k*10+1) (iv yd)∧cA W bb (ob+k*10+2) (.string ym)∧cA W bb (ob+k*10+3) (.string yn)∧cA W bb (ob+k*10+4) (iv yk)∧cA W bb (ob+k*10+5) (iv yf)∧cA W bb (ob+k*10+6) (iv yl)∧cA W bb (ob+k*10+7) (.slice yA yo yc)∧cA W bb (ob+k*10+8) (iv yw)∧cA W bb (ob+k*10+9) (iv yz)) 2 #[true,true,true,true,true,true,true,true,true,true,true,true,false,false] ⟨(zA::zB::.pointer (some ⟨g2,0,none⟩)::.pointer (some ⟨g3,0,none⟩)::zE::zF::iv k::.pointer (some ⟨gx,0,none⟩)::.pointer (some ⟨gy,0,none⟩)::zJ::zK::zL::zM::zN::zO::zP::zQ::zR::zS::zT::zU::zV::zW::zX::zY::zZ::za::zb::zc::zd::ze::zf::zg::zh::zi::.pointer (some ⟨g2,1,none⟩)::.slice (some ⟨ba,oa,none⟩) na ca::iv k::.pointer (some ⟨ba,oa+k*10,none⟩)::.agg #[iv xw1,iv xd,.string xm,.string xn,iv xk,iv xf,iv xl,.slice xA xo xc,iv xw,iv xz]::.pointer (some ⟨g3,1,none⟩)::.slice (some ⟨bb,ob,none⟩) nb cb::iv k::.pointer (some ⟨bb,ob+k*10,none⟩)::.agg #[iv yw1,iv yd,.string ym,.string yn,iv yk,iv yf,iv yl,.slice yA yo yc,iv yw,iv yz]::zt::zu::zv::zw::zx::zy::zz::zAA::zAB::zAC::zAD::zAE::zAF::zAG::zAH::zAI::zAJ::zAK::zAL::zAM::zAN::zAO::zAP::zAQ::zAR::zAS::zAT::[]).toArray,[]⟩ w:=by
 have _u:=HI;have hne:gx≠gy:=HNE.out;refine rd1 12 fun K' hK=>?_
 obtain⟨f0,f1,f2,f3,f4,f5,f6,f7,f8,f9⟩:=HX.out.2.f10;obtain⟨e0,e1,e2,e3,e4,e5,e6,e7,e8,e9⟩:=HX.out.2.c10;have el:=HX.out.2.lt;obtain⟨w1,hw1⟩:=ex ((((((((((w.setCell ⟨gx,0,none⟩ (iv xw1)).setCell ⟨gx,1,none⟩ (iv xd)).setCell ⟨gx,2,none⟩ (.string xm)).setCell ⟨gx,3,none⟩ (.string xn)).setCell ⟨gx,4,none⟩ (iv xk)).setCell ⟨gx,5,none⟩ (iv xf)).setCell ⟨gx,6,none⟩ (iv xl)).setCell ⟨gx,7,none⟩ (.slice xA xo xc)).setCell ⟨gx,8,none⟩ (iv xw)).setCell ⟨gx,9,none⟩ (iv xz));have o1:OnlyAt w w1 gx:=by rw[←hw1];exact(((((((((((OnlyAt.of_below (bR w) gx).set 0 _).set 1 _).set 2 _).set 3 _).set 4 _).set 5 _).set 6 _).set 7 _).set 8 _).set 9 _)
 have q1:Blk w1 gx 58 #[iv xw1,iv xd,.string xm,.string xn,iv xk,iv xf,iv xl,.slice xA xo xc,iv xw,iv xz]:=by rw[←hw1];exact ten _ _ _ _ _ _ _ _ _ _ HX.out.2
 have q2:=HY.out.2.same (o1.block gy HY.out.2.lt (Ne.symm hne));have HB1:Hid (BW V w1):=Lq (o1.below HB.out HX.out.1);have HX1:=Lq q1;have HY1:=Lq q2;clear q1 q2 o1;go_simp;refine hK.out _ _ (HS.out _ HB1.out) (fun _=>?_)
 clear hK hw1 f0 f1 f2 f3 f4 f5 f6 f7 f8 f9 e0 e1 e2 e3 e4 e5 e6 e7 e8 e9 el;refine rd1 13 fun K' hK=>?_
 obtain⟨f0,f1,f2,f3,f4,f5,f6,f7,f8,f9⟩:=HY1.out.f10;obtain⟨e0,e1,e2,e3,e4,e5,e6,e7,e8,e9⟩:=HY1.out.c10;have el:=HY1.out.lt;obtain⟨w2,hw2⟩:=ex ((((((((((w1.setCell ⟨gy,0,none⟩ (iv yw1)).setCell ⟨gy,1,none⟩ (iv yd)).setCell ⟨gy,2,none⟩ (.string ym)).setCell ⟨gy,3,none⟩ (.string yn)).setCell ⟨gy,4,none⟩ (iv yk)).setCell ⟨gy,5,none⟩ (iv yf)).setCell ⟨gy,6,none⟩ (iv yl)).setCell ⟨gy,7,none⟩ (.slice yA yo yc)).setCell ⟨gy,8,none⟩ (iv yw)).setCell ⟨gy,9,none⟩ (iv yz));have o2:OnlyAt w1 w2 gy:=by rw[←hw2];exact(((((((((((OnlyAt.of_below (bR w1) gy).set 0 _).set 1 _).set 2 _).set 3 _).set 4 _).set 5 _).set 6 _).set 7 _).set 8 _).set 9 _)
 have q1:Blk w2 gy 58 #[iv yw1,iv yd,.string ym,.string yn,iv yk,iv yf,iv yl,.slice yA yo yc,iv yw,iv yz]:=by rw[←hw2];exact ten _ _ _ _ _ _ _ _ _ _ HY1.out
 have q2:=HX1.out.same (o2.block gx HX1.out.lt hne);have HB2:Hid (BW V w2):=Lq (o2.below HB1.out HY.out.1);have HX2:=Lq q2;have HY2:=Lq q1;clear q1 q2 o2;go_simp;refine hK.out _ _ (HS.out _ HB2.out) (fun _=>?_)
 clear hK hw2 f0 f1 f2 f3 f4 f5 f6 f7 f8 f9 e0 e1 e2 e3 e4 e5 e6 e7 e8 e9 el;refine wpAnyH_done (by kernel_rfl) ?_ _
 exact NoPanic.normal (HQ.out _ _ _ _ _ _ _ _ _ _ _ _ _ HB2.out HX.out.1 HY.out.1 hne HX2.out HY2.out)
theorem st37_5_10(HI:Hid (k<na∧k<nb))(HS:Hid (hHE41 V g2 g3 ba oa bb ob na nb ca cb k xo yo xc yc xn yn xm ym xw1 xd yw1 yd xk xf xl xw xz yk yf yl yw yz xA yA))(HQ:Hid (hHE42 Q V g2 g3 k xo yo xc yc xn yn xm ym xw1 xd yw1 yd xk xf xl xw xz yk yf yl yw yz xA yA zA zB zE zF zJ zK zL zM zN zO zP zQ zR zS zT zU zV zW zX zY zZ za zb zc zd ze zf zg zh zi zt zu zv zw zx zy zz zAA zAB zAC zAD zAE zAF zAG zAH zAI zAJ zAK zAL zAM zAN zAO zAP zAQ zAR zAS zAT))(HB:Hid (BW V w))(HX:Hid (hHE43 V gx w)) :
  wpAnyH Tryz.prog .any ops37_5 (NoPanic Q) (fun W=>cA W g2 1 (.slice (some ⟨ba,oa,none⟩) na ca)∧cA W g3 1 (.slice (some ⟨bb,ob,none⟩) nb cb)∧cA W ba (oa+k*10) (iv xw1)∧cA W ba (oa+k*10+1) (iv xd)∧cA W ba (oa+k*10+2) (.string xm)∧cA W ba (oa+k*10+3) (.string xn)∧cA W ba (oa+k*10+4) (iv xk)∧cA W ba (oa+k*10+5) (iv xf)∧cA W ba (oa+k*10+6) (iv xl)∧cA W ba (oa+k*10+7) (.slice xA xo xc)∧cA W ba (oa+k*10+8) (iv xw)∧cA W ba (oa+k*10+9) (iv xz)∧cA W bb (ob+k*10) (iv yw1)∧cA W bb (ob+k*10+1) (iv yd)∧cA W bb (ob+k*10+2) (.string ym)∧cA W bb (ob+k*10+3) (.string yn)∧cA W bb (ob+k*10+4) (iv yk)∧cA W bb (ob+k*10+5) (iv yf)∧cA W bb (ob+k*10+6) (iv yl)∧cA W bb (ob+k*10+7) (.slice yA yo yc)∧cA W bb (ob+k*10+8) (iv yw)∧cA W bb (ob+k*10+9) (iv yz)) 3 #[true,true,true,true,true,true,true,true,true,true,true,false,false,false] ⟨(zA::zB::.pointer (some ⟨g2,0,none⟩)::.pointer (some ⟨g3,0,none⟩)::zE::zF::iv k::.pointer (some ⟨gx,0,none⟩)::zI::zJ::zK::zL::zM::zN::zO::zP::zQ::zR::zS::zT::zU::zV::zW::zX::zY::zZ::za::zb::zc::zd::ze::zf::zg::zh::zi::.pointer (some ⟨g2,1,none⟩)::.slice (some ⟨ba,oa,none⟩) na ca::iv k::.pointer (some ⟨ba,oa+k*10,none⟩)::.agg #[iv xw1,iv xd,.string xm,.string xn,iv xk,iv xf,iv xl,.slice xA xo xc,iv xw,iv xz]::.pointer (some ⟨g3,1,none⟩)::.slice (some ⟨bb,ob,none⟩) nb cb::iv k::.pointer (some ⟨bb,ob+k*10,none⟩)::.agg #[iv yw1,iv yd,.string ym,.string yn,iv yk,iv yf,iv yl,.slice yA yo yc,iv yw,iv yz]::zt::zu::zv::zw::zx::zy::zz::zAA::zAB::zAC::zAD::zAE::zAF::zAG::zAH::zAI::zAJ::zAK::zAL::zAM::zAN::zAO::zAP::zAQ::zAR::zAS::zAT::[]).toArray,[]⟩ w:=by
 refine rd1 11 (fun K' hK=>?_)
 ·skip;go_simp;have hb:=bA (bR w) (.cells #[iv 0,iv 0,.string ⟨#[]⟩,.string ⟨#[]⟩,iv 0,iv 0,iv 0,.slice none 0 0,iv 0,iv 0] 58);have hq:=Blk.new w 58 #[iv 0,iv 0,.string ⟨#[]⟩,.string ⟨#[]⟩,iv 0,iv 0,iv 0,.slice none 0 0,iv 0,iv 0];obtain⟨w1,hw1⟩:=ex (w.alloc (.cells #[iv 0,iv 0,.string ⟨#[]⟩,.string ⟨#[]⟩,iv 0,iv 0,iv 0,.slice none 0 0,iv 0,iv 0] 58));obtain⟨gy,hg1⟩:=ex w.heap.size;rw[hw1]at hb hq;rw[hg1]at hq;rw[hw1,hg1];have HY:Hid (V.heap.size≤gy∧Blk w1 gy 58 #[iv 0,iv 0,.string ⟨#[]⟩,.string ⟨#[]⟩,iv 0,iv 0,iv 0,.slice none 0 0,iv 0,iv 0]):=Lq ⟨by rw[←hg1];exact HB.out.size,hq⟩
  have HNE:Hid (gx≠gy):=Lq ((by have:=HX.out.2.lt;omega))
  have HB1:=Lq (bT HB.out hb);have HX:Hid (V.heap.size≤gx∧Blk w1 gx 58 #[iv 0,iv 0,.string ⟨#[]⟩,.string ⟨#[]⟩,iv 0,iv 0,iv 0,.slice none 0 0,iv 0,iv 0]):=Lq (⟨HX.out.1,HX.out.2.keep hb⟩);refine hK.out _ _ (HS.out _ HB1.out) (fun _=>?_)
  exact st37_5_10_11 HI HS HQ HB1 HX HY HNE
theorem st37_5_11(HI:Hid (k<na∧k<nb))(HS:Hid (hHE41 V g2 g3 ba oa bb ob na nb ca cb k xo yo xc yc xn yn xm ym xw1 xd yw1 yd xk xf xl xw xz yk yf yl yw yz xA yA))(HQ:Hid (hHE42 Q V g2 g3 k xo yo xc yc xn yn xm ym xw1 xd yw1 yd xk xf xl xw xz yk yf yl yw yz xA yA zA zB zE zF zJ zK zL zM zN zO zP zQ zR zS zT zU zV zW zX zY zZ za zb zc zd ze zf zg zh zi zt zu zv zw zx zy zz zAA zAB zAC zAD zAE zAF zAG zAH zAI zAJ zAK zAL zAM zAN zAO zAP zAQ zAR zAS zAT))(HB:Hid (BW V w))(HY:Hid (hHE44 V gy w)) :
  wpAnyH Tryz.prog .any ops37_5 (NoPanic Q) (fun W=>cA W g2 1 (.slice (some ⟨ba,oa,none⟩) na ca)∧cA W g3 1 (.slice (some ⟨bb,ob,none⟩) nb cb)∧cA W ba (oa+k*10) (iv xw1)∧cA W ba (oa+k*10+1) (iv xd)∧cA W ba (oa+k*10+2) (.string xm)∧cA W ba (oa+k*10+3) (.string xn)∧cA W ba (oa+k*10+4) (iv xk)∧cA W ba (oa+k*10+5) (iv xf)∧cA W ba (oa+k*10+6) (iv xl)∧cA W ba (oa+k*10+7) (.slice xA xo xc)∧cA W ba (oa+k*10+8) (iv xw)∧cA W ba (oa+k*10+9) (iv xz)∧cA W bb (ob+k*10) (iv yw1)∧cA W bb (ob+k*10+1) (iv yd)∧cA W bb (ob+k*10+2) (.string ym)∧cA W bb (ob+k*10+3) (.string yn)∧cA W bb (ob+k*10+4) (iv yk)∧cA W bb (ob+k*10+5) (iv yf)∧cA W bb (ob+k*10+6) (iv yl)∧cA W bb (ob+k*10+7) (.slice yA yo yc)∧cA W bb (ob+k*10+8) (iv yw)∧cA W bb (ob+k*10+9) (iv yz)) 3 #[true,true,true,true,true,true,true,true,true,true,false,true,false,false] ⟨(zA::zB::.pointer (some ⟨g2,0,none⟩)::.pointer (some ⟨g3,0,none⟩)::zE::zF::iv k::zH::.pointer (some ⟨gy,0,none⟩)::zJ::zK::zL::zM::zN::zO::zP::zQ::zR::zS::zT::zU::zV::zW::zX::zY::zZ::za::zb::zc::zd::ze::zf::zg::zh::zi::.pointer (some ⟨g2,1,none⟩)::.slice (some ⟨ba,oa,none⟩) na ca::iv k::.pointer (some ⟨ba,oa+k*10,none⟩)::.agg #[iv xw1,iv xd,.string xm,.string xn,iv xk,iv xf,iv xl,.slice xA xo xc,iv xw,iv xz]::.pointer (some ⟨g3,1,none⟩)::.slice (some ⟨bb,ob,none⟩) nb cb::iv k::.pointer (some ⟨bb,ob+k*10,none⟩)::.agg #[iv yw1,iv yd,.string ym,.string yn,iv yk,iv yf,iv yl,.slice yA yo yc,iv yw,iv yz]::zt::zu::zv::zw::zx::zy::zz::zAA::zAB::zAC::zAD::zAE::zAF::zAG::zAH::zAI::zAJ::zAK::zAL::zAM::zAN::zAO::zAP::zAQ::zAR::zAS::zAT::[]).toArray,[]⟩ w:=by
 refine rd1 10 (fun K' hK=>?_)
 ·skip;go_simp;have hb:=bA (bR w) (.cells #[iv 0,iv 0,.string ⟨#[]⟩,.string ⟨#[]⟩,iv 0,iv 0,iv 0,.slice none 0 0,iv 0,iv 0] 58);have hq:=Blk.new w 58 #[iv 0,iv 0,.string ⟨#[]⟩,.string ⟨#[]⟩,iv 0,iv 0,iv 0,.slice none 0 0,iv 0,iv 0];obtain⟨w1,hw1⟩:=ex (w.alloc (.cells #[iv 0,iv 0,.string ⟨#[]⟩,.string ⟨#[]⟩,iv 0,iv 0,iv 0,.slice none 0 0,iv 0,iv 0] 58));obtain⟨gx,hg1⟩:=ex w.heap.size;rw[hw1]at hb hq;rw[hg1]at hq;rw[hw1,hg1];have HX:Hid (V.heap.size≤gx∧Blk w1 gx 58 #[iv 0,iv 0,.string ⟨#[]⟩,.string ⟨#[]⟩,iv 0,iv 0,iv 0,.slice none 0 0,iv 0,iv 0]):=Lq ⟨by rw[←hg1];exact HB.out.size,hq⟩
  have HNE:Hid (gx≠gy):=Lq ((by have:=HY.out.2.lt;omega))
  have HB1:=Lq (bT HB.out hb);have HY:Hid (V.heap.size≤gy∧Blk w1 gy 58 #[iv 0,iv 0,.string ⟨#[]⟩,.string ⟨#[]⟩,iv 0,iv 0,iv 0,.slice none 0 0,iv 0,iv 0]):=Lq (⟨HY.out.1,HY.out.2.keep hb⟩);refine hK.out _ _ (HS.out _ HB1.out) (fun _=>?_)
  exact st37_5_10_11 HI HS HQ HB1 HX HY HNE
theorem st37_5_S(HI:Hid (k<na∧k<nb))(HS:Hid (hHE41 V g2 g3 ba oa bb ob na nb ca cb k xo yo xc yc xn yn xm ym xw1 xd yw1 yd xk xf xl xw xz yk yf yl yw yz xA yA))(HQ:Hid (hHE42 Q V g2 g3 k xo yo xc yc xn yn xm ym xw1 xd yw1 yd xk xf xl xw xz yk yf yl yw yz xA yA zA zB zE zF zJ zK zL zM zN zO zP zQ zR zS zT zU zV zW zX zY zZ za zb zc zd ze zf zg zh zi zt zu zv zw zx zy zz zAA zAB zAC zAD zAE zAF zAG zAH zAI zAJ zAK zAL zAM zAN zAO zAP zAQ zAR zAS zAT))(HB:Hid (BW V w))  :
  wpAnyH Tryz.prog .any ops37_5 (NoPanic Q) (fun W=>cA W g2 1 (.slice (some ⟨ba,oa,none⟩) na ca)∧cA W g3 1 (.slice (some ⟨bb,ob,none⟩) nb cb)∧cA W ba (oa+k*10) (iv xw1)∧cA W ba (oa+k*10+1) (iv xd)∧cA W ba (oa+k*10+2) (.string xm)∧cA W ba (oa+k*10+3) (.string xn)∧cA W ba (oa+k*10+4) (iv xk)∧cA W ba (oa+k*10+5) (iv xf)∧cA W ba (oa+k*10+6) (iv xl)∧cA W ba (oa+k*10+7) (.slice xA xo xc)∧cA W ba (oa+k*10+8) (iv xw)∧cA W ba (oa+k*10+9) (iv xz)∧cA W bb (ob+k*10) (iv yw1)∧cA W bb (ob+k*10+1) (iv yd)∧cA W bb (ob+k*10+2) (.string ym)∧cA W bb (ob+k*10+3) (.string yn)∧cA W bb (ob+k*10+4) (iv yk)∧cA W bb (ob+k*10+5) (iv yf)∧cA W bb (ob+k*10+6) (iv yl)∧cA W bb (ob+k*10+7) (.slice yA yo yc)∧cA W bb (ob+k*10+8) (iv yw)∧cA W bb (ob+k*10+9) (iv yz)) 4 #[true,true,true,true,true,true,true,true,true,true,false,false,false,false] ⟨(zA::zB::.pointer (some ⟨g2,0,none⟩)::.pointer (some ⟨g3,0,none⟩)::zE::zF::iv k::zH::zI::zJ::zK::zL::zM::zN::zO::zP::zQ::zR::zS::zT::zU::zV::zW::zX::zY::zZ::za::zb::zc::zd::ze::zf::zg::zh::zi::.pointer (some ⟨g2,1,none⟩)::.slice (some ⟨ba,oa,none⟩) na ca::iv k::.pointer (some ⟨ba,oa+k*10,none⟩)::.agg #[iv xw1,iv xd,.string xm,.string xn,iv xk,iv xf,iv xl,.slice xA xo xc,iv xw,iv xz]::.pointer (some ⟨g3,1,none⟩)::.slice (some ⟨bb,ob,none⟩) nb cb::iv k::.pointer (some ⟨bb,ob+k*10,none⟩)::.agg #[iv yw1,iv yd,.string ym,.string yn,iv yk,iv yf,iv yl,.slice yA yo yc,iv yw,iv yz]::zt::zu::zv::zw::zx::zy::zz::zAA::zAB::zAC::zAD::zAE::zAF::zAG::zAH::zAI::zAJ::zAK::zAL::zAM::zAN::zAO::zAP::zAQ::zAR::zAS::zAT::[]).toArray,[]⟩ w:=by
 refine rd2 10 11 (fun K' hK=>?_) (fun K' hK=>?_)
 ·skip;go_simp;have hb:=bA (bR w) (.cells #[iv 0,iv 0,.string ⟨#[]⟩,.string ⟨#[]⟩,iv 0,iv 0,iv 0,.slice none 0 0,iv 0,iv 0] 58);have hq:=Blk.new w 58 #[iv 0,iv 0,.string ⟨#[]⟩,.string ⟨#[]⟩,iv 0,iv 0,iv 0,.slice none 0 0,iv 0,iv 0];obtain⟨w1,hw1⟩:=ex (w.alloc (.cells #[iv 0,iv 0,.string ⟨#[]⟩,.string ⟨#[]⟩,iv 0,iv 0,iv 0,.slice none 0 0,iv 0,iv 0] 58));obtain⟨gx,hg1⟩:=ex w.heap.size;rw[hw1]at hb hq;rw[hg1]at hq;rw[hw1,hg1];have HX:Hid (V.heap.size≤gx∧Blk w1 gx 58 #[iv 0,iv 0,.string ⟨#[]⟩,.string ⟨#[]⟩,iv 0,iv 0,iv 0,.slice none 0 0,iv 0,iv 0]):=Lq ⟨by rw[←hg1];exact HB.out.size,hq⟩
  have HB1:=Lq (bT HB.out hb);refine hK.out _ _ (HS.out _ HB1.out) (fun _=>?_)
  exact st37_5_10 HI HS HQ HB1 HX
 ·skip;go_simp;have hb:=bA (bR w) (.cells #[iv 0,iv 0,.string ⟨#[]⟩,.string ⟨#[]⟩,iv 0,iv 0,iv 0,.slice none 0 0,iv 0,iv 0] 58);have hq:=Blk.new w 58 #[iv 0,iv 0,.string ⟨#[]⟩,.string ⟨#[]⟩,iv 0,iv 0,iv 0,.slice none 0 0,iv 0,iv 0];obtain⟨w1,hw1⟩:=ex (w.alloc (.cells #[iv 0,iv 0,.string ⟨#[]⟩,.string ⟨#[]⟩,iv 0,iv 0,iv 0,.slice none 0 0,iv 0,iv 0] 58));obtain⟨gy,hg1⟩:=ex w.heap.size;rw[hw1]at hb hq;rw[hg1]at hq;rw[hw1,hg1];have HY:Hid (V.heap.size≤gy∧Blk w1 gy 58 #[iv 0,iv 0,.string ⟨#[]⟩,.string ⟨#[]⟩,iv 0,iv 0,iv 0,.slice none 0 0,iv 0,iv 0]):=Lq ⟨by rw[←hg1];exact HB.out.size,hq⟩
  have HB1:=Lq (bT HB.out hb);refine hK.out _ _ (HS.out _ HB1.out) (fun _=>?_)
  exact st37_5_11 HI HS HQ HB1 HY
theorem reg37_5{zj zk zl zm zn zo zp zq zr zs:Value}(HI:Hid (k<na∧k<nb))(HS:Hid (hHE41 V g2 g3 ba oa bb ob na nb ca cb k xo yo xc yc xn yn xm ym xw1 xd yw1 yd xk xf xl xw xz yk yf yl yw yz xA yA))(HQ:Hid (hHE42 Q V g2 g3 k xo yo xc yc xn yn xm ym xw1 xd yw1 yd xk xf xl xw xz yk yf yl yw yz xA yA zA zB zE zF zJ zK zL zM zN zO zP zQ zR zS zT zU zV zW zX zY zZ za zb zc zd ze zf zg zh zi zt zu zv zw zx zy zz zAA zAB zAC zAD zAE zAF zAG zAH zAI zAJ zAK zAL zAM zAN zAO zAP zAQ zAR zAS zAT)) :
  (regionOf Tryz.f33 5).wp Tryz.prog Q ⟨(zA::zB::.pointer (some ⟨g2,0,none⟩)::.pointer (some ⟨g3,0,none⟩)::zE::zF::iv k::zH::zI::zJ::zK::zL::zM::zN::zO::zP::zQ::zR::zS::zT::zU::zV::zW::zX::zY::zZ::za::zb::zc::zd::ze::zf::zg::zh::zi::zj::zk::zl::zm::zn::zo::zp::zq::zr::zs::zt::zu::zv::zw::zx::zy::zz::zAA::zAB::zAC::zAD::zAE::zAF::zAG::zAH::zAI::zAJ::zAK::zAL::zAM::zAN::zAO::zAP::zAQ::zAR::zAS::zAT::[]).toArray,[]⟩ V:=by
 refine go0 (ops:=ops37_5) (r:=5) (n:=14) (S:=fun W=>cA W g2 1 (.slice (some ⟨ba,oa,none⟩) na ca)∧cA W g3 1 (.slice (some ⟨bb,ob,none⟩) nb cb)∧cA W ba (oa+k*10) (iv xw1)∧cA W ba (oa+k*10+1) (iv xd)∧cA W ba (oa+k*10+2) (.string xm)∧cA W ba (oa+k*10+3) (.string xn)∧cA W ba (oa+k*10+4) (iv xk)∧cA W ba (oa+k*10+5) (iv xf)∧cA W ba (oa+k*10+6) (iv xl)∧cA W ba (oa+k*10+7) (.slice xA xo xc)∧cA W ba (oa+k*10+8) (iv xw)∧cA W ba (oa+k*10+9) (iv xz)∧cA W bb (ob+k*10) (iv yw1)∧cA W bb (ob+k*10+1) (iv yd)∧cA W bb (ob+k*10+2) (.string ym)∧cA W bb (ob+k*10+3) (.string yn)∧cA W bb (ob+k*10+4) (iv yk)∧cA W bb (ob+k*10+5) (iv yf)∧cA W bb (ob+k*10+6) (iv yl)∧cA W bb (ob+k*10+7) (.slice yA yo yc)∧cA W bb (ob+k*10+8) (iv yw)∧cA W bb (ob+k*10+9) (iv yz)) (fun W hb=>HS.out W hb) fun V0 HB0 hHeld=>?_
 have hk0:(0:Int)≤(k:Int):=by omega
 have hi1:(k:Int)<(na:Int):=by have:=HI.out;omega
 have hk1:(k:Int)<(nb:Int):=by have:=HI.out;omega
 refine tk 0 (.pointer (some ⟨g2,1,none⟩)) ?_;refine tk 1 (.slice (some ⟨ba,oa,none⟩) na ca) ?_;refine tk 2 (iv k) ?_;refine tk 3 (.pointer (some ⟨ba,oa+k*10,none⟩)) ?_;refine tk 4 (.agg #[iv xw1,iv xd,.string xm,.string xn,iv xk,iv xf,iv xl,.slice xA xo xc,iv xw,iv xz]) ?_;refine tk 5 (.pointer (some ⟨g3,1,none⟩)) ?_;refine tk 6 (.slice (some ⟨bb,ob,none⟩) nb cb) ?_;refine tk 7 (iv k) ?_;refine tk 8 (.pointer (some ⟨bb,ob+k*10,none⟩)) ?_;refine tk 9 (.agg #[iv yw1,iv yd,.string ym,.string yn,iv yk,iv yf,iv yl,.slice yA yo yc,iv yw,iv yz]) ?_;exact st37_5_S HI HS HQ HB0
end
end Go.Proofs.YtigcophcpboanaaGreatDoor
namespace Go.Proofs.YtigcophcpboanaaGreatDoor
open Go.RowKit Go.Shelf
attribute [local go_sem] Oper.semAt_some
theorem same37_same(A B C D:Option Addr)(xs ys:List HuM)(cs ds:List HcM)(ca cb cc cd:Nat)(w:World)(HP:PlanAt w A C ca cc xs cs)(HQ:PlanAt w B D cb cd ys ds)(he:psOf xs=psOf ys)(hec:csOf cs=csOf ds)(hl:xs.length≤1000)(hlc:cs.length≤1000)(hon:∀p∈psOf xs,p.on.length≤1000000)(honc:∀c∈csOf cs,c.part.on.length≤1000000) :
  Cs 33 #[.agg #[.slice A xs.length ca,.slice C cs.length cc],.agg #[.slice B ys.length cb,.slice D ds.length cd]] w (Rt w (.bool true)):=by
 obtain⟨W1,hW1⟩:=ex (w.alloc (.cells #[.slice A xs.length ca,.slice C cs.length cc] 27));obtain⟨W2,hW2⟩:=ex (W1.alloc (.cells #[.slice B ys.length cb,.slice D ds.length cd] 27));obtain⟨g2,hg2⟩:=ex w.heap.size;obtain⟨g3,hg3⟩:=ex W1.heap.size;have b1:BW w W1:=by rw[←hW1];exact bA (bR w) _
 have b2:BW W1 W2:=by rw[←hW2];exact bA (bR _) _
 have q1:Blk W1 g2 27 #[.slice A xs.length ca,.slice C cs.length cc]:=by rw[←hW1,←hg2];exact Blk.new w 27 _
 have q2:Blk W2 g3 27 #[.slice B ys.length cb,.slice D ds.length cd]:=by rw[←hW2,←hg3];exact Blk.new W1 27 _
 have q12:=q1.keep b2;have hdl:ds.length=cs.length:=by have:=congrArg List.length hec;simpa using this.symm
 have HB2:=Lq (bT b1 b2);have HP2:=Lq (HP.below (bT b1 b2));have HQ2:=Lq (HQ.below (bT b1 b2));have HSH:=Lq (ships34_same A B xs ys ca cb W2 (HP.below (bT b1 b2)).sl (HQ.below (bT b1 b2)).sl he hl hon);have HEC:=Lq hec;have HONC:=Lq honc;have HG2:=Lq q12;have HG3:=Lq q2;obtain⟨d0,d1⟩:=q12.c2;obtain⟨e0,e1⟩:=q2.c2;rw[hdl]at e1 HG3 hW2 ⊢;clear HP HQ he hec hon honc b1 b2 q1 q2 q12;go_enter Tryz.func33,Tryz.ntmps33
 go_wp2_with fail;refine HSH.out.mono ?_;rintro e w3 ⟨rfl,hb⟩;have HB3:=Lq (bT HB2.out hb);have HP3:=Lq (HP2.out.below hb);have HQ3:=Lq (HQ2.out.below hb);have HG23:=Lq (HG2.out.keep hb);have HG33:=Lq (HG3.out.keep hb);have h1:=HG23.out.c 1;have h2:=HG33.out.c 1;clear hb d0 d1 e0 e1 hW1 hW2 hg2 hg3;go_wp2_with fail;clear h1 h2;go_loopw [5,6] (fun b i wr=>∃k:Nat,k≤cs.length∧i=iv k∧b=.bool true∧Hid (BW w3 wr)) (fun _ i _=>cs.length-(intOf i).toNat)
 case atStart=>exact⟨0,Nat.zero_le _,rfl,rfl,Lq (bR _)⟩
 case round =>
  obtain⟨k,hk,rfl,rfl,HBW⟩:=hrel;have hk0:(0:Int)≤(k:Int):=by omega
  have hkw:IntKind.i64.wrap ((k:Int)+1)=(k:Int)+1:=by rw[IntKind.wrap_i64];omega
  have h1:=(HG23.out.keep HBW.out).c 1;by_cases hlt:k<cs.length
  ·obtain⟨x,hx⟩:=gX (l:=cs) (i:=k) hlt;obtain⟨y,hy⟩:=gX (l:=ds) (i:=k) (by omega)
   have hxy:x.c=y.c:=by
    have h1:(csOf cs)[k]?=some x.c:=by rw[List.getElem?_map,hx];rfl
    have h2:(csOf ds)[k]?=some y.c:=by rw[List.getElem?_map,hy];rfl
    rw[HEC.out,h2]at h1;injection h1 with h1
    exact h1.symm
   have hxo:=HONC.out x.c (List.mem_map_of_mem (mG ⟨k,hx⟩));obtain⟨wh,dy,cn,⟨xp,xA,xc⟩⟩:=x;obtain⟨wh',dy',cn',⟨yp,yA,yc⟩⟩:=y;simp only[HcM.c]at hxy hxo;injection hxy with hy1 hy2 hy3 hy4
   subst hy1 hy2 hy3 hy4;obtain⟨pn,pk,pf,pl,pon,pw,pz⟩:=xp;simp only at hxo;have hsa:=HP3.out.ch.below HBW.out (lr _);have hsb:=HQ3.out.ch.below HBW.out (lr _);obtain⟨b1,o1,rfl,hb1,hmx,hnx,a0,a1,a2,a3,a4,a5,a6,a7,a8,a9⟩:=hsa.at hx;obtain⟨b2,o2,rfl,hb2,hmy,hny,c0,c1,c2,c3,c4,c5,c6,c7,c8,c9⟩:=hsb.at hy;simp only at a0 a1 a2 a3 a4 a5 a6 a7 a8 a9 c0 c1 c2 c3 c4 c5 c6 c7 c8 c9 hmx hmy;have HS:Hid (∀W,BW wr W→cA W g2 1 (.slice (some ⟨b1,o1,none⟩) cs.length cc)∧cA W g3 1 (.slice (some ⟨b2,o2,none⟩) cs.length cd)∧cA W b1 (o1+k*10) (iv wh)∧cA W b1 (o1+k*10+1) (iv dy)∧cA W b1 (o1+k*10+2) (.string cn)∧cA W b1 (o1+k*10+3) (.string pn)∧cA W b1 (o1+k*10+4) (iv pk)∧cA W b1 (o1+k*10+5) (iv pf)∧cA W b1 (o1+k*10+6) (iv pl)∧cA W b1 (o1+k*10+7) (.slice xA pon.length xc)∧cA W b1 (o1+k*10+8) (iv pw)∧cA W b1 (o1+k*10+9) (iv pz)∧cA W b2 (o2+k*10) (iv wh)∧cA W b2 (o2+k*10+1) (iv dy)∧cA W b2 (o2+k*10+2) (.string cn)∧cA W b2 (o2+k*10+3) (.string pn)∧cA W b2 (o2+k*10+4) (iv pk)∧cA W b2 (o2+k*10+5) (iv pf)∧cA W b2 (o2+k*10+6) (iv pl)∧cA W b2 (o2+k*10+7) (.slice yA pon.length yc)∧cA W b2 (o2+k*10+8) (iv pw)∧cA W b2 (o2+k*10+9) (iv pz)):=Lq fun W hb=>by
    have ka:∀{b o:Nat} {v:Value},wr.cell? ⟨b,o,none⟩=some v→cA W b o v:=fun{b o v} h=>(World.cell?_of_block (w:=wr) (a:=⟨b,_,none⟩) (hb.block b (lt_of_cell h))).trans h
    exact⟨ka ((HG23.out.keep HBW.out).c 1),ka ((HG33.out.keep HBW.out).c 1),ka a0,ka a1,ka a2,ka a3,ka a4,ka a5,ka a6,ka a7,ka a8,ka a9,ka c0,ka c1,ka c2,ka c3,ka c4,ka c5,ka c6,ka c7,ka c8,ka c9⟩
   have HEQ:Hid (∀W,BW wr W→Cs 85 #[.agg #[.string pn,iv pk,iv pf,iv pl,.slice xA pon.length xc,iv pw,iv pz],.agg #[.string pn,iv pk,iv pf,iv pl,.slice yA pon.length yc,iv pw,iv pz]] W (Rt W (.bool true))):=Lq fun W hb=>equal87_same pn pk pf pl pw pz pon xA yA xc yc W ((hmx.on.below hb HBW.out.size).more (lT HBW.out.size hb.size)) ((hmy.on.below hb HBW.out.size).more (lT HBW.out.size hb.size)) hxo
   clear hx hy hsa hsb hmx hmy hnx hny a0 a1 a2 a3 a4 a5 a6 a7 a8 a9 c0 c1 c2 c3 c4 c5 c6 c7 c8 c9 hxo;go_wp2_with fail;go_upto_region 5 with fail
   refine reg37_5 (Lq ⟨hlt,hlt⟩) HS (Lq ?_);rintro u35 u36 u37 u38 u39 u40 u41 u42 u43 u44 gx gy W7 hb7 hgx hgy hne hqx hqy;have HE7:=Lq (HEQ.out _ hb7);have HB7:=Lq (bT HBW.out hb7);obtain⟨x0,x1,x2,x3,x4,x5,x6,x7,x8,x9⟩:=hqx.c10;obtain⟨y0,y1,y2,y3,y4,y5,y6,y7,y8,y9⟩:=hqy.c10;clear hb7 hgx hgy hqx hqy HEQ HS h1;have hkl:k+1≤cs.length:=hlt;go_wp2_with fail;refine HE7.out.mono ?_;rintro e w8 ⟨rfl,hb8⟩;have HB8:=Lq (bT HB7.out hb8);clear hb8 x0 x1 x2 x3 x4 x5 x6 x7 x8 x9 y0 y1 y2 y3 y4 y5 y6 y7 y8 y9;go_wp2_with fail;go_roundw
   case measure=>simp[intOf];omega
   case rel=>exact⟨k+1,hkl,by go_num,rfl,HB8⟩
  ·obtain rfl:k=cs.length:=by omega
   go_wp2_with fail;go_ret
   exact⟨rfl,bT HB3.out HBW.out⟩
end Go.Proofs.YtigcophcpboanaaGreatDoor
namespace Go.Proofs.YtigcophcpboanaaGreatDoor
open Go.RowKit
def exLns:List LnW:=[
 .part sKeel ⟨#[98,101,97,109]⟩ ⟨#[48]⟩ ⟨#[52,48]⟩ ⟨#[57,48,48,48]⟩ ⟨#[49,48,48,48,48]⟩ ⟨sKeel,2,0,40,[],9000,10000⟩,
 .part sTank1 ⟨#[116,97,110,107]⟩ ⟨#[49,48]⟩ ⟨#[49,57]⟩ ⟨#[50,48,48,48]⟩ ⟨#[50,53,48,48]⟩ ⟨sTank1,4,10,19,[sKeel],2000,2500⟩,
 .part sDeck ⟨#[112,108,97,116,101]⟩ ⟨#[53]⟩ ⟨#[50,52]⟩ ⟨#[51,48,48,48]⟩ ⟨#[51,48,48,48]⟩ ⟨sDeck,1,5,24,[sTank1,sKeel],3000,3000⟩,
 .add ⟨#[49,48,48]⟩ sPipe1 ⟨#[112,105,112,101]⟩ ⟨#[49,50]⟩ ⟨#[51,48]⟩ ⟨#[49,48,48]⟩ ⟨#[50,48,48]⟩ 100 ⟨sPipe1,5,12,30,[sTank1],100,200⟩,
 .swap ⟨#[50,48,48]⟩ sTank1 sHold1 ⟨#[112,108,97,116,101]⟩ ⟨#[49,48]⟩ ⟨#[50,57]⟩ ⟨#[56,48,48]⟩ ⟨#[57,48,48]⟩ 200 ⟨sHold1,1,10,29,[sKeel],800,900⟩]
def exRest:Nat→ByteArray
 | 0=>sText
 | 1=>⟨#[112,97,114,116,32,116,97,110,107,49,32,116,97,110,107,32,49,48,32,49,57,32,50,48,48,48,32,50,53,48,48,32,107,101,101,108,10,112,97,114,116,32,100,101,99,107,32,112,108,97,116,101,32,53,32,50,52,32,51,48,48,48,32,51,48,48,48,32,116,97,110,107,49,32,107,101,101,108,10,49,48,48,32,97,100,100,32,112,105,112,101,49,32,112,105,112,101,32,49,50,32,51,48,32,49,48,48,32,50,48,48,32,116,97,110,107,49,10,50,48,48,32,115,119,97,112,32,116,97,110,107,49,32,104,111,108,100,49,32,112,108,97,116,101,32,49,48,32,50,57,32,56,48,48,32,57,48,48,32,107,101,101,108,10]⟩
 | 2=>⟨#[112,97,114,116,32,100,101,99,107,32,112,108,97,116,101,32,53,32,50,52,32,51,48,48,48,32,51,48,48,48,32,116,97,110,107,49,32,107,101,101,108,10,49,48,48,32,97,100,100,32,112,105,112,101,49,32,112,105,112,101,32,49,50,32,51,48,32,49,48,48,32,50,48,48,32,116,97,110,107,49,10,50,48,48,32,115,119,97,112,32,116,97,110,107,49,32,104,111,108,100,49,32,112,108,97,116,101,32,49,48,32,50,57,32,56,48,48,32,57,48,48,32,107,101,101,108,10]⟩
 | 3=>⟨#[49,48,48,32,97,100,100,32,112,105,112,101,49,32,112,105,112,101,32,49,50,32,51,48,32,49,48,48,32,50,48,48,32,116,97,110,107,49,10,50,48,48,32,115,119,97,112,32,116,97,110,107,49,32,104,111,108,100,49,32,112,108,97,116,101,32,49,48,32,50,57,32,56,48,48,32,57,48,48,32,107,101,101,108,10]⟩
 | 4=>⟨#[50,48,48,32,115,119,97,112,32,116,97,110,107,49,32,104,111,108,100,49,32,112,108,97,116,101,32,49,48,32,50,57,32,56,48,48,32,57,48,48,32,107,101,101,108,10]⟩
 | _=>⟨#[]⟩
theorem exLn_parts:psT exLns=exParts:=rfl
theorem exLn_chgs:csT exLns=exChgs:=rfl
theorem exLn0:LineOk (exRest 0) (exRest 1) (.part sKeel ⟨#[98,101,97,109]⟩ ⟨#[48]⟩ ⟨#[52,48]⟩ ⟨#[57,48,48,48]⟩ ⟨#[49,48,48,48,48]⟩ ⟨sKeel,2,0,40,[],9000,10000⟩) :=
 ⟨⟨rfl,⟨1,⟨by decide,by kernel_rfl⟩,rfl⟩,⟨by decide,by kernel_rfl⟩,⟨by decide,by kernel_rfl⟩,⟨by decide,by kernel_rfl⟩,⟨by decide,by kernel_rfl⟩⟩,of_decide_eq_true (by kernel_rfl),of_decide_eq_true (by kernel_rfl),by kernel_rfl,⟨⟨#[112,97,114,116,32,107,101,101,108,32,98,101,97,109,32,48,32,52,48,32,57,48,48,48,32,49,48,48,48,48]⟩,by kernel_rfl,of_decide_eq_true (by kernel_rfl),by kernel_rfl,by kernel_rfl,of_decide_eq_true (by kernel_rfl)⟩⟩
theorem exLn1:LineOk (exRest 1) (exRest 2) (.part sTank1 ⟨#[116,97,110,107]⟩ ⟨#[49,48]⟩ ⟨#[49,57]⟩ ⟨#[50,48,48,48]⟩ ⟨#[50,53,48,48]⟩ ⟨sTank1,4,10,19,[sKeel],2000,2500⟩) :=
 ⟨⟨rfl,⟨3,⟨by decide,by kernel_rfl⟩,rfl⟩,⟨by decide,by kernel_rfl⟩,⟨by decide,by kernel_rfl⟩,⟨by decide,by kernel_rfl⟩,⟨by decide,by kernel_rfl⟩⟩,of_decide_eq_true (by kernel_rfl),of_decide_eq_true (by kernel_rfl),by kernel_rfl,⟨⟨#[112,97,114,116,32,116,97,110,107,49,32,116,97,110,107,32,49,48,32,49,57,32,50,48,48,48,32,50,53,48,48,32,107,101,101,108]⟩,by kernel_rfl,of_decide_eq_true (by kernel_rfl),by kernel_rfl,by kernel_rfl,of_decide_eq_true (by kernel_rfl)⟩⟩
theorem exLn2:LineOk (exRest 2) (exRest 3) (.part sDeck ⟨#[112,108,97,116,101]⟩ ⟨#[53]⟩ ⟨#[50,52]⟩ ⟨#[51,48,48,48]⟩ ⟨#[51,48,48,48]⟩ ⟨sDeck,1,5,24,[sTank1,sKeel],3000,3000⟩) :=
 ⟨⟨rfl,⟨0,⟨by decide,by kernel_rfl⟩,rfl⟩,⟨by decide,by kernel_rfl⟩,⟨by decide,by kernel_rfl⟩,⟨by decide,by kernel_rfl⟩,⟨by decide,by kernel_rfl⟩⟩,of_decide_eq_true (by kernel_rfl),of_decide_eq_true (by kernel_rfl),by kernel_rfl,⟨⟨#[112,97,114,116,32,100,101,99,107,32,112,108,97,116,101,32,53,32,50,52,32,51,48,48,48,32,51,48,48,48,32,116,97,110,107,49,32,107,101,101,108]⟩,by kernel_rfl,of_decide_eq_true (by kernel_rfl),by kernel_rfl,by kernel_rfl,of_decide_eq_true (by kernel_rfl)⟩⟩
theorem exLn3:LineOk (exRest 3) (exRest 4) (.add ⟨#[49,48,48]⟩ sPipe1 ⟨#[112,105,112,101]⟩ ⟨#[49,50]⟩ ⟨#[51,48]⟩ ⟨#[49,48,48]⟩ ⟨#[50,48,48]⟩ 100 ⟨sPipe1,5,12,30,[sTank1],100,200⟩) :=
 ⟨⟨⟨⟨by decide,by kernel_rfl⟩,by kernel_rfl⟩,⟨rfl,⟨4,⟨by decide,by kernel_rfl⟩,rfl⟩,⟨by decide,by kernel_rfl⟩,⟨by decide,by kernel_rfl⟩,⟨by decide,by kernel_rfl⟩,⟨by decide,by kernel_rfl⟩⟩⟩,of_decide_eq_true (by kernel_rfl),of_decide_eq_true (by kernel_rfl),by kernel_rfl,⟨⟨#[49,48,48,32,97,100,100,32,112,105,112,101,49,32,112,105,112,101,32,49,50,32,51,48,32,49,48,48,32,50,48,48,32,116,97,110,107,49]⟩,by kernel_rfl,of_decide_eq_true (by kernel_rfl),by kernel_rfl,by kernel_rfl,of_decide_eq_true (by kernel_rfl)⟩⟩
theorem exLn4:LineOk (exRest 4) (exRest 5) (.swap ⟨#[50,48,48]⟩ sTank1 sHold1 ⟨#[112,108,97,116,101]⟩ ⟨#[49,48]⟩ ⟨#[50,57]⟩ ⟨#[56,48,48]⟩ ⟨#[57,48,48]⟩ 200 ⟨sHold1,1,10,29,[sKeel],800,900⟩) :=
 ⟨⟨⟨⟨by decide,by kernel_rfl⟩,by kernel_rfl⟩,⟨rfl,⟨0,⟨by decide,by kernel_rfl⟩,rfl⟩,⟨by decide,by kernel_rfl⟩,⟨by decide,by kernel_rfl⟩,⟨by decide,by kernel_rfl⟩,⟨by decide,by kernel_rfl⟩⟩⟩,of_decide_eq_true (by kernel_rfl),of_decide_eq_true (by kernel_rfl),by kernel_rfl,⟨⟨#[50,48,48,32,115,119,97,112,32,116,97,110,107,49,32,104,111,108,100,49,32,112,108,97,116,101,32,49,48,32,50,57,32,56,48,48,32,57,48,48,32,107,101,101,108]⟩,by kernel_rfl,of_decide_eq_true (by kernel_rfl),by kernel_rfl,by kernel_rfl,of_decide_eq_true (by kernel_rfl)⟩⟩
theorem exText_ok:TextOk sText exRest exLns:=by
 refine⟨rfl,by kernel_rfl,by decide,fun k ln h=>?_⟩
 match k,h with
 | 0,h=>injection h with h;subst h;exact exLn0
 | 1,h=>injection h with h;subst h;exact exLn1
 | 2,h=>injection h with h;subst h;exact exLn2
 | 3,h=>injection h with h;subst h;exact exLn3
 | 4,h=>injection h with h;subst h;exact exLn4
 | n+5,h=>cases h
theorem exText:(⟨(textT exParts exChgs).toArray⟩:ByteArray)=sText:=by kernel_rfl
section
variable{u v:Value}{W:World}
def PlanV(W:World)(n:Nat)(v:Value):Prop:=∃(A C:Option Addr) (cap capc:Nat) (ms:List HuM) (cs:List HcM),v=.agg #[.slice A ms.length cap,.slice C cs.length capc]∧PlanAt W A C cap capc ms cs∧psOf ms=exParts∧csOf cs=exChgs.take n
theorem plan22V(n:Nat)(hn:n≤2)(w:World):Cs 18 #[iv n] w fun e w'=>∃v,e=.returned v∧PlanV w' n v∧BW w w' :=
 (plan22_any n hn w).mono fun _ _ ⟨A,C,cap,capc,ms,cs,he,h1,h2,h3,hb⟩=>⟨_,he,⟨A,C,cap,capc,ms,cs,rfl,h1,h2,h3⟩,hb⟩
theorem PlanV.below{V:World}{n:Nat}(h:PlanV W n v)(hb:BW W V):PlanV V n v:=by obtain⟨A,C,cap,capc,ms,cs,he,h1,h2,h3⟩:=h;exact⟨A,C,cap,capc,ms,cs,he,h1.below hb,h2,h3⟩
theorem ex_tk2:exChgs.take 2=exChgs:=rfl
theorem exc8(h:PlanV W 2 v):Cs 7 #[v,iv 200] W fun e w'=>∃(A:Option Addr) (c:Nat) (ms:List HuM),e=.returned (.tuple #[.agg #[.slice A ms.length c],iv 0])∧psOf ms=exShip∧SlM w' w'.heap.size A c ms∧BW W w':=by
 obtain⟨A,C,cap,capc,ms,cs,rfl,hp,h1,h2⟩:=h;rw[ex_tk2]at h2;refine(ship8_any A C ms cs _ cap capc 200 W (lr _) hp.sl hp.ch hp.wf).mono ?_;rintro e w' ⟨r,A',n,c,rfl,hb,hr,hout⟩;have hr0:r=0:=hr.2 (by rw[h1,h2];exact⟨ex_ok2,by decide⟩)
 subst hr0;obtain⟨out,rfl,ho,hs⟩:=hout rfl;exact⟨A',c,out,rfl,by rw[ho,h1,h2,ex_on2],hs,hb⟩
theorem exc10(h:PlanV W 0 v):Cs 13 #[v,iv 0,iv 10,iv 19] W (Rt W (.tuple #[.agg #[iv 5695,iv 6440],iv 0])):=by
 obtain⟨A,C,cap,capc,ms,cs,rfl,hp,h1,h2⟩:=h;refine(weigh10_any A C ms cs _ cap capc 0 10 19 W (lr _) hp.sl hp.ch hp.wf).mono ?_;rintro e w' ⟨lo,hi,r,rfl,hb,hr,hv⟩;have hr0:r=0:=hr.2 (by rw[h1,h2];exact⟨⟨ex_ok0,by decide⟩,by decide,by decide⟩)
 subst hr0;obtain⟨e1,e2⟩:=hv rfl;rw[h1,h2]at e1 e2;rw[ex_take0,ex_on0,ex_lo]at e1;rw[ex_take0,ex_on0,ex_hi]at e2;subst e1 e2;exact⟨rfl,hb⟩
theorem own_rdS{w:World}{base:Nat}{l:List ByteArray}(h:w.ownsRow base 9 1 v l.length (l.map .string)):∃A c,v=.slice A l.length c∧Rd1 .string w w.heap.size A l:=by obtain⟨A,c,e,h1,_⟩:=own_rd1 h;exact⟨A,c,e,h1⟩
theorem exc9(h:PlanV W 2 v):Cs 10 #[v,iv 200,.string sKeel] W fun e w'=>∃(A:Option Addr) (c:Nat),e=.returned (.tuple #[.slice A 3 c,iv 0])∧Rd1 .string w' w'.heap.size A [sHold1,sDeck,sPipe1]∧BW W w':=by
 obtain⟨A,C,cap,capc,ms,cs,rfl,hp,h1,h2⟩:=h;rw[ex_tk2]at h2;refine(above9_any A C ms cs _ cap capc 200 sKeel W (lr _) hp.sl hp.ch hp.wf).mono ?_;rintro e w' ⟨v,r,n,l,rfl,hb,ho,rfl,hr,hl,_⟩;have hr0:r=0:=hr.2 (by rw[h1,h2];exact⟨⟨ex_ok2,by decide⟩,by rw[ex_on2];exact ex_has⟩)
 subst hr0;have e1:=hl rfl;rw[h1,h2,ex_on2,ex_above]at e1;subst e1;obtain⟨A',c',rfl,hrd⟩:=own_rdS ho;exact⟨A',c',rfl,hrd,hb⟩
theorem exc9b(h:PlanV W 2 v):Cs 10 #[v,iv 200,.string sTank1] W fun e w'=>∃u,e=.returned (.tuple #[u,iv 4])∧BW W w':=by
 obtain⟨A,C,cap,capc,ms,cs,rfl,hp,h1,h2⟩:=h;rw[ex_tk2]at h2;refine(above9_any A C ms cs _ cap capc 200 sTank1 W (lr _) hp.sl hp.ch hp.wf).mono ?_;rintro e w' ⟨v,r,n,l,rfl,hb,ho,rfl,hr,hl,h4⟩;have hr0:r≠0:=fun h0=>by have:=(hr.1 h0).2;rw[h1,h2,ex_on2,ex_hasno]at this;cases this
 rcases(h4 hr0).2 with rfl | hn
 ·exact⟨v,rfl,hb⟩
 ·exact absurd (by rw[h1,h2];exact⟨ex_ok2,by decide⟩) hn
theorem sort_is{l r:List (List UInt8)}(hp:l.isPerm r=true)(hs:r.Pairwise fun x y=>decide (x≤y)=true):(l.mergeSort fun x y=>decide (x≤y))=r:=by
 refine List.Perm.eq_of_pairwise (le:=fun x y=>decide (x≤y)=true) (fun a b _ _ h1 h2=>?_) (List.pairwise_mergeSort (fun a b c h1 h2=>?_) (fun a b=>?_) l) hs ((List.mergeSort_perm l _).trans (List.isPerm_iff.1 hp))
 ·simp only[decide_eq_true_eq]at h1 h2;exact List.le_antisymm h1 h2
 ·simp only[decide_eq_true_eq]at *;exact List.le_trans h1 h2
 ·simp only[Bool.or_eq_true,decide_eq_true_eq];exact List.le_total a b
theorem ex_tidy:tidyN (exShip.map HuP.name++exParts.map HuP.name)=[sDeck,sHold1,sKeel,sPipe1,sTank1]:=by
 unfold tidyN;rw[sort_is (r:=[[100,101,99,107],[100,101,99,107],[104,111,108,100,49],[107,101,101,108],[107,101,101,108],[112,105,112,101,49],[116,97,110,107,49]]) (by kernel_rfl) (by decide)]
 kernel_rfl
theorem ex_allP:allP exShip exParts=[sDeck,sHold1,sKeel,sPipe1,sTank1]:=ex_tidy
theorem ex_diff:diffL exShip exParts (allP exShip exParts)=[sDeck,sHold1,sPipe1,sTank1]:=by
 rw[ex_allP]
 kernel_rfl
theorem exc23(h:PlanV W 2 v)(k:PlanV W 0 u):Cs 19 #[v,u,iv 200] W fun e w'=>∃(A:Option Addr) (c:Nat),e=.returned (.tuple #[.slice A 4 c,iv 0])∧Rd1 .string w' w'.heap.size A [sDeck,sHold1,sPipe1,sTank1]∧BW W w':=by
 obtain⟨A,C,cap,capc,ms,cs,rfl,hp,h1,h2⟩:=h;obtain⟨A',C',cap',capc',ms',cs',rfl,kp,k1,k2⟩:=k;rw[ex_tk2]at h2;rw[ex_take0]at k2;refine(differ23_any A C A' C' ms ms' cs cs' cap capc cap' capc' 200 W hp kp (by rw[h1,h2];exact ex_ok2) (by rw[k1,k2];exact ex_ok0) (by decide) (by rw[h1,h2,ex_on2];decide)).mono ?_
 rintro e w' ⟨v,rfl,hb,ho⟩;rw[h1,h2,k1,k2,ex_on2,ex_on0,ex_diff]at ho;obtain⟨A',c',rfl,hrd⟩:=own_rdS ho;exact⟨A',c',rfl,hrd,hb⟩
def BothV(W:World)(v:Value):Prop:=∃(b:Nat) (p q:PlM),v=.slice (some ⟨b,0,none⟩) 2 2∧TwoPlans W b 0 p q∧psOf p.ms=exParts∧csOf p.cs=exChgs∧psOf q.ms=exParts∧csOf q.cs=[]
theorem both25_any(w:World):Cs 21 #[] w fun e w'=>∃v,e=.returned v∧BothV w' v∧BW w w':=by
 have HP:=Lq (plan22_any 2 (by omega) w)
 have HQ:=Lq (plan22_any 0 (by omega))
 go_enter Tryz.func21,Tryz.ntmps21
 go_wp2_with fail;refine HP.out.mono ?_;rintro e w1 ⟨A,C,cap,capc,ms,cs,rfl,hp,h1,h2,hb⟩;have HP1:=Lq (show _∧_∧_ from⟨hp,h1,h2⟩)
 have HB:=Lq hb;clear hp h1 h2 hb;go_wp2_with fail;refine(HQ.out w1).mono ?_;rintro e w2 ⟨A',C',cap',capc',ms',cs',rfl,hp,h1,h2,hb⟩;have HQ2:=Lq (show _∧_∧_ from⟨hp,h1,h2⟩)
 have HB2:=Lq hb;clear hp h1 h2 hb HQ HP;obtain⟨w3,hw3⟩:=ex (w2.alloc (.cells #[.slice A ms.length cap,.slice C cs.length capc,.slice A' ms'.length cap',.slice C' cs'.length capc'] 27));have b3:BW w2 w3:=by rw[←hw3];exact bA (bR _) _
 have q3:Blk w3 w2.heap.size 27 #[.slice A ms.length cap,.slice C cs.length capc,.slice A' ms'.length cap',.slice C' cs'.length capc']:=by rw[←hw3];exact Blk.new w2 27 _
 have HB3:=Lq b3;have HQ3:=Lq q3;clear b3 q3;go_wp2_with fail;go_ret
 have b13:=bT HB2.out HB3.out;have h2:=HP1.out.2.2;have k2:=HQ2.out.2.2;rw[ex_tk2]at h2;rw[ex_take0]at k2;refine⟨_,rfl,⟨_,⟨A,C,cap,capc,ms,cs⟩,⟨A',C',cap',capc',ms',cs'⟩,rfl,⟨HQ3.out.c 0,HQ3.out.c 1,HQ3.out.c 2,HQ3.out.c 3,HP1.out.1.below b13,HQ2.out.1.below HB3.out, ?_⟩,HP1.out.2.1,h2,HQ2.out.2.1,k2⟩,bT HB.out b13⟩;have:=congrArg List.length k2
 simpa using this
theorem ex_on0':shipOn 200 exParts []=exParts:=rfl
def exSg:List SgM:=[⟨sTank1,15,4⟩]
theorem ex_agree:agreeL [exShip,exParts] exSg 2=[1]:=by kernel_rfl
theorem ex_agree0:agreeL [exShip,exParts] [] 2=[0,1]:=by kernel_rfl
theorem ex_pick0:pickL [exShip,exParts] [0,1]=[exShip,exParts]:=by kernel_rfl
theorem ex_some:someN [exShip,exParts]=[sDeck,sHold1,sKeel,sPipe1,sTank1]:=ex_tidy
theorem ex_all:allN [exShip,exParts]=[sDeck,sKeel]:=by
 unfold allN;rw[ex_some]
 kernel_rfl
theorem ex_ask:askTo [exShip,exParts] (allLooks [sDeck,sHold1,sKeel,sPipe1,sTank1])=(sHold1,10,1):=by kernel_rfl
theorem exc24{g:Nat}(h:BothV W v)(hg:Blk W g 71 #[.string sTank1,iv 15,iv 4]):Cs 20 #[v,iv 200,.slice (some ⟨g,0,none⟩) 1 1] W fun e w'=>∃(A:Option Addr) (c:Nat),e=.returned (.tuple #[.slice A 1 c,iv 0])∧Rd1 iv w' w'.heap.size A [1]∧BW W w':=by
 obtain⟨b,p,q,rfl,ht,h1,h2,k1,k2⟩:=h;refine(agree24_any b 0 2 p q exSg (some ⟨g,0,none⟩) 1 200 W ht (by decide) (by rw[h1,h2];exact ex_ok2) (by rw[k1,k2];exact ex_ok0) (Blk.rdN encS_len (xs:=exSg) hg) (by decide) (fun s hs=>by rw[List.mem_singleton.1 hs];exact⟨by kernel_rfl,of_decide_eq_true (by kernel_rfl),by decide,by decide⟩)).mono ?_
 rintro e w' ⟨A,c,he,hr,_,_,hb⟩;rw[h1,h2,k1,k2,ex_on2,ex_on0',ex_agree]at he hr;exact⟨A,c,he,fun i x hx=>by
  match i,hx with
  | 0,hx =>
   injection hx with hx
   subst hx;exact hr 0 1 rfl,hb⟩
theorem exc26(h:BothV W v):Cs 22 #[v,iv 200,.slice none 0 0] W fun e w'=>∃(A A':Option Addr) (c c':Nat),e=.returned (.tuple #[.slice A 2 c,.slice A' 5 c',iv 0])∧Rd1 .string w' w'.heap.size A [sDeck,sKeel]∧Rd1 .string w' w'.heap.size A' [sDeck,sHold1,sKeel,sPipe1,sTank1]∧BW W w':=by
 obtain⟨b,p,q,rfl,ht,h1,h2,k1,k2⟩:=h;have hag:agreeL [shipOn 200 (psOf p.ms) (csOf p.cs),shipOn 200 (psOf q.ms) (csOf q.cs)] [] 2=[0,1]:=by rw[h1,h2,k1,k2,ex_on2,ex_on0',ex_agree0]
 have hpk:pickL [shipOn 200 (psOf p.ms) (csOf p.cs),shipOn 200 (psOf q.ms) (csOf q.cs)] [0,1]=[exShip,exParts]:=by rw[h1,h2,k1,k2,ex_on2,ex_on0',ex_pick0]
 have h0:=sure26_any b 0 2 p q [] none 0 200 W ht (by decide) (by rw[h1,h2];exact ex_ok2) (by rw[k1,k2];exact ex_ok0) RdN.nil (by decide) (fun s hs=>by cases hs)
 rw[hag,hpk]at h0;refine(h0 (by decide) (by decide) (by decide)).mono ?_
 rintro e w' ⟨A,A',c,c',he,hr,hr',_,_,_,_,hb⟩;rw[ex_all,ex_some]at he;rw[ex_all]at hr;rw[ex_some]at hr';exact⟨A,A',c,c',he,hr,hr',hb⟩
theorem exc27(h:BothV W v):Cs 23 #[v,iv 200,.slice none 0 0] W (Rt W (.tuple #[.string sHold1,iv 10,iv 1,iv 0])):=by
 obtain⟨b,p,q,rfl,ht,h1,h2,k1,k2⟩:=h;have hag:agreeL [shipOn 200 (psOf p.ms) (csOf p.cs),shipOn 200 (psOf q.ms) (csOf q.cs)] [] 2=[0,1]:=by rw[h1,h2,k1,k2,ex_on2,ex_on0',ex_agree0]
 have hpk:pickL [shipOn 200 (psOf p.ms) (csOf p.cs),shipOn 200 (psOf q.ms) (csOf q.cs)] [0,1]=[exShip,exParts]:=by rw[h1,h2,k1,k2,ex_on2,ex_on0',ex_pick0]
 have h0:=ask27_any b 0 2 p q [] none 0 200 W ht (by decide) (by rw[h1,h2];exact ex_ok2) (by rw[k1,k2];exact ex_ok0) RdN.nil (by decide) (fun s hs=>by cases hs)
 rw[hag,hpk]at h0;refine(h0 (by decide) (by decide) (by decide) (by rw[ex_some,ex_ask];kernel_rfl)).mono ?_
 rintro e w' ⟨he,hb⟩;rw[ex_some,ex_ask]at he;exact⟨he,hb⟩
theorem ex_tell:∀p∈exParts,TellOk p∧(lineOf (partW p)).length≤100000:=by intro p hp;simp only[exParts,List.mem_cons,List.not_mem_nil,or_false]at hp;rcases hp with rfl | rfl | rfl<;>exact⟨⟨by decide,fun n hn=>by simp[numsOf]at hn;omega,by decide⟩,of_decide_eq_true (by kernel_rfl)⟩
theorem ex_tellc:∀c∈exChgs,1≤c.what∧c.what≤3∧(-9223372036854775808≤c.day∧c.day≤9223372036854775807)∧(c.what≠2→TellOk c.part)∧(lineOf (chgW c)).length≤100000:=by intro c hc;simp only[exChgs,List.mem_cons,List.not_mem_nil,or_false]at hc;rcases hc with rfl | rfl<;>exact⟨by decide,by decide,by decide,fun _=>⟨by decide,fun n hn=>by simp[numsOf]at hn;omega,by decide⟩,of_decide_eq_true (by kernel_rfl)⟩
theorem exc28(h:PlanV W 2 v)(ht:PowTab W):Cs 24 #[v] W (Rt W (.tuple #[.string sText,iv 0])):=by
 obtain⟨A,C,cap,capc,ms,cs,rfl,hp,h1,h2⟩:=h;rw[ex_tk2]at h2;refine(write28_any A C cap capc ms cs W hp (by rw[h1,h2];exact ex_ok2) ht (fun m hm=>ex_tell m.p (h1▸List.mem_map_of_mem hm)) (fun c hc=>ex_tellc c.c (h2▸List.mem_map_of_mem hc)) ?_ ?_).mono ?_
 ·have:=congrArg List.length h1;simp only[List.length_map]at this;rw[this];decide
 ·have:=congrArg List.length h2;simp only[List.length_map]at this;rw[this];decide
 ·rintro e w' ⟨he,hb⟩;rw[h1,h2,exText]at he;exact⟨he,hb⟩
theorem ex_psz:∀p∈exParts,PSz p:=by
 intro p hp;simp only[exParts,List.mem_cons,List.not_mem_nil,or_false]at hp;have s5:∀s:ByteArray,s.size≤5→s.size≤maxLen:=fun s hs=>by unfold maxLen;omega
 rcases hp with rfl | rfl | rfl<;>exact⟨s5 _ (by decide),fun o ho=>by
  simp only[List.mem_cons,List.not_mem_nil,or_false]at ho;all_goals first
  | (subst ho;exact s5 _ (by decide))
  | (rcases ho with rfl | rfl<;>exact s5 _ (by decide)),by decide⟩
theorem ex_pszc:∀c∈exChgs,PSz c.part∧c.name.size≤maxLen:=by
 intro c hc;simp only[exChgs,List.mem_cons,List.not_mem_nil,or_false]at hc;have s5:∀s:ByteArray,s.size≤5→s.size≤maxLen:=fun s hs=>by unfold maxLen;omega
 rcases hc with rfl | rfl<;>exact⟨⟨s5 _ (by decide),fun o ho=>by simp only[List.mem_cons,List.not_mem_nil,or_false]at ho;subst ho;exact s5 _ (by decide),by decide⟩,s5 _ (by decide)⟩
theorem exc29(m:Int)(ht:PowTab W)(hm:W.cell? ⟨0,0,none⟩=some (iv m)):Cs 25 #[.string sText] W fun e w'=>∃v,e=.returned (.tuple #[v,iv 0])∧PlanV w' 2 v∧BW W w':=by
 refine(read29_any sText exRest exLns m W ht hm exText_ok (of_decide_eq_true (by kernel_rfl)) (by rw[exLn_parts,exLn_chgs];exact ex_ok2) (by rw[exLn_parts,exLn_chgs];exact exText) (by rw[exLn_parts];exact ex_psz) (by rw[exLn_chgs];exact ex_pszc) (by rw[exLn_parts];exact ex_tell) (by rw[exLn_chgs];exact ex_tellc)).mono ?_
 rintro e w' ⟨A,C,cap,capc,ms,cs,he,hp,h1,h2,hb⟩;exact⟨_,he,⟨A,C,cap,capc,ms,cs,rfl,hp,h1,h2⟩,hb⟩
theorem exc37(h:PlanV W 2 v)(k:PlanV W 2 u):Cs 33 #[v,u] W (Rt W (.bool true)):=by
 obtain⟨A,C,cap,capc,ms,cs,rfl,hp,h1,h2⟩:=h;obtain⟨A',C',cap',capc',ms',cs',rfl,kp,k1,k2⟩:=k;have hon:∀p∈exParts,p.on.length≤1000000:=fun p hp=>lT (ex_psz p hp).on (by omega)
 have honc:∀c∈exChgs.take 2,c.part.on.length≤1000000:=fun c hc=>lT (ex_pszc c hc).1.on (by omega)
 refine same37_same A A' C C' ms ms' cs cs' cap cap' capc capc' W hp kp (by rw[h1,k1]) (by rw[h2,k2]) ?_ ?_ (by rw[h1];exact hon) (by rw[h2];exact honc)
 ·have:=congrArg List.length h1;simp only[List.length_map]at this;rw[this];decide
 ·have:=congrArg List.length h2;simp only[List.length_map]at this;rw[this];decide
end
end Go.Proofs.YtigcophcpboanaaGreatDoor
