/- The reference of layer 1: bare. The reference of layer 1: the region of changed that adds .. -/
import Derived.BigGuardPart
import Derived.Test.YtigcophcpboanaaGreatDoorM2
set_option maxRecDepth 1000000
set_option maxHeartbeats 0
namespace Go.Proofs.YtigcophcpboanaaGreatDoor
open Go.RowKit
structure HcM where
 what:Int
 day:Int
 name:ByteArray
 part:HuM
def HcM.c(c:HcM):HuC:=⟨c.what,c.day,c.name,c.part.p⟩
abbrev cV(c:HcM):Value:=.agg #[iv c.what,iv c.day,.string c.name,.string c.part.p.name,iv c.part.p.kind,iv c.part.p.first,iv c.part.p.last,.slice c.part.A c.part.p.on.length c.part.cap,iv c.part.p.wlo,iv c.part.p.whi]
def encC(c:HcM):List Value:=[iv c.what,iv c.day,.string c.name,.string c.part.p.name,iv c.part.p.kind,iv c.part.p.first,iv c.part.p.last,.slice c.part.A c.part.p.on.length c.part.cap,iv c.part.p.wlo,iv c.part.p.whi]
theorem encC_len:∀c,(encC c).length=10:=fun _=>rfl
def bareB(c:HuC):Bool:=(c.what==1&&c.name.toList.isEmpty)||(c.what==2&&bareP c.part)||c.what==3
theorem bare15_any(c:HcM)(w:World)(hM:MOk w w.heap.size c.part):Cs 16 #[cV c] w (Rt w (.bool (bareB c.c))):=by
 obtain⟨what,day,nm,⟨⟨name,kind,first,last,on,wlo,whi⟩,Ao,ca⟩⟩:=c;have hon:on.length≤9223372036854775807:=by have:=hM.le;have:=hM.cm;simp only[maxLen]at *;omega
 clear hM;go_enter Tryz.func16,Tryz.ntmps16
 go_wp2
 all_goals
  go_ret
  exact⟨ret_bool (by simp_all [bareB,bareP,HcM.c]),bA (bA (bR _) _) _⟩
section
variable{name:ByteArray}{Q:Exit→Act→World→Prop}{first kind last whi wlo:Int}{ca cap g3 n:Nat}{A Ao:Option Addr}{zB zK zL zM zN zO zP zC zV za zb zc zd ze zf zg zh zi zj zk zl zm zn zE zo zp zq zr zs zt zu zv zw zx zF zy zz zAA zAB zAC zAD zAE zAF zAG zAH zG zAI zAJ zAK zAL zAM zAN zAO zAP zAQ zAR zH zAS zAT zAU zAV zAW zAX zAY zAZ zAa zAb zI zAc zAd zAe zAf zAg zAh zAi zAj zAk zJ:Value}{V w:World}
theorem liveB_below{w':World}{L:List (Option RowO)}(h:LiveB V w L)(hb:BW w w'):LiveB V w' L :=
 ⟨bT h.1 hb,lT h.2.1 hb.size,fun i o hi=>⟨own_below (h.2.2 i o hi).1 hb,(h.2.2 i o hi).2⟩⟩
noncomputable def ops16_4:Array Oper:=opsOf (regionOf Tryz.f17 4)
abbrev hHR61(V:World)(Ao:Option Addr)(ca g3:Nat)(name:ByteArray)(kind first last wlo whi:Int)(on:List ByteArray):Prop:=∀W,BW V W→cA W g3 3 (.string name)∧cA W g3 4 (iv kind)∧cA W g3 5 (iv first)∧cA W g3 6 (iv last)∧cA W g3 7 (.slice Ao on.length ca)∧cA W g3 8 (iv wlo)∧cA W g3 9 (iv whi)
theorem st16_4{on:List ByteArray}{C1:List Value}{Pr:Prop}{v2:Value}{g:Nat}(hn:n≤11)(hC1:Srcs V 7 (.slice A n cap) n C1)(hS:hHR61 V Ao ca g3 name kind first last wlo whi on)(hP:∀W,BW V W→Cs 14 #[.agg #[.string name,iv kind,iv first,iv last,.slice Ao on.length ca,iv wlo,iv whi],.slice A n cap,.slice A n cap] W (ErrIff Pr W))(hQ:∀u15 u16 u17 u18 u19 u20 u21 u22 u23 u24 u25 u26 v r W',(r=0↔Pr)→LiveB V W' [some ⟨v,43,7,0+n+1,[]++C1++[.string name,iv kind,iv first,iv last,.slice Ao on.length ca,iv wlo,iv whi]⟩,none,none,none]→Q .normal ⟨(((.slice A n cap)::zB::zC::(pT g3 0)::(v)::(iv r)::zG::zH::zI::zJ::zK::zL::zM::zN::zO::(u15)::(u16)::(u17)::(u18)::(u19)::(u20)::(u21)::(u22)::(u23)::(u24)::(u25)::(u26)::zb::zc::zd::ze::zf::zg::zh::zi::zj::zk::zl::zm::zn::zo::zp::zq::zr::zs::zt::zu::zv::zw::zx::zy::zz::zAA::zAB::zAC::zAD::zAE::zAF::zAG::zAH::zAI::zAJ::zAK::zAL::zAM::zAN::zAO::zAP::zAQ::zAR::zAS::zAT::zAU::zAV::zAW::zAX::zAY::zAZ::zAa::zAb::zAc::zAd::zAe::zAf::zAg::zAh::zAi::zAj::zAk::[]:List Value).toArray),[]⟩ W')(hL:LiveB V w [some ⟨v2,43,7,0+n,[]++C1⟩,some ⟨.slice (some ⟨g,0,none⟩) 1 1,43,7,1,[.string name,iv kind,iv first,iv last,.slice Ao on.length ca,iv wlo,iv whi]⟩,none,none]) :
   wpAnyH Tryz.prog .any ops16_4 (NoPanic Q) (fun W=>cA W g3 3 (.string name)∧cA W g3 4 (iv kind)∧cA W g3 5 (iv first)∧cA W g3 6 (iv last)∧cA W g3 7 (.slice Ao on.length ca)∧cA W g3 8 (iv wlo)∧cA W g3 9 (iv whi)) 4 #[true,true,true,true,true,true,false,true,true,true,true,false,false,false] ⟨(((.slice A n cap)::zB::zC::(pT g3 0)::zE::zF::zG::zH::zI::zJ::zK::zL::zM::zN::zO::zP::(.slice A n cap)::(v2)::(pT g3 3)::(.agg #[.string name,iv kind,iv first,iv last,.slice Ao on.length ca,iv wlo,iv whi])::(.slice (some ⟨g,0,none⟩) 1 1)::zV::(pT g3 3)::(.agg #[.string name,iv kind,iv first,iv last,.slice Ao on.length ca,iv wlo,iv whi])::(.slice A n cap)::(.slice A n cap)::za::zb::zc::zd::ze::zf::zg::zh::zi::zj::zk::zl::zm::zn::zo::zp::zq::zr::zs::zt::zu::zv::zw::zx::zy::zz::zAA::zAB::zAC::zAD::zAE::zAF::zAG::zAH::zAI::zAJ::zAK::zAL::zAM::zAN::zAO::zAP::zAQ::zAR::zAS::zAT::zAU::zAV::zAW::zAX::zAY::zAZ::zAa::zAb::zAc::zAd::zAe::zAf::zAg::zAh::zAi::zAj::zAk::[]:List Value).toArray),[]⟩ w:=by
  obtain⟨i47,hi47,hz470,hz471,hz472⟩:=info_parts Tryz.info43;have HS:=Lq hS;have HP:=Lq hP;have HQ:=Lq hQ;have L1:=Lq hL;have _u:=hC1;clear hS hP hQ hL hC1 _u;refine rd1 6 fun K' hK=>?_
  refine step_append_live (by rfl) _ _ 22 (by rfl) L1.out 0 _ rfl i47 _ 80 Tryz.underlying22 hi47 hz470 hz471 hz472 rfl (Nat.succ_pos _) (by rfl) (.slice (some ⟨g,0,none⟩) 1 1) 1 _ (by rfl) (live_src L1.out.2 (k:=1) rfl (by simp[Value.oneCell'])) (by simp only[];unfold maxLen;omega) (by simp only[];omega) ?_
  intro v3 w3 hL3;have L3:=Lq (liveB_drop hL3 1);refine hK.out _ _ (HS.out _ hL3.1) (fun hHeld=>?_)
  clear hK hL3 L1;refine rd1 11 fun K' hK=>?_
  go_simp;refine(HP.out _ L3.out.1).mono ?_;rintro e w4 ⟨r,rfl,hr,hb⟩;have HR:=Lq hr;have L4:=Lq (liveB_below L3.out hb);clear hr hb L3;refine hK.out _ _ (HS.out _ L4.out.1) (fun hHeld=>?_)
  clear hK;refine tk 12 v3 ?_;refine tk 13 (iv r) ?_;refine wpAnyH_done (by kernel_rfl) ?_ _
  exact NoPanic.normal (HQ.out _ _ _ _ _ _ _ _ _ _ _ _ _ _ _ HR.out L4.out)
theorem reg16_4{on:List ByteArray}{C1:List Value}{Pr:Prop}{zQ zR zS zT zU zW zX zY zZ:Value}(hn:n≤11)(hC1:Srcs V 7 (.slice A n cap) n C1)(hS:hHR61 V Ao ca g3 name kind first last wlo whi on)(hP:∀W,BW V W→Cs 14 #[.agg #[.string name,iv kind,iv first,iv last,.slice Ao on.length ca,iv wlo,iv whi],.slice A n cap,.slice A n cap] W (ErrIff Pr W))(hQ:∀u15 u16 u17 u18 u19 u20 u21 u22 u23 u24 u25 u26 v r W',(r=0↔Pr)→LiveB V W' [some ⟨v,43,7,0+n+1,[]++C1++[.string name,iv kind,iv first,iv last,.slice Ao on.length ca,iv wlo,iv whi]⟩,none,none,none]→Q .normal ⟨(((.slice A n cap)::zB::zC::(pT g3 0)::(v)::(iv r)::zG::zH::zI::zJ::zK::zL::zM::zN::zO::(u15)::(u16)::(u17)::(u18)::(u19)::(u20)::(u21)::(u22)::(u23)::(u24)::(u25)::(u26)::zb::zc::zd::ze::zf::zg::zh::zi::zj::zk::zl::zm::zn::zo::zp::zq::zr::zs::zt::zu::zv::zw::zx::zy::zz::zAA::zAB::zAC::zAD::zAE::zAF::zAG::zAH::zAI::zAJ::zAK::zAL::zAM::zAN::zAO::zAP::zAQ::zAR::zAS::zAT::zAU::zAV::zAW::zAX::zAY::zAZ::zAa::zAb::zAc::zAd::zAe::zAf::zAg::zAh::zAi::zAj::zAk::[]:List Value).toArray),[]⟩ W') :
  (regionOf Tryz.f17 4).wp Tryz.prog Q ⟨(((.slice A n cap)::zB::zC::(pT g3 0)::zE::zF::zG::zH::zI::zJ::zK::zL::zM::zN::zO::zP::zQ::zR::zS::zT::zU::zV::zW::zX::zY::zZ::za::zb::zc::zd::ze::zf::zg::zh::zi::zj::zk::zl::zm::zn::zo::zp::zq::zr::zs::zt::zu::zv::zw::zx::zy::zz::zAA::zAB::zAC::zAD::zAE::zAF::zAG::zAH::zAI::zAJ::zAK::zAL::zAM::zAN::zAO::zAP::zAQ::zAR::zAS::zAT::zAU::zAV::zAW::zAX::zAY::zAZ::zAa::zAb::zAc::zAd::zAe::zAf::zAg::zAh::zAi::zAj::zAk::[]:List Value).toArray),[]⟩ V:=by
 obtain⟨i47,hi47,hz470,hz471,hz472⟩:=info_parts Tryz.info43;have HS:=Lq hS;have H1:=Lq hC1;have HP:=Lq hP;have HQ:=Lq hQ;clear hQ hP hC1;refine go0 (ops:=ops16_4) (r:=4) (n:=14) hS fun V0 HB0 hHeld=>?_
 clear hS;have L0:Hid (LiveB V V0 [none,none,none,none]):=Lq ⟨HB0.out,live_nil HB0.out.size⟩;refine tk 1 (.slice A n cap) ?_;refine tk 3 (pT g3 3) ?_;refine tk 4 (.agg #[.string name,iv kind,iv first,iv last,.slice Ao on.length ca,iv wlo,iv whi]) ?_;refine tk 7 (pT g3 3) ?_;refine tk 8 (.agg #[.string name,iv kind,iv first,iv last,.slice Ao on.length ca,iv wlo,iv whi]) ?_;refine tk 9 (.slice A n cap) ?_;refine tk 10 (.slice A n cap) ?_;refine rd2 0 5 (fun K' hK=>?_) fun K' hK=>?_
 ·skip;go_simp;have L1:=Lq (liveB_lit L0.out 0 #[] 43 7 0 (by simp[maxLen]) rfl)
  obtain⟨V1,hV1⟩:=ex (V0.alloc (.cells #[] 43));obtain⟨nV1,hnV1⟩:=ex V0.heap.size;rw[hV1,hnV1]at L1;rw[hV1,hnV1];refine hK.out _ _ (HS.out _ L1.out.1) (fun hHeld=>?_)
  clear hK hV1 hnV1;refine rd2 2 5 (fun K' hK=>?_) fun K' hK=>?_
  ·skip;refine step_append_live (by rfl) _ _ 22 (by rfl) L1.out 0 _ rfl i47 _ 80 Tryz.underlying22 hi47 hz470 hz471 hz472 rfl (Nat.succ_pos _) (by rfl) (.slice A n cap) n _ (by rfl) (srcs_keep L1.out H1.out) (by simp only[];unfold maxLen;omega) (by simp only[];omega) ?_
   intro v2 V2 hL2;have L2:=Lq hL2;refine hK.out _ _ (HS.out _ hL2.1) (fun hHeld=>?_)
   clear hK hL2;refine rd1 5 fun K' hK=>?_
   go_simp;have L3:=Lq (liveB_lit L2.out 1 #[.string name,iv kind,iv first,iv last,.slice Ao on.length ca,iv wlo,iv whi] 43 7 1 (by simp[maxLen]) rfl)
   obtain⟨V3,hV3⟩:=ex (V2.alloc (.cells #[.string name,iv kind,iv first,iv last,.slice Ao on.length ca,iv wlo,iv whi] 43));obtain⟨nV3,hnV3⟩:=ex V2.heap.size;rw[hV3,hnV3]at L3;rw[hV3,hnV3];refine hK.out _ _ (HS.out _ L3.out.1) (fun hHeld=>?_)
   clear hK hV3 hnV3;exact st16_4 hn H1.out HS.out HP.out HQ.out L3.out
  ·skip;go_simp;have L2:=Lq (liveB_lit L1.out 1 #[.string name,iv kind,iv first,iv last,.slice Ao on.length ca,iv wlo,iv whi] 43 7 1 (by simp[maxLen]) rfl)
   obtain⟨V2,hV2⟩:=ex (V1.alloc (.cells #[.string name,iv kind,iv first,iv last,.slice Ao on.length ca,iv wlo,iv whi] 43));obtain⟨nV2,hnV2⟩:=ex V1.heap.size;rw[hV2,hnV2]at L2;rw[hV2,hnV2];refine hK.out _ _ (HS.out _ L2.out.1) (fun hHeld=>?_)
   clear hK hV2 hnV2;refine rd1 2 fun K' hK=>?_
   refine step_append_live (by rfl) _ _ 22 (by rfl) L2.out 0 _ rfl i47 _ 80 Tryz.underlying22 hi47 hz470 hz471 hz472 rfl (Nat.succ_pos _) (by rfl) (.slice A n cap) n _ (by rfl) (srcs_keep L2.out H1.out) (by simp only[];unfold maxLen;omega) (by simp only[];omega) ?_
   intro v2 V3 hL3;have L3:=Lq hL3;refine hK.out _ _ (HS.out _ hL3.1) (fun hHeld=>?_)
   clear hK hL3;exact st16_4 hn H1.out HS.out HP.out HQ.out L3.out
 ·skip;go_simp;have L1:=Lq (liveB_lit L0.out 1 #[.string name,iv kind,iv first,iv last,.slice Ao on.length ca,iv wlo,iv whi] 43 7 1 (by simp[maxLen]) rfl)
  obtain⟨V1,hV1⟩:=ex (V0.alloc (.cells #[.string name,iv kind,iv first,iv last,.slice Ao on.length ca,iv wlo,iv whi] 43));obtain⟨nV1,hnV1⟩:=ex V0.heap.size;rw[hV1,hnV1]at L1;rw[hV1,hnV1];refine hK.out _ _ (HS.out _ L1.out.1) (fun hHeld=>?_)
  clear hK hV1 hnV1;refine rd1 0 fun K' hK=>?_
  go_simp;have L2:=Lq (liveB_lit L1.out 0 #[] 43 7 0 (by simp[maxLen]) rfl)
  obtain⟨V2,hV2⟩:=ex (V1.alloc (.cells #[] 43));obtain⟨nV2,hnV2⟩:=ex V1.heap.size;rw[hV2,hnV2]at L2;rw[hV2,hnV2];refine hK.out _ _ (HS.out _ L2.out.1) (fun hHeld=>?_)
  clear hK hV2 hnV2;refine rd1 2 fun K' hK=>?_
  refine step_append_live (by rfl) _ _ 22 (by rfl) L2.out 0 _ rfl i47 _ 80 Tryz.underlying22 hi47 hz470 hz471 hz472 rfl (Nat.succ_pos _) (by rfl) (.slice A n cap) n _ (by rfl) (srcs_keep L2.out H1.out) (by simp only[];unfold maxLen;omega) (by simp only[];omega) ?_
  intro v2 V3 hL3;have L3:=Lq hL3;refine hK.out _ _ (HS.out _ hL3.1) (fun hHeld=>?_)
  clear hK hL3;exact st16_4 hn H1.out HS.out HP.out HQ.out L3.out
end
section
variable{ms:List HuM}
def ChgPost(ms:List HuM)(c:HcM)(w:World)(e:Ending)(w':World):Prop:=∃(r:Int) (v:Value),e=.returned (.tuple #[v,iv r])∧BW w w'∧(r≠0→chgP (psOf ms) c.c=none)∧(r=0→∃out A cap,v=.slice A out.length cap∧chgP (psOf ms) c.c=some (psOf out)∧SlM w' w'.heap.size A cap out)
theorem chgNo{c:HcM}{w w':World}{r:Int}{v:Value}(h0:r≠0)(h:chgP (psOf ms) c.c=none)(hb:BW w w'):ChgPost ms c w (.returned (.tuple #[v,iv r])) w':=⟨r,v,rfl,hb,fun _=>h,fun h1=>absurd h1 h0⟩
theorem cBox(w:World)(c:HcM):∃W1,w.alloc (.cells #[iv c.what,iv c.day,.string c.name,.string c.part.p.name,iv c.part.p.kind,iv c.part.p.first,iv c.part.p.last,.slice c.part.A c.part.p.on.length c.part.cap,iv c.part.p.wlo,iv c.part.p.whi] 58)=W1∧BW w W1∧W1.heap.size=w.heap.size+1∧Blk W1 w.heap.size 58 #[iv c.what,iv c.day,.string c.name,.string c.part.p.name,iv c.part.p.kind,iv c.part.p.first,iv c.part.p.last,.slice c.part.A c.part.p.on.length c.part.cap,iv c.part.p.wlo,iv c.part.p.whi] :=
 ⟨_,rfl,bA (bR _) _,by simp,Blk.new w 58 _⟩
theorem chgP_add_no{l:List HuP}{c:HuC}(h1:c.what=1)(h:¬(l.length<12∧PartOk c.part l l)):chgP l c=none:=by unfold chgP;rw[if_pos h1,if_neg (fun h2=>h h2.2)]
theorem chgP_add_ok{l:List HuP}{c:HuC}(h1:c.what=1)(h:c.name.toList.isEmpty=true)(h2:l.length<12)(h3:PartOk c.part l l):chgP l c=some (l++[c.part]):=by unfold chgP;rw[if_pos h1,if_pos ⟨h,h2,h3⟩]
theorem chgP_take_no{l:List HuP}{c:HuC}(h1:c.what=2)(h:¬(hasP l c.name=true∧∀q∈l,standsB q c.name=false)):chgP l c=none:=by unfold chgP;rw[if_neg (by omega),if_pos h1,if_neg (fun h2=>h h2.2)]
theorem chgP_take_ok{l:List HuP}{c:HuC}(h1:c.what=2)(h:bareP c.part=true)(h2:hasP l c.name=true)(h3:∀q∈l,standsB q c.name=false):chgP l c=some (l.eraseIdx (idxP l c.name)):=by unfold chgP;rw[if_neg (by omega),if_pos h1,if_pos ⟨h,h2,h3⟩]
theorem chgP_swap_no{l:List HuP}{c:HuC}(h1:c.what=3)(h:¬(hasP l c.name=true∧PartOk c.part (l.take (idxP l c.name)) (l.eraseIdx (idxP l c.name))∧∀q∈l.drop (idxP l c.name+1),standsB q c.name=true→meetB q c.part=true)):chgP l c=none:=by unfold chgP;rw[if_neg (by omega),if_neg (by omega),if_pos h1,if_neg h]
theorem chgP_swap_ok{l:List HuP}{c:HuC}(h1:c.what=3)(h2:hasP l c.name=true)(h3:PartOk c.part (l.take (idxP l c.name)) (l.eraseIdx (idxP l c.name)))(h4:∀q∈l.drop (idxP l c.name+1),standsB q c.name=true→meetB q c.part=true):chgP l c=some (swapP l (idxP l c.name) c.name c.part):=by unfold chgP;rw[if_neg (by omega),if_neg (by omega),if_pos h1,if_pos ⟨h2,h3,h4⟩]
theorem erase_map(ms:List HuM)(i:Nat):psOf (ms.eraseIdx i)=(psOf ms).eraseIdx i:=by simp only[psOf,List.eraseIdx_eq_take_drop_succ,List.map_append,List.map_take,List.map_drop]
theorem take_map(ms:List HuM)(i:Nat):psOf (ms.take i)=(psOf ms).take i:=by simp only[psOf,List.map_take]
theorem ok_first(h:ShipOk (psOf ms)):∀b∈ms,b.p.first≤b.p.last:=by intro b hb;obtain⟨i,hi⟩:=List.mem_iff_getElem?.1 hb;exact(h.part i _ (ps_at hi)).fr.2.1
theorem chgAdd_any(A:Option Addr)(ms:List HuM)(c:HcM)(B cap:Nat)(w:World)(hB:B≤w.heap.size)(H:SlM w B A cap ms)(hM:MOk w B c.part)(hok:ShipOk (psOf ms))(hwh:c.what=1)(hbr:bareB c.c=true) :
  Cs 17 #[.slice A ms.length cap,cV c] w (ChgPost ms c w):=by
 have hnm:c.name.toList.isEmpty=true:=by have:=hbr;unfold bareB at this;simp only[HcM.c,hwh]at this;simpa using this
 have hn12:ms.length≤12:=by have:=hok.len;simpa using this
 obtain⟨W1,hW1,hb1,hz1,hq⟩:=cBox w c;have HH:=Lq (H.below hb1 hB);have HM:=Lq (hM.below hb1 hB);have HB1:=Lq hb1;have hBW1:B≤W1.heap.size:=by omega
 have HOK:=Lq hok;have hmax:=H.max;have hle:=H.le;have hl9:ms.length≤9223372036854775807:=by omega
 clear H hM hb1 hok;obtain⟨what,day,nm,⟨⟨name,kind,first,last,on,wlo,whi⟩,Ao,ca⟩⟩:=c;obtain rfl:what=1:=hwh;obtain⟨g3,hg3⟩:=ex w.heap.size;rw[hg3]at hq;have HX:Hid (∀W,BW W1 W→Blk W g3 58 #[iv 1,iv day,.string nm,.string name,iv kind,iv first,iv last,.slice Ao on.length ca,iv wlo,iv whi]):=Lq fun W hb=>hq.keep hb
 have HZ1:=Lq hz1;obtain⟨q0,q1,q2,q3,q4,q5,q6,q7,q8,q9⟩:=hq.c10;have hgw:=hq.lt;clear hq hz1;have HNM:=Lq hnm;clear hnm hbr;by_cases hlen:12≤ms.length
 ·go_enter Tryz.func17,Tryz.ntmps17
  go_wp2_with fail
  go_ret2
  exact chgNo (by decide) (chgP_add_no rfl (fun h=>by have:=h.1;simp at this;omega)) HB1.out
 ·have hlen2:¬(ms.length:Int)≥12:=by omega
  have HSS:Hid (∀W,BW W1 W→cA W g3 3 (.string name)∧cA W g3 4 (iv kind)∧cA W g3 5 (iv first)∧cA W g3 6 (iv last)∧cA W g3 7 (.slice Ao on.length ca)∧cA W g3 8 (iv wlo)∧cA W g3 9 (iv whi)):=Lq fun W hb=>have k:=HX.out W hb;⟨k.c 3,k.c 4,k.c 5,k.c 6,k.c 7,k.c 8,k.c 9⟩
  have HL:=Lq ((HH.out.row hBW1).low encM_len encM_one (p:=ms.length) (lr _));have HP:Hid (∀W,BW W1 W→Cs 14 #[.agg #[.string name,iv kind,iv first,iv last,.slice Ao on.length ca,iv wlo,iv whi],.slice A ms.length cap,.slice A ms.length cap] W (ErrIff (PartOk ⟨name,kind,first,last,on,wlo,whi⟩ (psOf ms) (psOf ms)) W)):=Lq fun W hb=>part13_any ⟨⟨name,kind,first,last,on,wlo,whi⟩,Ao,ca⟩ ms ms A A B cap cap W (lT hBW1 hb.size) (HM.out.below hb hBW1) (HH.out.rd.below hb hBW1) (HH.out.rd.below hb hBW1) hle hmax (lT hle hmax) (ok_first HOK.out)
  go_enter Tryz.func17,Tryz.ntmps17
  go_wp2_with fail;go_upto_region 4 with fail
  refine reg16_4 (by omega) (by simpa using HL.out) HSS.out HP.out ?_
  intro u15 u16 u17 u18 u19 u20 u21 u22 u23 u24 u25 u26 v r W' hr hL;have HR:=Lq hr;have L:=Lq hL;clear hr hL q0 q1 q2 q3 q4 q5 q6 q7 q8 q9;go_wp2_with fail
  go_ret2
  refine⟨r,v,rfl,bT HB1.out L.out.1,fun h=>?_,fun h=>?_⟩
  ·exact chgP_add_no rfl (fun h2=>h (HR.out.2 h2.2))
  ·have ho:=live_own L.out.2 (i:=0) rfl;have ho2:W'.ownsRow W1.heap.size 43 7 v (ms.length+1) ((ms++[HuM.mk ⟨name,kind,first,last,on,wlo,whi⟩ Ao ca]).flatMap encM):=by simpa[List.flatMap_append,encM]using ho
   obtain⟨A2,cap2,rfl,hs⟩:=SlM.of_own (ms:=ms++[⟨⟨name,kind,first,last,on,wlo,whi⟩,Ao,ca⟩]) ho2 (by simp) (fun q hq=>by
    rcases List.mem_append.1 hq with hq | hq
    ·exact((HH.out.rd.ok q hq).below L.out.1 hBW1).more (lT hBW1 L.out.1.size)
    ·obtain rfl:=List.mem_singleton.1 hq;exact(HM.out.below L.out.1 hBW1).more (lT hBW1 L.out.1.size))
   refine⟨_,A2,cap2,rfl, ?_,hs⟩;rw[chgP_add_ok rfl HNM.out (by simp;omega) (HR.out.1 h),psOf_snoc];rfl
theorem chgTake_any(A:Option Addr)(ms:List HuM)(c:HcM)(B cap:Nat)(w:World)(hB:B≤w.heap.size)(H:SlM w B A cap ms)(hM:MOk w B c.part)(hcn:c.name.size≤maxLen)(hok:ShipOk (psOf ms))(hwh:c.what=2)(hbr:bareB c.c=true) :
  Cs 17 #[.slice A ms.length cap,cV c] w (ChgPost ms c w):=by
 have hbp:bareP c.part.p=true:=by have:=hbr;unfold bareB at this;simp only[HcM.c,hwh]at this;simpa using this
 have _u:=hcn;have hn12:ms.length≤12:=by have:=hok.len;simpa using this
 obtain⟨W1,hW1,hb1,hz1,hq⟩:=cBox w c;have HH:=Lq (H.below hb1 hB);have HM:=Lq (hM.below hb1 hB);have HB1:=Lq hb1;have hBW1:B≤W1.heap.size:=by omega
 have HOK:=Lq hok;have hmax:=H.max;have hle:=H.le;have hl9:ms.length≤9223372036854775807:=by omega
 clear H hM hb1 hok;obtain⟨what,day,nm,⟨⟨name,kind,first,last,on,wlo,whi⟩,Ao,ca⟩⟩:=c;obtain rfl:what=2:=hwh;obtain⟨g3,hg3⟩:=ex w.heap.size;rw[hg3]at hq;have HX:Hid (∀W,BW W1 W→Blk W g3 58 #[iv 2,iv day,.string nm,.string name,iv kind,iv first,iv last,.slice Ao on.length ca,iv wlo,iv whi]):=Lq fun W hb=>hq.keep hb
 have HZ1:=Lq hz1;obtain⟨q0,q1,q2,q3,q4,q5,q6,q7,q8,q9⟩:=hq.c10;have hgw:=hq.lt;clear hq hz1;have HBP:=Lq hbp;have hF:=fun W (hb:BW W1 W)=>find61_any A ms B cap nm W (lT hle hmax) (HH.out.rd.below hb hBW1)
 have hS:=fun W (hb:BW W1 W)=>stood64_any A ms B cap nm W (lT hle hmax) (HH.out.rd.below hb hBW1)
 clear hbp hbr;obtain⟨bh,hbh⟩:=ex (hasP (psOf ms) nm);have HBH:=Lq hbh;cases bh
 ·rw[posP_none hbh]at hF;have HF:Hid (∀W,BW W1 W→Cs 61 #[.slice A ms.length cap,.string nm] W fun e w'=>e=.returned (iv (-1))∧W=w'):=Lq hF
  clear hF hS hbh;go_enter Tryz.func17,Tryz.ntmps17
  go_wp2_with (go_at_call 61;((with_reducible refine(HF.out _ (bR _)).mono ?_);rintro e w' ⟨rfl,rfl⟩))
  go_ret2
  exact chgNo (by decide) (chgP_take_no rfl (fun h=>by have:=h.1;simp only[HcM.c]at this;rw[HBH.out]at this;cases this)) HB1.out
 ·obtain⟨hp1,hil,yp,hy,_⟩:=posP_at hbh;obtain⟨i,hi⟩:=ex (idxP (psOf ms) nm);rw[hi]at hp1 hil;rw[hp1]at hF;have hil2:i<ms.length:=by simpa using hil
  have hi0:(0:Int)≤(i:Int):=by omega
  have HI:=Lq hi;have HF:Hid (∀W,BW W1 W→Cs 61 #[.slice A ms.length cap,.string nm] W fun e w'=>e=.returned (iv i)∧W=w'):=Lq hF
  obtain⟨bs,hbs⟩:=ex (stoodB (psOf ms) nm);rw[hbs]at hS;have HS:Hid (∀W,BW W1 W→Cs 63 #[.slice A ms.length cap,.string nm] W fun e w'=>e=.returned (.bool bs)∧W=w'):=Lq hS
  have HBS:=Lq hbs;have HW:Hid (Cs 64 #[.slice A ms.length cap,iv i] W1 (OwnMs (ms.eraseIdx i) W1)):=Lq (without65_any A ms B cap i W1 hBW1 HH.out hn12 hil2);clear hF hS hbh hbs hp1 hy hi hil;cases bs
  ·go_enter Tryz.func17,Tryz.ntmps17
   go_wp2_with (first | (go_at_call 61;((with_reducible refine(HF.out _ (bR _)).mono ?_);rintro e w' ⟨rfl,rfl⟩)) | (go_at_call 63;((with_reducible refine(HS.out _ (bR _)).mono ?_);rintro e w' ⟨rfl,rfl⟩)))
   refine HW.out.mono ?_;rintro e w5 ⟨v5,rfl,ho5,hb5⟩;have HO5:=Lq ho5;have HB5:=Lq hb5;clear ho5 hb5 q0 q1 q2 q3 q4 q5 q6 q7 q8 q9;go_wp2_with fail
   go_ret2
   refine⟨0,v5,rfl,bT HB1.out HB5.out,fun h=>absurd rfl h,fun _=>?_⟩
   obtain⟨A2,cap2,rfl,hs⟩:=SlM.of_own HO5.out rfl (fun q hq=>((HH.out.rd.ok q (List.mem_of_mem_eraseIdx hq)).below HB5.out hBW1).more (lT hBW1 HB5.out.size))
   refine⟨_,A2,cap2,rfl, ?_,hs⟩;rw[chgP_take_ok rfl HBP.out HBH.out (stoodB_no.1 HBS.out),erase_map,←HI.out];rfl
  ·go_enter Tryz.func17,Tryz.ntmps17
   go_wp2_with (first | (go_at_call 61;((with_reducible refine(HF.out _ (bR _)).mono ?_);rintro e w' ⟨rfl,rfl⟩)) | (go_at_call 63;((with_reducible refine(HS.out _ (bR _)).mono ?_);rintro e w' ⟨rfl,rfl⟩)))
   go_ret2
   exact chgNo (by decide) (chgP_take_no rfl (fun h=>by have:=stoodB_no.2 h.2;simp only[HcM.c]at this;rw[HBS.out]at this;cases this)) HB1.out
end
theorem swap_same{l:List HuP}{k:Nat}{s t:ByteArray}{x:HuP}(h:s.toList=t.toList):swapP l k s x=swapP l k t x:=by rw[toList_inj h]
theorem chgSwap_any(A:Option Addr)(ms:List HuM)(c:HcM)(B cap:Nat)(w:World)(hB:B≤w.heap.size)(H:SlM w B A cap ms)(hM:MOk w B c.part)(hcn:c.name.size≤maxLen)(hok:ShipOk (psOf ms))(hwh:c.what=3) :
  Cs 17 #[.slice A ms.length cap,cV c] w (ChgPost ms c w):=by
 have _u:=hcn;have hn12:ms.length≤12:=by have:=hok.len;simpa using this
 obtain⟨W1,hW1,hb1,hz1,hq⟩:=cBox w c;have HH:=Lq (H.below hb1 hB);have HM:=Lq (hM.below hb1 hB);have HB1:=Lq hb1;have hBW1:B≤W1.heap.size:=by omega
 have HOK:=Lq hok;have hmax:=H.max;have hle:=H.le;have hl9:ms.length≤9223372036854775807:=by omega
 clear H hM hb1 hok;obtain⟨what,day,nm,⟨⟨name,kind,first,last,on,wlo,whi⟩,Ao,ca⟩⟩:=c;obtain rfl:what=3:=hwh;obtain⟨g3,hg3⟩:=ex w.heap.size;rw[hg3]at hq;have HX:Hid (∀W,BW W1 W→Blk W g3 58 #[iv 3,iv day,.string nm,.string name,iv kind,iv first,iv last,.slice Ao on.length ca,iv wlo,iv whi]):=Lq fun W hb=>hq.keep hb
 have HZ1:=Lq hz1;obtain⟨q0,q1,q2,q3,q4,q5,q6,q7,q8,q9⟩:=hq.c10;have hgw:=hq.lt;clear hq hz1;have HSS:Hid (∀W,BW W1 W→cA W g3 3 (.string name)∧cA W g3 4 (iv kind)∧cA W g3 5 (iv first)∧cA W g3 6 (iv last)∧cA W g3 7 (.slice Ao on.length ca)∧cA W g3 8 (iv wlo)∧cA W g3 9 (iv whi)):=Lq fun W hb=>have k:=HX.out W hb;⟨k.c 3,k.c 4,k.c 5,k.c 6,k.c 7,k.c 8,k.c 9⟩
 have hF:=fun W (hb:BW W1 W)=>find61_any A ms B cap nm W (lT hle hmax) (HH.out.rd.below hb hBW1)
 obtain⟨bh,hbh⟩:=ex (hasP (psOf ms) nm);have HBH:=Lq hbh;cases bh
 ·rw[posP_none hbh]at hF;have HF:Hid (∀W,BW W1 W→Cs 61 #[.slice A ms.length cap,.string nm] W fun e w'=>e=.returned (iv (-1))∧W=w'):=Lq hF
  clear hF hbh;go_enter Tryz.func17,Tryz.ntmps17
  go_wp2_with (go_at_call 61;((with_reducible refine(HF.out _ (bR _)).mono ?_);rintro e w' ⟨rfl,rfl⟩))
  go_ret2
  exact chgNo (by decide) (chgP_swap_no rfl (fun h=>by have:=h.1;simp only[HcM.c]at this;rw[HBH.out]at this;cases this)) HB1.out
 ·obtain⟨hp1,hil,yp,hy,hyn⟩:=posP_at hbh;obtain⟨p,hp⟩:=ex (idxP (psOf ms) nm);rw[hp]at hp1 hil hy;rw[hp1]at hF;have hp2:p<ms.length:=by simpa using hil
  have hp0:(0:Int)≤(p:Int):=by omega
  have hpc:(p:Int)≤(cap:Int):=by omega
  obtain⟨old,hold⟩:=gX (l:=ms) (i:=p) hp2;have hon:old.p.name.toList=nm.toList:=by rw[ps_at hold]at hy;injection hy with hy;rw[hy];exact hyn
  have HNMO:Hid (swapP (psOf ms) p old.p.name (HuP.mk name kind first last on wlo whi)=swapP (psOf ms) p nm (HuP.mk name kind first last on wlo whi)):=Lq (swap_same hon);have HI:=Lq hp;have HF:Hid (∀W,BW W1 W→Cs 61 #[.slice A ms.length cap,.string nm] W fun e w'=>e=.returned (iv p)∧W=w'):=Lq hF
  have HW:Hid (∀W,BW W1 W→Cs 64 #[.slice A ms.length cap,iv p] W (OwnMs (ms.eraseIdx p) W)):=Lq fun W hb=>without65_any A ms B cap p W (lT hBW1 hb.size) (HH.out.below hb hBW1) hn12 hp2
  have HMK:Hid (∀W,BW W1 W→∀q∈ms.eraseIdx p,MOk W W.heap.size q):=Lq fun W hb q hq=>((HH.out.rd.ok q (List.mem_of_mem_eraseIdx hq)).below hb hBW1).more (lT hBW1 hb.size)
  have HPT:Hid (∀W A5 c5,BW W1 W→SlM W W.heap.size A5 c5 (ms.eraseIdx p)→Cs 14 #[.agg #[.string name,iv kind,iv first,iv last,.slice Ao on.length ca,iv wlo,iv whi],.slice A p cap,.slice A5 (ms.eraseIdx p).length c5] W (ErrIff (PartOk (HuP.mk name kind first last on wlo whi) ((psOf ms).take p) ((psOf ms).eraseIdx p)) W)):=Lq fun W A5 c5 hb hs=>by
   have hlt:(ms.take p).length=p:=by rw[List.length_take];omega
   have h13:=part13_any ⟨⟨name,kind,first,last,on,wlo,whi⟩,Ao,ca⟩ (ms.take p) (ms.eraseIdx p) A A5 W.heap.size cap c5 W (lr _) ((HM.out.below hb hBW1).more (lT hBW1 hb.size)) (((HH.out.rd.below hb hBW1).more (lT hBW1 hb.size)).take p) hs.rd (by omega) hmax (lT hs.le hs.max) (fun q hq=>ok_first HOK.out q (List.mem_of_mem_take hq))
   rw[hlt,take_map,erase_map]at h13;exact h13
  have HSW:Hid (∀W,BW W1 W→Cs 65 #[.slice A ms.length cap,iv p,.agg #[.string name,iv kind,iv first,iv last,.slice Ao on.length ca,iv wlo,iv whi]] W fun e w'=>∃out:List HuM,psOf out=swapP (psOf ms) p old.p.name (HuP.mk name kind first last on wlo whi)∧(∀q∈out,OwnOn w' q)∧OwnMs out W e w'):=Lq fun W hb=>swapped66_any A ms ⟨⟨name,kind,first,last,on,wlo,whi⟩,Ao,ca⟩ B cap p old W (lT hBW1 hb.size) (HH.out.below hb hBW1) (HM.out.below hb hBW1) hn12 hold
  have hel:(ms.eraseIdx p).length≤9223372036854775807:=lT (List.length_eraseIdx_le _ _) hl9;clear hF hbh hp1 hy hyn hp hil hold hon;go_enter Tryz.func17,Tryz.ntmps17
  go_wp2_with (go_at_call 61;((with_reducible refine(HF.out _ (bR _)).mono ?_);rintro e w' ⟨rfl,rfl⟩))
  go_region_held3 (fun W=>cA W g3 3 (.string name)∧cA W g3 4 (iv kind)∧cA W g3 5 (iv first)∧cA W g3 6 (iv last)∧cA W g3 7 (.slice Ao on.length ca)∧cA W g3 8 (iv wlo)∧cA W g3 9 (iv whi)) (first | exact HSS.out _ (bT (u0 hb5) hb6) | exact HSS.out _ (u0 hb5) | exact HSS.out _ (belowDr (bR _))) (first | (go_at_call 64;((with_reducible refine(HW.out _ (belowDr (bR _))).mono ?_);rintro e w5 ⟨v5,rfl,ho5,hb5⟩;obtain⟨A5,c5,rfl,hs5⟩:=SlM.of_own ho5 rfl (HMK.out _ (u0 hb5)))) | (go_at_call 14;((with_reducible refine(HPT.out _ _ _ (u0 hb5) hs5).mono ?_);rintro e w6 ⟨r,rfl,hr,hb6⟩)))
  have HB6:=Lq (bT (u0 hb5) hb6);have HR:=Lq hr;clear hb5 hb6 hr hs5 ho5 q0 q1 q2 q3 q4 q5 q6 q7 q8 q9 HW HPT HMK HF;go_wp2_with fail;go_loopw [7,8] (fun e j wr=>∃(k:Nat) (r:Int),p+1≤k∧k≤ms.length∧e=iv r∧j=iv k∧Hid (r=0↔PartOk (HuP.mk name kind first last on wlo whi) ((psOf ms).take p) ((psOf ms).eraseIdx p)∧∀d q,d<k→p<d→(psOf ms)[d]?=some q→standsB q nm=true→meetB q (HuP.mk name kind first last on wlo whi)=true)∧Hid (BW W1 wr)) (fun _ j _=>ms.length-(intOf j).toNat)
  case atStart=>exact⟨p+1,r,by omega,by omega,rfl,by go_num,Lq ⟨fun h=>⟨HR.out.1 h,fun d q h1 h2=>by omega⟩,fun h=>HR.out.2 h.1⟩,HB6⟩
  case round =>
   obtain⟨k,r,hpk,hk,rfl,rfl,HREL,HBR⟩:=hrel;have hk0:(0:Int)≤(k:Int):=by omega
   have hbx:=HX.out _ HBR.out;have q2:=hbx.c 2;obtain⟨q3,q4,q5,q6,q7,q8,q9⟩:_∧_∧_∧_∧_∧_∧_:=⟨hbx.c 3,hbx.c 4,hbx.c 5,hbx.c 6,hbx.c 7,hbx.c 8,hbx.c 9⟩;have hgw:=hbx.lt;clear hbx;by_cases hlt:k<ms.length
   ·by_cases hr0:r=0
    ·subst hr0;obtain⟨y,hy⟩:=gX (l:=ms) (i:=k) hlt;obtain⟨b,off,hA,hbB,hMy,c0,c1,c2,c3,c4,c5,c6⟩:=(HH.out.rd.below HBR.out hBW1).at hy;have hyf:=ok_first HOK.out y (mG ⟨k,hy⟩);have HREL0:=Lq (HREL.out.1 rfl);have hpo:=HREL0.out.1;have HYI:=Lq hy;have hPl:=fun W (hb:BW wr W)=>place62v_any y.A y.p.on B y.cap nm W (lT hMy.le hMy.cm) (hMy.on.below hb (lT hBW1 HBR.out.size))
     have hMt:=fun W=>meet63_any y ⟨⟨name,kind,first,last,on,wlo,whi⟩,Ao,ca⟩ W
     have hme:=meetM_eq (a:=y.p) (b:=(HuP.mk name kind first last on wlo whi)) hyf hpo.fr.2.1;obtain⟨⟨yn,yk,yf,yl,yon,yw,yz⟩,yA,yc⟩:=y;subst hA;simp only at c0 c1 c2 c3 c4 c5 c6 hPl hMt hme;obtain⟨rp,hrp⟩:=ex (placeI yon nm);rw[hrp]at hPl;have hneg:=placeI_neg (l:=yon) (s:=nm);rw[hrp]at hneg;obtain⟨bst,hbst⟩:=ex (oneOf yon nm);rw[hbst]at hneg;obtain⟨bm,hbm⟩:=ex (meetM (HuP.mk yn yk yf yl yon yw yz) (HuP.mk name kind first last on wlo whi));rw[hbm]at hMt hme;have HPL:=Lq hPl;have HMT:=Lq hMt;have HME:=Lq hme;have HBST:Hid (standsB (HuP.mk yn yk yf yl yon yw yz) nm=bst):=Lq hbst;have HSQ:Hid (∀W,BW wr W→cA W g3 2 (.string nm)∧cA W g3 3 (.string name)∧cA W g3 4 (iv kind)∧cA W g3 5 (iv first)∧cA W g3 6 (iv last)∧cA W g3 7 (.slice Ao on.length ca)∧cA W g3 8 (iv wlo)∧cA W g3 9 (iv whi)∧cA W b (off+k*7) (.string yn)∧cA W b (off+k*7+1) (iv yk)∧cA W b (off+k*7+2) (iv yf)∧cA W b (off+k*7+3) (iv yl)∧cA W b (off+k*7+4) (.slice yA yon.length yc)∧cA W b (off+k*7+5) (iv yw)∧cA W b (off+k*7+6) (iv yz)):=Lq fun W hb=>⟨kC hb q2,kC hb q3,kC hb q4,kC hb q5,kC hb q6,kC hb q7,kC hb q8,kC hb q9,kC hb c0,kC hb c1,kC hb c2,kC hb c3,kC hb c4,kC hb c5,kC hb c6⟩
     clear hPl hMt hme hrp hbst hbm hyf hpo hy hMy;cases bst
     ·have hr3:rp<0:=hneg.2 rfl;have hr5:decide (0≤rp)=false:=by simpa using hr3
      clear hneg;go_wp2_with fail;go_quiet ((go_at_call 8;exact Calls.quiet_of_same (HPL.out _ (belowN (bR _) _))))
      clear q2 q3 q4 q5 q6 q7 q8 q9 c0 c1 c2 c3 c4 c5 c6 hgw;go_wp2_with fail;go_roundw
      case rel =>
       refine⟨k+1,0,by omega,by omega,rfl,by go_num,Lq ⟨fun h=>⟨HREL0.out.1,fun d q hd hpd hq hs=>?_⟩,fun _=>rfl⟩,Lq (belowN HBR.out _)⟩
       rcases Nat.lt_or_ge d k with hdk | hdk
       ·exact HREL0.out.2 d q hdk hpd hq hs
       ·obtain rfl:d=k:=by omega
        rw[ps_at HYI.out]at hq;injection hq with hq
        subst hq;rw[HBST.out]at hs;cases hs
      case measure=>simp[intOf];omega
     ·have hr3:rp≥0:=by
       rcases Int.lt_or_le rp 0 with h | h
       ·have:=hneg.1 h;cases this
       ·exact h
      have hr4:¬rp<0:=by omega
      have hr5:decide (0≤rp)=true:=by simpa using hr3
      clear hneg;cases bm
      ·go_wp2_with fail;go_region_held3 (fun W=>cA W g3 2 (.string nm)∧cA W g3 3 (.string name)∧cA W g3 4 (iv kind)∧cA W g3 5 (iv first)∧cA W g3 6 (iv last)∧cA W g3 7 (.slice Ao on.length ca)∧cA W g3 8 (iv wlo)∧cA W g3 9 (iv whi)∧cA W b (off+k*7) (.string yn)∧cA W b (off+k*7+1) (iv yk)∧cA W b (off+k*7+2) (iv yf)∧cA W b (off+k*7+3) (iv yl)∧cA W b (off+k*7+4) (.slice yA yon.length yc)∧cA W b (off+k*7+5) (iv yw)∧cA W b (off+k*7+6) (iv yz)) (first | exact HSQ.out _ (u0 hb7) | exact HSQ.out _ (belowDr (bR _))) (first | (go_at_call 8;((with_reducible refine(HPL.out _ (belowDr (bR _))).mono ?_);rintro e w' ⟨rfl,rfl⟩)) | (go_at_call 62;((with_reducible refine(HMT.out _).mono ?_);rintro e w7 ⟨rfl,hb7⟩)))
       have HB7:=Lq (bT HBR.out (u0 hb7));clear hb7 q2 q3 q4 q5 q6 q7 q8 q9 c0 c1 c2 c3 c4 c5 c6 hgw;go_wp2_with fail;go_roundw
       case rel =>
        refine⟨k+1,9,by omega,by omega,rfl,by go_num,Lq ⟨(fun h=>by cases h),fun h=>?_⟩,HB7⟩
        have:=h.2 k _ (by omega) (by omega) (ps_at HYI.out) HBST.out
        rw[←HME.out]at this;cases this
       case measure=>simp[intOf];omega
      ·go_wp2_with fail;go_region_held3 (fun W=>cA W g3 2 (.string nm)∧cA W g3 3 (.string name)∧cA W g3 4 (iv kind)∧cA W g3 5 (iv first)∧cA W g3 6 (iv last)∧cA W g3 7 (.slice Ao on.length ca)∧cA W g3 8 (iv wlo)∧cA W g3 9 (iv whi)∧cA W b (off+k*7) (.string yn)∧cA W b (off+k*7+1) (iv yk)∧cA W b (off+k*7+2) (iv yf)∧cA W b (off+k*7+3) (iv yl)∧cA W b (off+k*7+4) (.slice yA yon.length yc)∧cA W b (off+k*7+5) (iv yw)∧cA W b (off+k*7+6) (iv yz)) (first | exact HSQ.out _ (u0 hb7) | exact HSQ.out _ (belowDr (bR _))) (first | (go_at_call 8;((with_reducible refine(HPL.out _ (belowDr (bR _))).mono ?_);rintro e w' ⟨rfl,rfl⟩)) | (go_at_call 62;((with_reducible refine(HMT.out _).mono ?_);rintro e w7 ⟨rfl,hb7⟩)))
       have HB7:=Lq (bT HBR.out (u0 hb7));clear hb7 q2 q3 q4 q5 q6 q7 q8 q9 c0 c1 c2 c3 c4 c5 c6 hgw;go_wp2_with fail;go_roundw
       case rel =>
        refine⟨k+1,0,by omega,by omega,rfl,by go_num,Lq ⟨fun h=>⟨HREL0.out.1,fun d q hd hpd hq hs=>?_⟩,fun _=>rfl⟩,HB7⟩
        rcases Nat.lt_or_ge d k with hdk | hdk
        ·exact HREL0.out.2 d q hdk hpd hq hs
        ·obtain rfl:d=k:=by omega
         rw[ps_at HYI.out]at hq;injection hq with hq
         subst hq;exact HME.out.symm
       case measure=>simp[intOf];omega
    ·have hr1:(r==0)=false:=by simpa using hr0
     go_wp2_with fail;refine(HSW.out _ HBR.out).mono ?_;rintro e w7 ⟨out,ho,hq,v7,rfl,hown,hb7⟩;have HOUT:=Lq ho;have HQ7:=Lq hq;have HOW:=Lq hown;have HB7:=Lq hb7;clear ho hq hown hb7;go_wp2_with fail
     go_ret2
     refine⟨r,v7,rfl,bT HB1.out (bT HBR.out HB7.out),fun h=>?_,fun h=>?_⟩
     ·refine chgP_swap_no rfl (fun h2=>h (HREL.out.2 ?_))
      obtain⟨_,h3,h4⟩:=h2;simp only[HcM.c,HI.out]at h3 h4;exact⟨h3,fun d q _ hd hq hs=>h4 q (mG ⟨d-(p+1),by rw[List.getElem?_drop,show p+1+(d-(p+1))=d by omega];exact hq⟩) hs⟩
     ·exact absurd h hr0
   ·obtain rfl:k=ms.length:=by omega
    go_wp2_with fail;refine(HSW.out _ HBR.out).mono ?_;rintro e w7 ⟨out,ho,hq,v7,rfl,hown,hb7⟩;have HOUT:=Lq ho;have HQ7:=Lq hq;have HOW:=Lq hown;have HB7:=Lq hb7;clear ho hq hown hb7;go_wp2_with fail
    go_ret2
    refine⟨r,v7,rfl,bT HB1.out (bT HBR.out HB7.out),fun h=>?_,fun h=>?_⟩
    ·refine chgP_swap_no rfl (fun h2=>h (HREL.out.2 ?_))
     obtain⟨_,h3,h4⟩:=h2;simp only[HcM.c,HI.out]at h3 h4;exact⟨h3,fun d q _ hd hq hs=>h4 q (mG ⟨d-(p+1),by rw[List.getElem?_drop,show p+1+(d-(p+1))=d by omega];exact hq⟩) hs⟩
    ·obtain⟨h3,h4⟩:=HREL.out.1 h;obtain⟨A2,cap2,rfl,hs⟩:=SlM.of_own HOW.out rfl (fun q hq=>(HQ7.out q hq).ok)
     refine⟨out,A2,cap2,rfl, ?_,hs⟩;rw[HOUT.out];have hh:=chgP_swap_ok (l:=psOf ms) (c:=HcM.c ⟨3,day,nm,⟨⟨name,kind,first,last,on,wlo,whi⟩,Ao,ca⟩⟩) rfl HBH.out (by simp only[HcM.c,HI.out];exact h3) (by simp only[HcM.c,HI.out];intro q hq hs;obtain⟨d,hd⟩:=List.mem_iff_getElem?.1 hq;rw[List.getElem?_drop]at hd;exact h4 (p+1+d) q (by have:=(lG hd);simp at this;omega) (by omega) hd hs)
     rw[hh];simp only[HcM.c,HI.out];rw[HNMO.out]
section
variable{last:Int}{cs:List HcM}{l ms:List HuM}{i k:Nat}
theorem changed16_any(A:Option Addr)(ms:List HuM)(c:HcM)(B cap:Nat)(w:World)(hB:B≤w.heap.size)(H:SlM w B A cap ms)(hM:MOk w B c.part)(hcn:c.name.size≤maxLen)(hok:ShipOk (psOf ms))(hbr:bareB c.c=true) :
  Cs 17 #[.slice A ms.length cap,cV c] w (ChgPost ms c w):=by
 have h:=hbr;unfold bareB at h;simp only[HcM.c,Bool.or_eq_true,Bool.and_eq_true,beq_iff_eq]at h;rcases h with(h | h) | h
 ·exact chgAdd_any A ms c B cap w hB H hM hok h.1 hbr
 ·exact chgTake_any A ms c B cap w hB H hM hcn hok h.1 hbr
 ·exact chgSwap_any A ms c B cap w hB H hM hcn hok h
structure SlC(w:World)(B:Nat)(A:Option Addr)(cap:Nat)(cs:List HcM):Prop where
 rd:RdN 10 encC w B A cs
 ok:∀c∈cs,MOk w B c.part∧c.name.size≤maxLen
 le:cs.length≤cap
 max:cap≤maxLen
section
variable {w w':World} {B B':Nat} {A:Option Addr} {cap:Nat} {cs:List HcM} {c:HcM}
theorem SlC.below(h:SlC w B A cap cs)(hb:Below B' w w')(hB:B≤B'):SlC w' B A cap cs:=⟨h.rd.below hb hB,fun c hc=>⟨(h.ok c hc).1.below hb hB,(h.ok c hc).2⟩,h.le,h.max⟩
theorem SlC.more(h:SlC w B A cap cs)(hB:B≤B'):SlC w B' A cap cs:=⟨h.rd.more hB,fun c hc=>⟨(h.ok c hc).1.more hB,(h.ok c hc).2⟩,h.le,h.max⟩
theorem SlC.at(h:SlC w B A cap cs)(hx:cs[i]?=some c) :
  ∃b off,A=some ⟨b,off,none⟩∧b<B∧MOk w B c.part∧c.name.size≤maxLen∧cA w b (off+i*10) (iv c.what)∧cA w b (off+i*10+1) (iv c.day)∧cA w b (off+i*10+2) (.string c.name)∧cA w b (off+i*10+3) (.string c.part.p.name)∧cA w b (off+i*10+4) (iv c.part.p.kind)∧cA w b (off+i*10+5) (iv c.part.p.first)∧cA w b (off+i*10+6) (iv c.part.p.last)∧cA w b (off+i*10+7) (.slice c.part.A c.part.p.on.length c.part.cap)∧cA w b (off+i*10+8) (iv c.part.p.wlo)∧cA w b (off+i*10+9) (iv c.part.p.whi):=by
 obtain⟨b,off,e,hb,hc⟩:=h.rd i c hx;have hm:=h.ok c (mG ⟨i,hx⟩);exact⟨b,off,e,hb,hm.1,hm.2,hc 0 _ rfl,hc 1 _ rfl,hc 2 _ rfl,hc 3 _ rfl,hc 4 _ rfl,hc 5 _ rfl,hc 6 _ rfl,hc 7 _ rfl,hc 8 _ rfl,hc 9 _ rfl⟩
end
abbrev csOf(cs:List HcM):List HuC:=cs.map HcM.c
theorem cs_at{c:HcM}(h:cs[i]?=some c):(csOf cs)[i]?=some c.c:=by rw[List.getElem?_map,h];rfl
def RunTo(ms:List HuM)(cs:List HcM)(k:Nat)(l:List HuM)(last:Int):Prop:=ShipOk (psOf l)∧∃now,runC 0 (psOf ms) ((csOf cs).take k)=some (psOf l,last,now)
theorem RunTo.start(h:ShipOk (psOf ms)):RunTo ms cs 0 ms 0:=⟨h,psOf ms,rfl⟩
theorem bare_of_chg{l:List HuP}{c:HuC}{x:List HuP}(h:chgP l c=some x):bareB c=true:=by
 unfold chgP at h;unfold bareB;split at h
 ·split at h
  ·rename_i h1 h2;simp[h1,h2.1]
  ·cases h
 ·split at h
  ·split at h
   ·rename_i _ h1 h2;simp[h1,h2.1]
   ·cases h
  ·split at h
   ·rename_i h3;simp[h3]
   ·cases h
theorem RunTo.next{l':List HuM}{c:HcM}(h:RunTo ms cs k l last)(hc:cs[k]?=some c)(hd:inB last 40000 c.day=true)(hg:chgP (psOf l) c.c=some (psOf l')):RunTo ms cs (k+1) l' c.day:=by
 obtain⟨h1,now,h2⟩:=h;refine⟨chg_ok h1 hg,if c.day≤0 then psOf l' else now, ?_⟩
 rw[runC_snoc (cs_at hc),h2];unfold stepC;simp only;rw[if_pos (show inB last 40000 c.c.day=true from hd),hg]
 rfl
theorem RunTo.stop{c:HcM}(h:RunTo ms cs k l last)(hc:cs[k]?=some c)(hn:inB last 40000 c.day=false∨chgP (psOf l) c.c=none):¬PlanOk (psOf ms) (csOf cs):=by
 intro hp;obtain⟨h1,now,h2⟩:=h;have h3:runC 0 (psOf ms) ((csOf cs).take (k+1))=none:=by
  rw[runC_snoc (cs_at hc),h2];unfold stepC;simp only;rcases hn with hn | hn
  ·rw[if_neg (show ¬inB last 40000 c.c.day=true by show ¬inB last 40000 c.day=true;rw[hn];simp)]
  ·rw[hn];split<;>rfl
 have:=hp.run;rw[runC_stuck h3]at this;cases this
theorem RunTo.done(h:RunTo ms cs cs.length l last)(hs:ShipOk (psOf ms))(hl:cs.length≤8):PlanOk (psOf ms) (csOf cs):=by
 obtain⟨_,now,h2⟩:=h;rw[List.take_of_length_le (by simp)]at h2
 exact⟨hs,by simpa using hl,by rw[h2];rfl⟩
end
section
variable{i p:Int}{w w':World}
def Chk3(P:Prop)(w:World)(e:Ending)(w':World):Prop:=∃p i r:Int,e=.returned (.tuple #[iv p,iv i,iv r])∧(r=0↔P)∧BW w w'
theorem chk3No{P:Prop}{r:Int}(h0:r≠0)(hP:¬P)(hb:BW w w'):Chk3 P w (.returned (.tuple #[iv p,iv i,iv r])) w':=⟨p,i,r,rfl,⟨fun h=>absurd h h0,fun h=>absurd h hP⟩,hb⟩
theorem chk3Ok{P:Prop}(hP:P)(hb:BW w w'):Chk3 P w (.returned (.tuple #[iv p,iv i,iv 0])) w':=⟨p,i,0,rfl,⟨fun _=>hP,fun _=>rfl⟩,hb⟩
theorem check4_any(A C:Option Addr)(ms:List HuM)(cs:List HcM)(B cap capc:Nat)(w:World)(hB:B≤w.heap.size)(H:SlM w B A cap ms)(HC:SlC w B C capc cs) :
  Cs 4 #[.agg #[.slice A ms.length cap,.slice C cs.length capc]] w (Chk3 (PlanOk (psOf ms) (csOf cs)) w):=by
 obtain⟨W1,hW1⟩:=ex (w.alloc (.cells #[.slice A ms.length cap,.slice C cs.length capc] 27));have hb1:BW w W1:=by rw[←hW1];exact bA (bR _) _
 have hq:Blk W1 w.heap.size 27 #[.slice A ms.length cap,.slice C cs.length capc]:=by rw[←hW1];exact Blk.new w 27 _
 have hBW1:B≤W1.heap.size:=lT hB hb1.size;have HH:=Lq (H.below hb1 hB);have HCC:=Lq (HC.below hb1 hB);have HB1:=Lq hb1;have hle:=H.le;have hmax:=H.max;have hm9:ms.length≤9223372036854775807:=by have:=H.le;have:=H.max;simp only[maxLen]at this;omega
 have hc9:cs.length≤9223372036854775807:=by have:=HC.le;have:=HC.max;simp only[maxLen]at this;omega
 have hca9:cap≤9223372036854775807:=by have:=H.max;simp only[maxLen]at this;omega
 obtain⟨g,hg⟩:=ex w.heap.size;rw[hg]at hq;have HX:Hid (∀W,BW W1 W→cA W g 0 (.slice A ms.length cap)∧cA W g 1 (.slice C cs.length capc)∧g<W.heap.size):=Lq fun W hb=>have k:=hq.keep hb;⟨k.c 0,k.c 1,k.lt⟩
 obtain⟨x0,x1,hgw⟩:=HX.out _ (bR W1);clear H HC hb1 hq;go_enter Tryz.func4,Tryz.ntmps4
 by_cases h12:12<ms.length
 ·go_wp2_with fail
  go_ret3
  exact chk3No (by decide) (fun h=>by have:=h.ship.len;simp at this;omega) HB1.out
 ·go_wp2_with fail;clear hW1;go_loopw [6] (fun i wr=>∃k:Nat,k≤ms.length∧i=iv k∧Hid (∀j m,j<k→ms[j]?=some m→PartOk m.p ((psOf ms).take j) ((psOf ms).take j))∧Hid (BW W1 wr)) (fun i _=>ms.length-(intOf i).toNat)
  case atStart=>exact⟨0,by omega,rfl,Lq (fun j m h=>by omega),Lq (bR _)⟩
  case round =>
   clear x0 x1 hgw;obtain⟨k,hk,rfl,HP,HBR⟩:=hrel;obtain⟨x0,x1,hgw⟩:=HX.out _ HBR.out;have hk0:(0:Int)≤(k:Int):=by omega
   by_cases hlt:k<ms.length
   ·obtain⟨y,hy⟩:=gX (l:=ms) (i:=k) hlt;obtain⟨b,off,hA,hbB,hMy,c0,c1,c2,c3,c4,c5,c6⟩:=(HH.out.rd.below HBR.out hBW1).at hy;have HYI:=Lq hy;have hkc:(k:Int)≤(cap:Int):=by omega
    have hpt:∀W,BW wr W→Cs 14 #[mV y,.slice A k cap,.slice A k cap] W (ErrIff (PartOk y.p ((psOf ms).take k) ((psOf ms).take k)) W):=fun W hb=>by
     have hlt2:(ms.take k).length=k:=by rw[List.length_take];omega
     have hb2:=bT HBR.out hb;have h13:=part13_any y (ms.take k) (ms.take k) A A B cap cap W (lT hBW1 hb2.size) (hMy.below hb (lT hBW1 HBR.out.size)) ((HH.out.rd.below hb2 hBW1).take k) ((HH.out.rd.below hb2 hBW1).take k) (by omega) hmax (by rw[hlt2];exact lT hk (lT hle hmax)) (fun q hq=>by
      obtain⟨j,hj⟩:=List.mem_iff_getElem?.1 hq;rw[List.getElem?_take]at hj;split at hj
      ·rename_i hjk;exact(HP.out j q hjk hj).fr.2.1
      ·cases hj)
     rw[hlt2,take_map]at h13;exact h13
    obtain⟨⟨yn,yk,yf,yl,yon,yw,yz⟩,yA,yc⟩:=y;subst hA;simp only at c0 c1 c2 c3 c4 c5 c6 hpt;have HPT:=Lq hpt;have HS:Hid (∀W,BW wr W→cA W b (off+k*7) (.string yn)∧cA W b (off+k*7+1) (iv yk)∧cA W b (off+k*7+2) (iv yf)∧cA W b (off+k*7+3) (iv yl)∧cA W b (off+k*7+4) (.slice yA yon.length yc)∧cA W b (off+k*7+5) (iv yw)∧cA W b (off+k*7+6) (iv yz)):=Lq fun W hb=>⟨kC hb c0,kC hb c1,kC hb c2,kC hb c3,kC hb c4,kC hb c5,kC hb c6⟩
    clear hpt hy hMy;go_wp2_with fail;go_region_held3 (fun W=>cA W b (off+k*7) (.string yn)∧cA W b (off+k*7+1) (iv yk)∧cA W b (off+k*7+2) (iv yf)∧cA W b (off+k*7+3) (iv yl)∧cA W b (off+k*7+4) (.slice yA yon.length yc)∧cA W b (off+k*7+5) (iv yw)∧cA W b (off+k*7+6) (iv yz)) (first | exact HS.out _ (u0 hb7) | exact HS.out _ (belowDr (bR _))) ((go_at_call 14;((with_reducible refine(HPT.out _ (belowDr (bR _))).mono ?_);rintro e w7 ⟨r,rfl,hr,hb7⟩)))
    have HB7:=Lq (bT HBR.out (u0 hb7));have HR:=Lq hr;clear hb7 hr x0 x1 hgw c0 c1 c2 c3 c4 c5 c6;obtain⟨x0,x1,hgw⟩:=HX.out _ HB7.out;by_cases hr0:r=0
    ·subst hr0;have HR0:=Lq (HR.out.1 rfl);clear HR;go_wp2_with fail;go_roundw
     case rel =>
      refine⟨k+1,by omega,by go_num,Lq (fun j m hj hm=>?_),HB7⟩
      rcases Nat.lt_or_ge j k with hjk | hjk
      ·exact HP.out j m hjk hm
      ·obtain rfl:j=k:=by omega
       rw[HYI.out]at hm;injection hm with hm
       subst hm;exact HR0.out
     case measure=>simp[intOf];omega
    ·have hr1:(r != 0)=true:=by simpa using hr0
     go_wp2_with fail
     go_ret3
     exact chk3No hr0 (fun h=>hr0 (HR.out.2 (h.ship.part k _ (ps_at HYI.out)))) (bT HB1.out HB7.out)
   ·have hsh:ShipOk (psOf ms):=⟨by simp;omega,fun i p hp=>by
     rw[List.getElem?_map]at hp;cases hm:ms[i]? with
     | none=>rw[hm]at hp;cases hp
     | some m =>
      rw[hm]at hp;injection hp with hp
      subst hp;exact HP.out i m (by have:=(lG hm);omega) hm⟩
    have HSH:=Lq hsh;clear hsh HP;by_cases h8:8<cs.length
    ·go_wp2_with fail
     go_ret3
     exact chk3No (by decide) (fun h=>by have:=h.len;simp at this;omega) (bT HB1.out HBR.out)
    ·go_wp2_with fail;go_loopw [5,8,9] (fun v l i wr=>∃(k:Nat) (msk:List HuM) (Ak:Option Addr) (ck:Nat) (last:Int),k≤cs.length∧i=iv k∧v=.slice Ak msk.length ck∧l=iv last∧Hid (SlM wr wr.heap.size Ak ck msk)∧Hid (RunTo ms cs k msk last)∧Hid (BW W1 wr)) (fun _ _ i _=>cs.length-(intOf i).toNat)
     case atStart=>exact⟨0,ms,A,cap,0,by omega,rfl,rfl,rfl,Lq ((HH.out.below HBR.out hBW1).more (lT hBW1 HBR.out.size)),Lq (RunTo.start HSH.out),HBR⟩
     case round =>
      clear x0 x1 hgw HBR;obtain⟨k,msk,Ak,ck,last,hk,rfl,rfl,rfl,HSL,HRT,HBR⟩:=hrel;obtain⟨x0,x1,hgw⟩:=HX.out _ HBR.out;have hk0:(0:Int)≤(k:Int):=by omega
      by_cases hlt2:k<cs.length
      ·obtain⟨c,hc⟩:=gX (l:=cs) (i:=k) hlt2;obtain⟨b,off,hA,hbB,hMc,hcn,c0,c1,c2,c3,c4,c5,c6,c7,c8,c9⟩:=(HCC.out.below HBR.out hBW1).at hc;have hbw:=lt_of_cell c0;have HCI:=Lq hc;have HMC:=Lq (hMc.more (lT hBW1 HBR.out.size));clear hc hMc;obtain⟨wh,dy,nm,⟨⟨yn,yk,yf,yl,yon,yw,yz⟩,yA,yc⟩⟩:=c;subst hA;simp only at c0 c1 c2 c3 c4 c5 c6 c7 c8 c9 hcn;obtain⟨b1,hb1⟩:=ex (inB last 40000 dy);have HI:Hid (∀W,Cs 15 #[iv dy,iv last,iv 40000] W fun e w'=>e=.returned (.bool b1)∧W=w'):=Lq fun W=>hb1▸within_any dy last 40000 W
       have HB1X:=Lq hb1;obtain⟨g2,hg2⟩:=ex wr.heap.size;have HG2:=Lq hg2;clear hg2 hb1;go_wp2_with fail;rw[HG2.out];have kb:Blk (wr.alloc (.cells #[iv wh,iv dy,.string nm,.string yn,iv yk,iv yf,iv yl,.slice yA yon.length yc,iv yw,iv yz] 58)) g2 58 #[iv wh,iv dy,.string nm,.string yn,iv yk,iv yf,iv yl,.slice yA yon.length yc,iv yw,iv yz]:=HG2.out▸Blk.new wr 58 _;have hba:=bA (bR wr) (.cells #[iv wh,iv dy,.string nm,.string yn,iv yk,iv yf,iv yl,.slice yA yon.length yc,iv yw,iv yz] 58);obtain⟨W2,hW2⟩:=ex (wr.alloc (.cells #[iv wh,iv dy,.string nm,.string yn,iv yk,iv yf,iv yl,.slice yA yon.length yc,iv yw,iv yz] 58));rw[hW2]at kb hba;rw[hW2];have HBA:=Lq hba;have HB2:=Lq (bT HBR.out hba);have HKB:Hid (∀W,BW W2 W→cA W g2 0 (iv wh)∧cA W g2 1 (iv dy)∧cA W g2 2 (.string nm)∧cA W g2 3 (.string yn)∧cA W g2 4 (iv yk)∧cA W g2 5 (iv yf)∧cA W g2 6 (iv yl)∧cA W g2 7 (.slice yA yon.length yc)∧cA W g2 8 (iv yw)∧cA W g2 9 (iv yz)∧g2<W.heap.size):=Lq fun W hb=>have k:=kb.keep hb;⟨k.c 0,k.c 1,k.c 2,k.c 3,k.c 4,k.c 5,k.c 6,k.c 7,k.c 8,k.c 9,k.lt⟩
       clear kb hba hW2 x0 x1 hgw c0 c1 c2 c3 c4 c5 c6 c7 c8 c9 hbw;obtain⟨x0,x1,hgw⟩:=HX.out _ HB2.out;obtain⟨c0,c1,c2,c3,c4,c5,c6,c7,c8,c9,hg2w⟩:=HKB.out _ (bR W2);refine(HI.out _).mono ?_;rintro e w' ⟨rfl,rfl⟩;cases b1 with
       | false =>
        go_wp2_with fail
        go_ret3
        exact chk3No (by decide) (HRT.out.stop HCI.out (.inl HB1X.out)) (bT HB1.out HB2.out)
       | true =>
        obtain⟨bb,hbb⟩:=ex (bareB (HcM.c ⟨wh,dy,nm,⟨⟨yn,yk,yf,yl,yon,yw,yz⟩,yA,yc⟩⟩));have HM2:=Lq ((HMC.out.below HBA.out (lr _)).more HBA.out.size);have hbr:=bare15_any ⟨wh,dy,nm,⟨⟨yn,yk,yf,yl,yon,yw,yz⟩,yA,yc⟩⟩ W2 HM2.out;rw[hbb]at hbr;have HBR2:=Lq hbr;have HBB:=Lq hbb;clear hbr hbb;go_wp2_with fail;refine HBR2.out.mono ?_;rintro e w3 ⟨rfl,hb3⟩;have HB3:=Lq hb3;have HB3X:=Lq (bT HB2.out hb3);clear hb3 x0 x1 hgw c0 c1 c2 c3 c4 c5 c6 c7 c8 c9 hg2w;obtain⟨x0,x1,hgw⟩:=HX.out _ HB3X.out;obtain⟨c0,c1,c2,c3,c4,c5,c6,c7,c8,c9,hg2w⟩:=HKB.out _ HB3.out;cases bb with
        | false =>
         go_wp2_with fail
         go_ret3
         exact chk3No (by decide) (HRT.out.stop HCI.out (.inr (by
          cases hx:chgP (psOf msk) (HcM.c ⟨wh,dy,nm,⟨⟨yn,yk,yf,yl,yon,yw,yz⟩,yA,yc⟩⟩)with
          | none=>rfl
          | some x=>have:=bare_of_chg hx;rw[HBB.out]at this;cases this))) (bT HB1.out HB3X.out)
        | true =>
         have HWR:=Lq (bT HBA.out HB3.out);have hch:=changed16_any Ak msk ⟨wh,dy,nm,⟨⟨yn,yk,yf,yl,yon,yw,yz⟩,yA,yc⟩⟩ wr.heap.size ck w3 HWR.out.size (HSL.out.below HWR.out (lr _)) (HMC.out.below HWR.out (lr _)) hcn HRT.out.1 HBB.out;have HCH:=Lq hch;clear hch;go_wp2_with fail;refine HCH.out.mono ?_;rintro e w4 ⟨r,v4,rfl,hb4,hno,hyes⟩;have HB4:=Lq (bT HB3.out hb4);have HB4X:=Lq (bT HB3X.out hb4);have HNO:=Lq hno;have HYES:=Lq hyes;clear hb4 hno hyes x0 x1 hgw c0 c1 c2 c3 c4 c5 c6 c7 c8 c9 hg2w;obtain⟨x0,x1,hgw⟩:=HX.out _ HB4X.out;obtain⟨c0,c1,c2,c3,c4,c5,c6,c7,c8,c9,hg2w⟩:=HKB.out _ HB4.out;by_cases hr0:r=0
         ·subst hr0;obtain⟨out,A4,c4',rfl,hx,hs⟩:=HYES.out rfl;have HXX:=Lq hx;have HSS:=Lq hs;clear hx hs HYES HNO;go_wp2_with fail;go_quiet (fail)
          go_wp2_with fail;go_roundw
          case rel=>exact⟨k+1,out,A4,c4',dy,by omega,by go_num,rfl,rfl,Lq (HSS.out.below (belowN (bR _) _) (lr _)),Lq (HRT.out.next HCI.out HB1X.out HXX.out),Lq (belowN HB4X.out _)⟩
          case measure=>simp[intOf];omega
         ·have hr1:(r != 0)=true:=by simpa using hr0
          go_wp2_with fail
          go_ret3
          exact chk3No hr0 (HRT.out.stop HCI.out (.inr (HNO.out hr0))) (bT HB1.out HB4X.out)
      ·obtain rfl:k=cs.length:=by omega
       go_wp2_with fail
       go_ret3
       exact chk3Ok (HRT.out.done HSH.out (by omega)) (bT HB1.out HBR.out)
end
section
variable{k:Nat}
def idxI{α:Type}(P:α→Bool)(l:List α):Int:=if l.findIdx P<l.length then(l.findIdx P:Int)else -1
theorem idxI_no{α:Type}{P:α→Bool}{l:List α}(h:(l.any P)=false):idxI P l = -1:=by unfold idxI;rw[if_neg];intro h2;rw[List.findIdx_lt_length]at h2;obtain⟨x,hx,hp⟩:=h2;rw[List.any_eq_false]at h;exact h x hx hp
theorem idxI_yes{α:Type}{P:α→Bool}{l:List α}(h:(l.any P)=true):0≤idxI P l:=by
 unfold idxI;rw[if_pos]
 ·omega
 ·rw[List.findIdx_lt_length]
  simpa using h
theorem idxI_found{α:Type}{P:α→Bool}{l:List α}{x:α}(hk:l[k]?=some x)(hp:P x=true)(hn:(l.take k).any P=false):idxI P l=(k:Int)∧l.any P=true:=by
 obtain⟨hl,e⟩:=List.getElem?_eq_some_iff.1 hk;have hi:l.findIdx P=k:=by
  rw[List.findIdx_eq hl];refine⟨by rw[e];exact hp,fun j hj=>?_⟩
  rw[List.any_eq_false]at hn;have:=hn l[j] (mG ⟨j,by rw[List.getElem?_take_of_lt hj];exact gE (by omega)⟩)
  simpa using this
 refine⟨by unfold idxI;rw[hi,if_pos hl],List.any_eq_true.2 ⟨x,mG ⟨k,hk⟩,hp⟩⟩
def anyTo{α:Type}(P:α→Bool)(l:List α)(k:Nat):Bool:=(l.take k).any P
theorem anyTo_snoc{α:Type}{P:α→Bool}{l:List α}{x:α}(hk:l[k]?=some x)(h:anyTo P l k=false)(hp:P x=false):anyTo P l (k+1)=false:=by unfold anyTo at *;obtain⟨hl,rfl⟩:=List.getElem?_eq_some_iff.1 hk;rw[List.take_succ_eq_append_getElem hl,List.any_append,h];simp[hp]
def anyP{α:Type}(P:α→Bool)(l:List α):Bool:=l.any P
theorem idx_find(P:HuP→Bool)(A:Option Addr)(ms:List HuM)(B cap:Nat)(v0:Value)(w:World)(hm:ms.length≤maxLen)(hB:B≤w.heap.size)(H:MsRd w B A ms)(hcl:∀W m,BW w W→m∈ms→Cs 101 #[mV m,v0] W (Rt W (.bool (P m.p)))) :
  Cs 100 #[.slice A ms.length cap,.func (.func 101) #[] #[v0]] w (Rt w (iv (idxI P (psOf ms)))):=by
 unfold maxLen at hm;have HH:=Lq H;have HCL:=Lq hcl;obtain⟨ps,hps⟩:=ex (psOf ms);have HPS:=Lq hps;rw[hps];clear H hcl hps;go_enter Tryz.func100,Tryz.ntmps100
 go_wp2
 go_loopw [8] (fun i wr=>∃k:Nat,k≤ms.length∧i=iv k∧Hid (anyTo P ps k=false)∧Hid (BW w wr)) (fun i _=>ms.length-(intOf i).toNat)
 case atStart=>exact⟨0,Nat.zero_le _,rfl,Lq rfl,Lq (bR _)⟩
 case round =>
  obtain⟨k,hk,rfl,HN,HBR⟩:=hrel;by_cases hlt:k<ms.length
  ·obtain⟨m,hx⟩:=gX (l:=ms) (i:=k) hlt;obtain⟨b,off,rfl,_,_,c0,c1,c2,c3,c4,c5,c6⟩:=(HH.out.below HBR.out hB).at hx;have HC:=Lq (HCL.out wr m HBR.out (mG ⟨k,hx⟩));have HX:Hid (ps[k]?=some m.p):=Lq (HPS.out▸ps_at hx);obtain⟨⟨yn,yk,yf,yl,yon,yw,yz⟩,yA,yc⟩:=m;simp only at c0 c1 c2 c3 c4 c5 c6;clear hx HCL;obtain⟨bp,hbp⟩:=ex (P (HuP.mk yn yk yf yl yon yw yz));have HBP:=Lq hbp;simp only[hbp]at HC;clear hbp;go_wp2_with fail;refine HC.out.mono ?_;rintro e w1 ⟨rfl,hb⟩;have HB1:=Lq (bT HBR.out hb);clear hb c0 c1 c2 c3 c4 c5 c6;cases bp
   ·go_wp2_with fail;go_roundw
    case rel=>exact⟨k+1,by omega,by go_num,Lq (anyTo_snoc HX.out HN.out HBP.out),HB1⟩
    case measure=>simp[intOf];omega
   ·go_wp2_with fail;go_ret
    exact⟨ret_int (idxI_found HX.out HBP.out HN.out).1.symm,HB1.out⟩
  ·go_wp2_with fail;go_ret
   refine⟨ret_int (idxI_no ?_).symm,HBR.out⟩;have hn:=HN.out;unfold anyTo at hn;rw[List.take_of_length_le (by rw[←HPS.out];simp;omega)]at hn
   exact hn
theorem idx_behind(P:HuP→Bool)(A:Option Addr)(ms:List HuM)(B cap:Nat)(v0:Value)(w:World)(hm:ms.length≤maxLen)(hB:B≤w.heap.size)(H:MsRd w B A ms)(hcl:∀W m,BW w W→m∈ms→Cs 160 #[mV m,v0] W (Rt W (.bool (P m.p)))) :
  Cs 100 #[.slice A ms.length cap,.func (.func 160) #[] #[v0]] w (Rt w (iv (idxI P (psOf ms)))):=by
 unfold maxLen at hm;have HH:=Lq H;have HCL:=Lq hcl;obtain⟨ps,hps⟩:=ex (psOf ms);have HPS:=Lq hps;rw[hps];clear H hcl hps;go_enter Tryz.func100,Tryz.ntmps100
 go_wp2
 go_loopw [8] (fun i wr=>∃k:Nat,k≤ms.length∧i=iv k∧Hid (anyTo P ps k=false)∧Hid (BW w wr)) (fun i _=>ms.length-(intOf i).toNat)
 case atStart=>exact⟨0,Nat.zero_le _,rfl,Lq rfl,Lq (bR _)⟩
 case round =>
  obtain⟨k,hk,rfl,HN,HBR⟩:=hrel;by_cases hlt:k<ms.length
  ·obtain⟨m,hx⟩:=gX (l:=ms) (i:=k) hlt;obtain⟨b,off,rfl,_,_,c0,c1,c2,c3,c4,c5,c6⟩:=(HH.out.below HBR.out hB).at hx;have HC:=Lq (HCL.out wr m HBR.out (mG ⟨k,hx⟩));have HX:Hid (ps[k]?=some m.p):=Lq (HPS.out▸ps_at hx);obtain⟨⟨yn,yk,yf,yl,yon,yw,yz⟩,yA,yc⟩:=m;simp only at c0 c1 c2 c3 c4 c5 c6;clear hx HCL;obtain⟨bp,hbp⟩:=ex (P (HuP.mk yn yk yf yl yon yw yz));have HBP:=Lq hbp;simp only[hbp]at HC;clear hbp;go_wp2_with fail;refine HC.out.mono ?_;rintro e w1 ⟨rfl,hb⟩;have HB1:=Lq (bT HBR.out hb);clear hb c0 c1 c2 c3 c4 c5 c6;cases bp
   ·go_wp2_with fail;go_roundw
    case rel=>exact⟨k+1,by omega,by go_num,Lq (anyTo_snoc HX.out HN.out HBP.out),HB1⟩
    case measure=>simp[intOf];omega
   ·go_wp2_with fail;go_ret
    exact⟨ret_int (idxI_found HX.out HBP.out HN.out).1.symm,HB1.out⟩
  ·go_wp2_with fail;go_ret
   refine⟨ret_int (idxI_no ?_).symm,HBR.out⟩;have hn:=HN.out;unfold anyTo at hn;rw[List.take_of_length_le (by rw[←HPS.out];simp;omega)]at hn
   exact hn
theorem con_behind(P:HuP→Bool)(A:Option Addr)(ms:List HuM)(B cap:Nat)(v0:Value)(w:World)(hm:ms.length≤maxLen)(hB:B≤w.heap.size)(H:MsRd w B A ms)(hcl:∀W m,BW w W→m∈ms→Cs 160 #[mV m,v0] W (Rt W (.bool (P m.p)))) :
  Cs 159 #[.slice A ms.length cap,.func (.func 160) #[] #[v0]] w (Rt w (.bool (anyP P (psOf ms)))):=by
 have HI:=Lq (idx_behind P A ms B cap v0 w hm hB H hcl);clear H hcl;obtain⟨ps,hps⟩:=ex (psOf ms);rw[hps]at HI ⊢;clear hps;obtain⟨r,hr⟩:=ex (idxI P ps);rw[hr]at HI;have hd:decide (0≤r)=anyP P ps:=by
  unfold anyP;cases h:ps.any P
  ·rw[←hr,idxI_no h];rfl
  ·have:=idxI_yes h;rw[hr]at this
   simpa using this
 have HD:=Lq hd;clear hr hd;go_enter Tryz.func159,Tryz.ntmps159
 go_wp2_with fail;refine HI.out.mono ?_;rintro e w1 ⟨rfl,hb⟩;go_wp2_with fail;go_ret
 exact⟨ret_bool HD.out,hb⟩
theorem idx_taken(P:HuP→Bool)(A:Option Addr)(ms:List HuM)(B cap:Nat)(v0:Value)(w:World)(hm:ms.length≤maxLen)(hB:B≤w.heap.size)(H:MsRd w B A ms)(hcl:∀W m,BW w W→m∈ms→Cs 201 #[mV m,v0] W (Rt W (.bool (P m.p)))) :
  Cs 100 #[.slice A ms.length cap,.func (.func 201) #[] #[v0]] w (Rt w (iv (idxI P (psOf ms)))):=by
 unfold maxLen at hm;have HH:=Lq H;have HCL:=Lq hcl;obtain⟨ps,hps⟩:=ex (psOf ms);have HPS:=Lq hps;rw[hps];clear H hcl hps;go_enter Tryz.func100,Tryz.ntmps100
 go_wp2
 go_loopw [8] (fun i wr=>∃k:Nat,k≤ms.length∧i=iv k∧Hid (anyTo P ps k=false)∧Hid (BW w wr)) (fun i _=>ms.length-(intOf i).toNat)
 case atStart=>exact⟨0,Nat.zero_le _,rfl,Lq rfl,Lq (bR _)⟩
 case round =>
  obtain⟨k,hk,rfl,HN,HBR⟩:=hrel;by_cases hlt:k<ms.length
  ·obtain⟨m,hx⟩:=gX (l:=ms) (i:=k) hlt;obtain⟨b,off,rfl,_,_,c0,c1,c2,c3,c4,c5,c6⟩:=(HH.out.below HBR.out hB).at hx;have HC:=Lq (HCL.out wr m HBR.out (mG ⟨k,hx⟩));have HX:Hid (ps[k]?=some m.p):=Lq (HPS.out▸ps_at hx);obtain⟨⟨yn,yk,yf,yl,yon,yw,yz⟩,yA,yc⟩:=m;simp only at c0 c1 c2 c3 c4 c5 c6;clear hx HCL;obtain⟨bp,hbp⟩:=ex (P (HuP.mk yn yk yf yl yon yw yz));have HBP:=Lq hbp;simp only[hbp]at HC;clear hbp;go_wp2_with fail;refine HC.out.mono ?_;rintro e w1 ⟨rfl,hb⟩;have HB1:=Lq (bT HBR.out hb);clear hb c0 c1 c2 c3 c4 c5 c6;cases bp
   ·go_wp2_with fail;go_roundw
    case rel=>exact⟨k+1,by omega,by go_num,Lq (anyTo_snoc HX.out HN.out HBP.out),HB1⟩
    case measure=>simp[intOf];omega
   ·go_wp2_with fail;go_ret
    exact⟨ret_int (idxI_found HX.out HBP.out HN.out).1.symm,HB1.out⟩
  ·go_wp2_with fail;go_ret
   refine⟨ret_int (idxI_no ?_).symm,HBR.out⟩;have hn:=HN.out;unfold anyTo at hn;rw[List.take_of_length_le (by rw[←HPS.out];simp;omega)]at hn
   exact hn
theorem con_taken(P:HuP→Bool)(A:Option Addr)(ms:List HuM)(B cap:Nat)(v0:Value)(w:World)(hm:ms.length≤maxLen)(hB:B≤w.heap.size)(H:MsRd w B A ms)(hcl:∀W m,BW w W→m∈ms→Cs 201 #[mV m,v0] W (Rt W (.bool (P m.p)))) :
  Cs 159 #[.slice A ms.length cap,.func (.func 201) #[] #[v0]] w (Rt w (.bool (anyP P (psOf ms)))):=by
 have HI:=Lq (idx_taken P A ms B cap v0 w hm hB H hcl);clear H hcl;obtain⟨ps,hps⟩:=ex (psOf ms);rw[hps]at HI ⊢;clear hps;obtain⟨r,hr⟩:=ex (idxI P ps);rw[hr]at HI;have hd:decide (0≤r)=anyP P ps:=by
  unfold anyP;cases h:ps.any P
  ·rw[←hr,idxI_no h];rfl
  ·have:=idxI_yes h;rw[hr]at this
   simpa using this
 have HD:=Lq hd;clear hr hd;go_enter Tryz.func159,Tryz.ntmps159
 go_wp2_with fail;refine HI.out.mono ?_;rintro e w1 ⟨rfl,hb⟩;go_wp2_with fail;go_ret
 exact⟨ret_bool HD.out,hb⟩
theorem idx_lacks(P:ByteArray→Bool)(A:Option Addr)(ms:List ByteArray)(B cap:Nat)(v0:Value)(w:World)(hm:ms.length≤maxLen)(hB:B≤w.heap.size)(H:Rd1 .string w B A ms)(hcl:∀W m,BW w W→m∈ms→Cs 161 #[.string m,v0] W (Rt W (.bool (P m)))) :
  Cs 103 #[.slice A ms.length cap,.func (.func 161) #[] #[v0]] w (Rt w (iv (idxI P (ms)))):=by
 unfold maxLen at hm;have HH:=Lq H;have HCL:=Lq hcl;clear H hcl;go_enter Tryz.func103,Tryz.ntmps103
 go_wp2
 go_loopw [8] (fun i wr=>∃k:Nat,k≤ms.length∧i=iv k∧Hid (anyTo P ms k=false)∧Hid (BW w wr)) (fun i _=>ms.length-(intOf i).toNat)
 case atStart=>exact⟨0,Nat.zero_le _,rfl,Lq rfl,Lq (bR _)⟩
 case round =>
  obtain⟨k,hk,rfl,HN,HBR⟩:=hrel;by_cases hlt:k<ms.length
  ·obtain⟨m,hx⟩:=gX (l:=ms) (i:=k) hlt;obtain⟨b,off,rfl,_,c0⟩:=(HH.out.below HBR.out hB) k m hx;have HC:=Lq (HCL.out wr m HBR.out (mG ⟨k,hx⟩));have HX:Hid (ms[k]?=some m):=Lq hx;clear hx HCL;obtain⟨bp,hbp⟩:=ex (P m);have HBP:=Lq hbp;simp only[hbp]at HC;clear hbp;go_wp2_with fail;refine HC.out.mono ?_;rintro e w1 ⟨rfl,hb⟩;have HB1:=Lq (bT HBR.out hb);clear hb c0;cases bp
   ·go_wp2_with fail;go_roundw
    case rel=>exact⟨k+1,by omega,by go_num,Lq (anyTo_snoc HX.out HN.out HBP.out),HB1⟩
    case measure=>simp[intOf];omega
   ·go_wp2_with fail;go_ret
    exact⟨ret_int (idxI_found HX.out HBP.out HN.out).1.symm,HB1.out⟩
  ·go_wp2_with fail;go_ret
   refine⟨ret_int (idxI_no ?_).symm,HBR.out⟩;have hn:=HN.out;unfold anyTo at hn;rw[List.take_of_length_le (by omega)]at hn
   exact hn
theorem con_lacks(P:ByteArray→Bool)(A:Option Addr)(ms:List ByteArray)(B cap:Nat)(v0:Value)(w:World)(hm:ms.length≤maxLen)(hB:B≤w.heap.size)(H:Rd1 .string w B A ms)(hcl:∀W m,BW w W→m∈ms→Cs 161 #[.string m,v0] W (Rt W (.bool (P m)))) :
  Cs 53 #[.slice A ms.length cap,.func (.func 161) #[] #[v0]] w (Rt w (.bool (anyP P (ms)))):=by
 have HI:=Lq (idx_lacks P A ms B cap v0 w hm hB H hcl);clear H hcl;obtain⟨r,hr⟩:=ex (idxI P ms);rw[hr]at HI;have hd:decide (0≤r)=anyP P ms:=by
  unfold anyP;cases h:ms.any P
  ·rw[←hr,idxI_no h];rfl
  ·have:=idxI_yes h;rw[hr]at this
   simpa using this
 have HD:=Lq hd;clear hr hd;go_enter Tryz.func53,Tryz.ntmps53
 go_wp2_with fail;refine HI.out.mono ?_;rintro e w1 ⟨rfl,hb⟩;go_wp2_with fail;go_ret
 exact⟨ret_bool HD.out,hb⟩
theorem idx_apart(P:ByteArray→Bool)(A:Option Addr)(ms:List ByteArray)(B cap:Nat)(v0 v1:Value)(w:World)(hm:ms.length≤maxLen)(hB:B≤w.heap.size)(H:Rd1 .string w B A ms)(hcl:∀W m,BW w W→m∈ms→Cs 163 #[.string m,v0,v1] W (Rt W (.bool (P m)))) :
  Cs 103 #[.slice A ms.length cap,.func (.func 163) #[] #[v0,v1]] w (Rt w (iv (idxI P (ms)))):=by
 unfold maxLen at hm;have HH:=Lq H;have HCL:=Lq hcl;clear H hcl;go_enter Tryz.func103,Tryz.ntmps103
 go_wp2
 go_loopw [8] (fun i wr=>∃k:Nat,k≤ms.length∧i=iv k∧Hid (anyTo P ms k=false)∧Hid (BW w wr)) (fun i _=>ms.length-(intOf i).toNat)
 case atStart=>exact⟨0,Nat.zero_le _,rfl,Lq rfl,Lq (bR _)⟩
 case round =>
  obtain⟨k,hk,rfl,HN,HBR⟩:=hrel;by_cases hlt:k<ms.length
  ·obtain⟨m,hx⟩:=gX (l:=ms) (i:=k) hlt;obtain⟨b,off,rfl,_,c0⟩:=(HH.out.below HBR.out hB) k m hx;have HC:=Lq (HCL.out wr m HBR.out (mG ⟨k,hx⟩));have HX:Hid (ms[k]?=some m):=Lq hx;clear hx HCL;obtain⟨bp,hbp⟩:=ex (P m);have HBP:=Lq hbp;simp only[hbp]at HC;clear hbp;go_wp2_with fail;refine HC.out.mono ?_;rintro e w1 ⟨rfl,hb⟩;have HB1:=Lq (bT HBR.out hb);clear hb c0;cases bp
   ·go_wp2_with fail;go_roundw
    case rel=>exact⟨k+1,by omega,by go_num,Lq (anyTo_snoc HX.out HN.out HBP.out),HB1⟩
    case measure=>simp[intOf];omega
   ·go_wp2_with fail;go_ret
    exact⟨ret_int (idxI_found HX.out HBP.out HN.out).1.symm,HB1.out⟩
  ·go_wp2_with fail;go_ret
   refine⟨ret_int (idxI_no ?_).symm,HBR.out⟩;have hn:=HN.out;unfold anyTo at hn;rw[List.take_of_length_le (by omega)]at hn
   exact hn
theorem con_apart(P:ByteArray→Bool)(A:Option Addr)(ms:List ByteArray)(B cap:Nat)(v0 v1:Value)(w:World)(hm:ms.length≤maxLen)(hB:B≤w.heap.size)(H:Rd1 .string w B A ms)(hcl:∀W m,BW w W→m∈ms→Cs 163 #[.string m,v0,v1] W (Rt W (.bool (P m)))) :
  Cs 53 #[.slice A ms.length cap,.func (.func 163) #[] #[v0,v1]] w (Rt w (.bool (anyP P (ms)))):=by
 have HI:=Lq (idx_apart P A ms B cap v0 v1 w hm hB H hcl);clear H hcl;obtain⟨r,hr⟩:=ex (idxI P ms);rw[hr]at HI;have hd:decide (0≤r)=anyP P ms:=by
  unfold anyP;cases h:ms.any P
  ·rw[←hr,idxI_no h];rfl
  ·have:=idxI_yes h;rw[hr]at this
   simpa using this
 have HD:=Lq hd;clear hr hd;go_enter Tryz.func53,Tryz.ntmps53
 go_wp2_with fail;refine HI.out.mono ?_;rintro e w1 ⟨rfl,hb⟩;go_wp2_with fail;go_ret
 exact⟨ret_bool HD.out,hb⟩
end
theorem find97_any(m:HuM)(s:ByteArray)(gs:Nat)(w:World)(hc:w.cell? ⟨gs,0,none⟩=some (.string s)):Cs 101 #[mV m,pT gs 0] w (Rt w (.bool (nmB s m.p))):=by
 obtain⟨⟨yn,yk,yf,yl,yon,yw,yz⟩,yA,yc⟩:=m;have hlt:=lt_of_cell hc;go_enter Tryz.func101,Tryz.ntmps101
 go_wp2
 go_ret
 exact⟨ret_bool rfl,bA (bR _) _⟩
theorem posP_of(ms:List HuM)(s:ByteArray):posP (psOf ms) s=idxI (nmB s) (psOf ms):=rfl
theorem find49_any(A:Option Addr)(ms:List HuM)(B cap gh:Nat)(s:ByteArray)(w:World)(hB:B≤w.heap.size)(hm:ms.length≤maxLen)(H:MsRd w B A ms)(hc:w.cell? ⟨gh,0,none⟩=some (.slice A ms.length cap)) :
  Cs 50 #[pT gh 0,.string s] w (Rt w (iv (posP (psOf ms) s))):=by
 obtain⟨W1,hW1⟩:=ex (w.alloc (.cells #[.string s] 9));have hb1:BW w W1:=by rw[←hW1];exact bA (bR _) _
 have hq:Blk W1 w.heap.size 9 #[.string s]:=by rw[←hW1];exact Blk.new w 9 _
 have hI:=idx_find (nmB s) A ms B cap (pT w.heap.size 0) W1 hm (lT hB hb1.size) (H.below hb1 hB) (fun W m hb _=>find97_any m s _ W ((hq.keep hb).c 0))
 rw[←posP_of]at hI;obtain⟨r,hr⟩:=ex (posP (psOf ms) s);rw[hr]at hI ⊢;have HI:=Lq hI;have HB1:=Lq hb1;have k0:W1.cell? ⟨gh,0,none⟩=some (.slice A ms.length cap):=kC hb1 hc;have hlt:=lt_of_cell hc;clear hI hb1 hq hr H hc;go_enter Tryz.func50,Tryz.ntmps50
 go_wp2_with fail;refine HI.out.mono ?_;rintro e w2 ⟨rfl,hb2⟩;have HB2:=Lq (bT HB1.out hb2);clear hb2 hW1 k0;go_wp2_with fail;go_ret
 exact⟨rfl,HB2.out⟩
theorem meet146_any(m n:HuM)(w:World):Cs 164 #[mV m,mV n] w (Rt w (.bool (meetB m.p n.p))):=by
 obtain⟨⟨nm,kd,f1,l1,on,wl,wh⟩,A,c⟩:=m;obtain⟨⟨nm2,kd2,f2,l2,on2,wl2,wh2⟩,A2,c2⟩:=n;go_enter Tryz.func164,Tryz.ntmps164
 go_wp2
 all_goals
  go_ret
  exact⟨ret_bool (by unfold meetB;simp only;rw[Bool.eq_iff_iff];simp;omega),bA (bA (bR _) _) _⟩
def strI(l:List ByteArray)(s:ByteArray):Int:=idxI (fun o=>eqS s o) l
theorem index120_any(A:Option Addr)(l:List ByteArray)(B cap:Nat)(s:ByteArray)(w:World)(hm:l.length≤maxLen)(hR:Rd1 .string w B A l) :
  Cs 123 #[.slice A l.length cap,.string s] w fun e w'=>e=.returned (iv (strI l s))∧w'=w:=by
 unfold maxLen at hm;go_enter Tryz.func123,Tryz.ntmps123
 go_wp2
 go_loop [8] (fun i=>∃k:Nat,k≤l.length∧i=iv k∧Hid (anyTo (fun o=>eqS s o) l k=false)) (fun i=>l.length-(intOf i).toNat)
 case atStart=>exact⟨0,Nat.zero_le _,rfl,Lq rfl⟩
 case round =>
  obtain⟨k,hk,rfl,HN⟩:=hrel;by_cases hlt:k<l.length
  ·obtain⟨x,hx⟩:=gX (l:=l) (i:=k) hlt;obtain⟨b,off,rfl,_,hck⟩:=hR k x hx;have HX:=Lq hx;clear hx;cases hp:(s.toList==x.toList)
   ·have HP:=Lq hp;go_wp2
    go_round
    case rel=>exact⟨k+1,by omega,by go_num,Lq (anyTo_snoc HX.out HN.out HP.out)⟩
    case measure=>simp[intOf];omega
   ·have HP:=Lq hp;go_wp2
    go_ret
    exact⟨ret_int (idxI_found HX.out HP.out HN.out).1.symm,rfl⟩
  ·go_wp2
   go_ret
   refine⟨ret_int (idxI_no ?_).symm,rfl⟩;have hn:=HN.out;unfold anyTo at hn;rw[List.take_of_length_le (by omega)]at hn
   exact hn
theorem eqS_comm(a b:ByteArray):eqS a b=eqS b a:=by unfold eqS;rw[Bool.eq_iff_iff];simp;exact eq_comm
theorem strI_dec(l:List ByteArray)(s:ByteArray):decide (0≤strI l s)=oneOf l s:=by
 have he:(l.any fun o=>eqS s o)=oneOf l s:=by unfold oneOf;congr 1;funext o;rw[eqS_comm];rfl
 unfold strI;cases h:oneOf l s
 ·rw[h]at he;rw[idxI_no he];rfl
 ·rw[h]at he;have:=idxI_yes he
  simpa using this
theorem contains98_any(A:Option Addr)(l:List ByteArray)(B cap:Nat)(s:ByteArray)(w:World)(hm:l.length≤maxLen)(hR:Rd1 .string w B A l) :
  Cs 102 #[.slice A l.length cap,.string s] w fun e w'=>e=.returned (.bool (oneOf l s))∧w'=w:=by
 have HI:=Lq (index120_any A l B cap s w hm hR);have HD:=Lq (strI_dec l s);obtain⟨r,hr⟩:=ex (strI l s);rw[hr]at HI HD;clear hr hR;go_enter Tryz.func102,Tryz.ntmps102
 go_wp2_with (go_at_call 123;refine HI.out.mono ?_;rintro e w' ⟨rfl,rfl⟩)
 go_ret
 exact⟨ret_bool HD.out,rfl⟩
theorem on51_any(m:HuM)(s:ByteArray)(B:Nat)(w:World)(hB:B≤w.heap.size)(hM:MOk w B m):Cs 52 #[mV m,.string s] w (Rt w (.bool (standsB m.p s))):=by
 obtain⟨W1,hW1,hb1,hz1,hq⟩:=mBox w m;have HC:Hid (Cs 102 #[.slice m.A m.p.on.length m.cap,.string s] W1 fun e w'=>e=.returned (.bool (standsB m.p s))∧w'=W1):=Lq (contains98_any m.A m.p.on B m.cap s W1 (lT hM.le hM.cm) (hM.on.below hb1 hB))
 obtain⟨bb,hbb⟩:=ex (standsB m.p s);rw[hbb]at HC ⊢;have HB1:=Lq hb1;have k4:=hq.c 4;clear hM hbb hb1 hq hz1;obtain⟨⟨yn,yk,yf,yl,yon,yw,yz⟩,yA,yc⟩:=m;go_enter Tryz.func52,Tryz.ntmps52
 go_wp2_with (go_at_call 102;refine HC.out.mono ?_;rintro e w' ⟨rfl,rfl⟩)
 go_ret
 exact⟨rfl,HB1.out⟩
theorem behind142_any(m:HuM)(s:ByteArray)(gx:Nat)(w:World)(hc:w.cell? ⟨gx,0,none⟩=some (.string s)):Cs 160 #[mV m,pT gx 0] w (Rt w (.bool (nmB s m.p))):=by
 obtain⟨⟨yn,yk,yf,yl,yon,yw,yz⟩,yA,yc⟩:=m;have hlt:=lt_of_cell hc;go_enter Tryz.func160,Tryz.ntmps160
 go_wp2
 go_ret
 exact⟨ret_bool rfl,bA (bR _) _⟩
theorem take180_any(m:HuM)(s:ByteArray)(gx B:Nat)(w:World)(hB:B≤w.heap.size)(hM:MOk w B m)(hc:w.cell? ⟨gx,2,none⟩=some (.string s)):Cs 201 #[mV m,pT gx 0] w (Rt w (.bool (standsB m.p s))):=by
 obtain⟨W1,hW1,hb1,hz1,hq⟩:=mBox w m;have HC:Hid (Cs 52 #[mV m,.string s] W1 (Rt W1 (.bool (standsB m.p s)))):=Lq (on51_any m s B W1 (lT hB hb1.size) (hM.below hb1 hB));obtain⟨bb,hbb⟩:=ex (standsB m.p s);rw[hbb]at HC ⊢;have HB1:=Lq hb1;have kx:=kC hb1 hc;have hlt:=lt_of_cell hc;obtain⟨k0,k1,k2,k3,k4,k5,k6⟩:=hq.c7;clear hM hbb hb1 hq hz1 hc;obtain⟨⟨yn,yk,yf,yl,yon,yw,yz⟩,yA,yc⟩:=m;go_enter Tryz.func201,Tryz.ntmps201
 go_wp2_with fail;refine HC.out.mono ?_;rintro e w2 ⟨rfl,hb2⟩;have HB2:=Lq (bT HB1.out hb2);clear hb2 hW1 k0 k1 k2 k3 k4 k5 k6 kx;go_wp2_with fail;go_ret
 exact⟨rfl,HB2.out⟩
theorem lacks143_any(A:Option Addr)(ms:List HuM)(B cap gh:Nat)(s:ByteArray)(w:World)(hB:B≤w.heap.size)(hm:ms.length≤maxLen)(H:MsRd w B A ms)(hc:w.cell? ⟨gh,0,none⟩=some (.slice A ms.length cap)) :
  Cs 161 #[.string s,pT gh 0] w (Rt w (.bool (!hasP (psOf ms) s))):=by
 have HF:=Lq (find49_any A ms B cap gh s w hB hm H hc);have HD:Hid (decide (posP (psOf ms) s<0)=!hasP (psOf ms) s):=Lq (by
  cases h:hasP (psOf ms) s
  ·have:=posP_neg.2 h
   simpa using this
  ·have:¬posP (psOf ms) s<0:=fun h2=>by have:=posP_neg.1 h2;rw[h]at this;cases this
   simpa using this)
 obtain⟨r,hr⟩:=ex (posP (psOf ms) s);rw[hr]at HF HD;clear hr H hc;go_enter Tryz.func161,Tryz.ntmps161
 go_wp2_with fail;refine HF.out.mono ?_;rintro e w2 ⟨rfl,hb2⟩;go_wp2_with fail;go_ret
 exact⟨ret_bool HD.out,hb2⟩
def metB(x:HuP)(ps:List HuP)(s:ByteArray):Bool:=match ps.find? (nmB s)with
 | some y=>meetB x y
 | none=>false
theorem apart145_any(A:Option Addr)(ms:List HuM)(m:HuM)(B cap gx gb:Nat)(s:ByteArray)(w:World)(hB:B≤w.heap.size)(hm:ms.length≤maxLen)(H:MsRd w B A ms)(hx:Blk w gx 43 #[.string m.p.name,iv m.p.kind,iv m.p.first,iv m.p.last,.slice m.A m.p.on.length m.cap,iv m.p.wlo,iv m.p.whi])(hc:w.cell? ⟨gb,0,none⟩=some (.slice A ms.length cap))(hh:hasP (psOf ms) s=true) :
  Cs 163 #[.string s,pT gx 0,pT gb 0] w (Rt w (.bool (!metB m.p (psOf ms) s))):=by
 obtain⟨hp1,hjl,yp,hy,_⟩:=posP_at hh;obtain⟨y0,hf,hf2⟩:=find_none_of hh;obtain⟨j,hj⟩:=ex (idxP (psOf ms) s);rw[hj]at hp1 hjl hy hf2;have hjl2:j<ms.length:=by simpa using hjl
 obtain⟨y,hym⟩:=gX (l:=ms) (i:=j) hjl2;have hyp:y0=y.p:=by rw[ps_at hym]at hf2;injection hf2 with hf2;exact hf2.symm
 have hmet:metB m.p (psOf ms) s=meetB m.p y.p:=by unfold metB;rw[hf,hyp]
 rw[hmet];obtain⟨b,off,rfl,_,_,d0,d1,d2,d3,d4,d5,d6⟩:=H.at hym;have hF:Cs 50 #[pT gb 0,.string s] w.drew (Rt w.drew (iv j)):=hp1▸find49_any _ ms B cap gb s w.drew hB hm (H.below (belowDr (bR w)) hB) (kC (belowDr (bR w)) hc);have HF:=Lq hF;have hM:=fun W=>meet146_any m y W
 obtain⟨⟨name,kind,first,last,on,wlo,whi⟩,Ao,ca⟩:=m;obtain⟨⟨yn,yk,yf,yl,yon,yw,yz⟩,yA,yc⟩:=y;simp only at d0 d1 d2 d3 d4 d5 d6 hM ⊢;obtain⟨bm,hbm⟩:=ex (meetB (HuP.mk name kind first last on wlo whi) (HuP.mk yn yk yf yl yon yw yz));rw[hbm]at hM ⊢;have HM:=Lq hM;have HS:Hid (∀W,BW w W→cA W gb 0 (.slice (some ⟨b,off,none⟩) ms.length cap)∧cA W gx 0 (.string name)∧cA W gx 1 (iv kind)∧cA W gx 2 (iv first)∧cA W gx 3 (iv last)∧cA W gx 4 (.slice Ao on.length ca)∧cA W gx 5 (iv wlo)∧cA W gx 6 (iv whi)∧cA W b (off+j*7) (.string yn)∧cA W b (off+j*7+1) (iv yk)∧cA W b (off+j*7+2) (iv yf)∧cA W b (off+j*7+3) (iv yl)∧cA W b (off+j*7+4) (.slice yA yon.length yc)∧cA W b (off+j*7+5) (iv yw)∧cA W b (off+j*7+6) (iv yz)):=Lq fun W hb=>have k:=hx.keep hb;⟨kC hb hc,k.c 0,k.c 1,k.c 2,k.c 3,k.c 4,k.c 5,k.c 6,kC hb d0,kC hb d1,kC hb d2,kC hb d3,kC hb d4,kC hb d5,kC hb d6⟩
 have hj0:(0:Int)≤(j:Int):=by omega
 have hm9:ms.length≤9223372036854775807:=by simp only[maxLen]at hm;omega
 clear hp1 hjl hy hf hf2 hj hym hyp hmet hF hM hbm H hx hc hh d0 d1 d2 d3 d4 d5 d6 hm;go_enter Tryz.func163,Tryz.ntmps163
 go_wp2_with fail;go_region_held3 (fun W=>cA W gb 0 (.slice (some ⟨b,off,none⟩) ms.length cap)∧cA W gx 0 (.string name)∧cA W gx 1 (iv kind)∧cA W gx 2 (iv first)∧cA W gx 3 (iv last)∧cA W gx 4 (.slice Ao on.length ca)∧cA W gx 5 (iv wlo)∧cA W gx 6 (iv whi)∧cA W b (off+j*7) (.string yn)∧cA W b (off+j*7+1) (iv yk)∧cA W b (off+j*7+2) (iv yf)∧cA W b (off+j*7+3) (iv yl)∧cA W b (off+j*7+4) (.slice yA yon.length yc)∧cA W b (off+j*7+5) (iv yw)∧cA W b (off+j*7+6) (iv yz)) (first | exact HS.out _ (bT (u0 hb5) hb7) | exact HS.out _ (u0 hb5) | exact HS.out _ (belowDr (bR _))) (first | (go_at_call 50;((with_reducible refine HF.out.mono ?_);rintro e w5 ⟨rfl,hb5⟩)) | (go_at_call 164;((with_reducible refine(HM.out _).mono ?_);rintro e w7 ⟨rfl,hb7⟩)))
 have HB7:=Lq (bT (u0 hb5) hb7);clear hb5 hb7;go_wp2_with fail;go_ret
 exact⟨rfl,HB7.out⟩
def DupTo(l:List ByteArray)(k:Nat):Prop:=∀j x,j<k→l[j]?=some x→oneOf (l.take j) x=false
theorem dupTo_all(l:List ByteArray):DupTo l l.length↔(l.map ByteArray.toList).Nodup:=by rw[nodup_iff];exact⟨fun h k x hk=>h k x (lG hk) hk,fun h j x _ hj=>h j x hj⟩
def DupPost(l:List ByteArray)(w:World)(e:Ending)(w':World):Prop:=∃b:Bool,e=.returned (.bool b)∧(b=false↔(l.map ByteArray.toList).Nodup)∧w'=w
theorem repeated144_any(A:Option Addr)(l:List ByteArray)(B cap:Nat)(w:World)(hl:l.length≤cap)(hcap:cap≤maxLen)(hR:Rd1 .string w B A l) :
  Cs 162 #[.slice A l.length cap] w (DupPost l w):=by
 have hc9:cap≤9223372036854775807:=by simp only[maxLen]at hcap;omega
 have HRR:=Lq hR;clear hR;go_enter Tryz.func162,Tryz.ntmps162
 go_wp2
 go_loop [7] (fun i=>∃k:Nat,k≤l.length∧i=iv k∧Hid (DupTo l k)) (fun i=>l.length-(intOf i).toNat)
 case atStart=>exact⟨0,Nat.zero_le _,rfl,Lq (fun j x h=>by omega)⟩
 case round =>
  obtain⟨k,hk,rfl,HN⟩:=hrel;have hk0:(0:Int)≤(k:Int):=by omega
  have hkc:(k:Int)≤(cap:Int):=by omega
  by_cases hlt:k<l.length
  ·obtain⟨x,hx⟩:=gX (l:=l) (i:=k) hlt;have hcall:=contains98_any A (l.take k) B cap x w (by rw[List.length_take];omega) (HRR.out.take k)
   have hle:(l.take k).length=k:=by rw[List.length_take];omega
   rw[hle]at hcall;obtain⟨b,off,rfl,_,hck⟩:=HRR.out k x hx;obtain⟨bb,hbb⟩:=ex (oneOf (l.take k) x);rw[hbb]at hcall;have HC:=Lq hcall;have HX:=Lq hx;have HBB:=Lq hbb;clear hx hcall hle hbb;cases bb
   ·go_wp2_with (go_at_call 102;refine HC.out.mono ?_;rintro e w' ⟨rfl,rfl⟩)
    go_round
    case rel =>
     refine⟨k+1,by omega,by go_num,Lq (fun j y hj hy=>?_)⟩
     rcases Nat.lt_or_ge j k with hjk | hjk
     ·exact HN.out j y hjk hy
     ·obtain rfl:j=k:=by omega
      rw[HX.out]at hy;injection hy with hy
      subst hy;exact HBB.out
    case measure=>simp[intOf];omega
   ·go_wp2_with (go_at_call 102;refine HC.out.mono ?_;rintro e w' ⟨rfl,rfl⟩)
    go_ret
    refine⟨true,rfl,⟨(fun h=>by cases h),fun h=>?_⟩,rfl⟩
    have:=(dupTo_all l).2 h k x hlt HX.out;rw[HBB.out]at this;cases this
  ·obtain rfl:k=l.length:=by omega
   go_wp2
   go_ret
   exact⟨false,rfl,⟨fun _=>(dupTo_all l).1 HN.out,fun _=>rfl⟩,rfl⟩
end Go.Proofs.YtigcophcpboanaaGreatDoor
