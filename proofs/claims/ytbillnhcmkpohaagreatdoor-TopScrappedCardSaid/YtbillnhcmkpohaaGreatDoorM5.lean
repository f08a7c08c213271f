/- The reference of layer 1: bare. The reference of layer 1: the region of changed that adds .. -/
import Derived.BigGuardPart
import Derived.Test.YtbillnhcmkpohaaGreatDoorM2
set_option maxRecDepth 1000000
set_option maxHeartbeats 0
namespace Go.Proofs.YtbillnhcmkpohaaGreatDoor
open Go.RowKit
structure ao where
 what:Int
 day:Int
 name:ByteArray
 part:aj
def ao.c(c:ao):bQ:=⟨c.what,c.day,c.name,c.part.p⟩
abbrev cV(c:ao):Value:=.agg #[iv c.what,iv c.day,.string c.name,.string c.part.p.name,iv c.part.p.kind,iv c.part.p.first,iv c.part.p.last,.slice c.part.A c.part.p.on.length c.part.cap,iv c.part.p.wlo,iv c.part.p.whi]
def ld(c:ao):List Value:=[iv c.what,iv c.day,.string c.name,.string c.part.p.name,iv c.part.p.kind,iv c.part.p.first,iv c.part.p.last,.slice c.part.A c.part.p.on.length c.part.cap,iv c.part.p.wlo,iv c.part.p.whi]
theorem Ch:∀c,(ld c).length=10:=fun _=>rfl
def fD(c:bQ):Bool:=(c.what==1&&c.name.toList.isEmpty)||(c.what==2&&jl c.part)||c.what==3
theorem Ci(c:ao)(w:World)(a:aR w w.heap.size c.part):Cs 16 #[cV c] w (Rt w (.bool (fD c.c))):=by
 obtain⟨f,day,k,⟨⟨d,b,first,last,on,h,g⟩,i,j⟩⟩:=c;have hon:on.length≤9223372036854775807:=by have:=a.le;have:=a.cm;simp only[maxLen]at *;omega
 clear a;go_enter Tryz.func16,Tryz.ntmps16
 go_wp2
 all_goals
  go_ret
  exact⟨aY (by simp_all [fD,jl,ao.c]),bA (bA (bR _) _) _⟩
section
variable{name:ByteArray}{Q:Exit→Act→World→Prop}{first kind last whi wlo:Int}{ca cap g3 n:Nat}{A Ao:Option Addr}{zB zK zL zM zN zO zP zC zV za zb zc zd ze zf zg zh zi zj zk zl zm zn zE zo zp zq zr zs zt zu zv zw zx zF zy zz zAA zAB zAC zAD zAE zAF zAG zAH zG zAI zAJ zAK zAL zAM zAN zAO zAP zAQ zAR zH zAS zAT zAU zAV zAW zAX zAY zAZ zAa zAb zI zAc zAd zAe zAf zAg zAh zAi zAj zAk zJ:Value}{V w:World}
theorem Cj{w':World}{L:List (Option fY)}(h:fq V w L)(a:BW w w'):fq V w' L :=
 ⟨bT h.1 a,lT h.2.1 a.size,fun i o b=>⟨aN (h.2.2 i o b).1 a,(h.2.2 i o b).2⟩⟩
noncomputable def tM:Array Oper:=aU (aF Tryz.f17 4)
abbrev tN(V:World)(Ao:Option Addr)(ca g3:Nat)(name:ByteArray)(kind first last wlo whi:Int)(on:List ByteArray):Prop:=∀W,BW V W→cA W g3 3 (.string name)∧cA W g3 4 (iv kind)∧cA W g3 5 (iv first)∧cA W g3 6 (iv last)∧cA W g3 7 (.slice Ao on.length ca)∧cA W g3 8 (iv wlo)∧cA W g3 9 (iv whi)
theorem qY{on:List ByteArray}{i:List Value}{l:Prop}{u:Value}{g:Nat}(z:n≤11)(f:fX V 7 (.slice A n cap) n i)(q:tN V Ao ca g3 name kind first last wlo whi on)(o:∀W,BW V W→Cs 14 #[.agg #[.string name,iv kind,iv first,iv last,.slice Ao on.length ca,iv wlo,iv whi],.slice A n cap,.slice A n cap] W (iP l W))(p:∀u15 u16 u17 u18 u19 u20 u21 u22 u23 u24 u25 u26 v r W',(r=0↔l)→fq V W' [some ⟨v,50,7,0+n+1,[]++i++[.string name,iv kind,iv first,iv last,.slice Ao on.length ca,iv wlo,iv whi]⟩,none,none,none]→Q .normal ⟨(((.slice A n cap)::zB::zC::(pT g3 0)::(v)::(iv r)::zG::zH::zI::zJ::zK::zL::zM::zN::zO::(u15)::(u16)::(u17)::(u18)::(u19)::(u20)::(u21)::(u22)::(u23)::(u24)::(u25)::(u26)::zb::zc::zd::ze::zf::zg::zh::zi::zj::zk::zl::zm::zn::zo::zp::zq::zr::zs::zt::zu::zv::zw::zx::zy::zz::zAA::zAB::zAC::zAD::zAE::zAF::zAG::zAH::zAI::zAJ::zAK::zAL::zAM::zAN::zAO::zAP::zAQ::zAR::zAS::zAT::zAU::zAV::zAW::zAX::zAY::zAZ::zAa::zAb::zAc::zAd::zAe::zAf::zAg::zAh::zAi::zAj::zAk::[]:List Value).toArray),[]⟩ W')(m:fq V w [some ⟨u,50,7,0+n,[]++i⟩,some ⟨.slice (some ⟨g,0,none⟩) 1 1,50,7,1,[.string name,iv kind,iv first,iv last,.slice Ao on.length ca,iv wlo,iv whi]⟩,none,none]) :
   wpAnyH Tryz.prog .any tM (NoPanic Q) (fun W=>cA W g3 3 (.string name)∧cA W g3 4 (iv kind)∧cA W g3 5 (iv first)∧cA W g3 6 (iv last)∧cA W g3 7 (.slice Ao on.length ca)∧cA W g3 8 (iv wlo)∧cA W g3 9 (iv whi)) 4 #[true,true,true,true,true,true,false,true,true,true,true,false,false,false] ⟨(((.slice A n cap)::zB::zC::(pT g3 0)::zE::zF::zG::zH::zI::zJ::zK::zL::zM::zN::zO::zP::(.slice A n cap)::(u)::(pT g3 3)::(.agg #[.string name,iv kind,iv first,iv last,.slice Ao on.length ca,iv wlo,iv whi])::(.slice (some ⟨g,0,none⟩) 1 1)::zV::(pT g3 3)::(.agg #[.string name,iv kind,iv first,iv last,.slice Ao on.length ca,iv wlo,iv whi])::(.slice A n cap)::(.slice A n cap)::za::zb::zc::zd::ze::zf::zg::zh::zi::zj::zk::zl::zm::zn::zo::zp::zq::zr::zs::zt::zu::zv::zw::zx::zy::zz::zAA::zAB::zAC::zAD::zAE::zAF::zAG::zAH::zAI::zAJ::zAK::zAL::zAM::zAN::zAO::zAP::zAQ::zAR::zAS::zAT::zAU::zAV::zAW::zAX::zAY::zAZ::zAa::zAb::zAc::zAd::zAe::zAf::zAg::zAh::zAi::zAj::zAk::[]:List Value).toArray),[]⟩ w:=by
  obtain⟨j,h,b,c,d⟩:=info_parts Tryz.info50;have HS:=Lq q;have HP:=Lq o;have HQ:=Lq p;have L1:=Lq m;have _u:=f;clear q o p m f _u;refine rd1 6 fun x hK=>?_
  refine mL (by rfl) _ _ 22 (by rfl) L1.out 0 _ rfl j _ 80 Tryz.underlying22 h b c d rfl (Nat.succ_pos _) (by rfl) (.slice (some ⟨g,0,none⟩) 1 1) 1 _ (by rfl) (BU L1.out.2 (k:=1) rfl (by simp[Value.oneCell'])) (by simp only[];unfold maxLen;omega) (by simp only[];omega) ?_
  intro y B a;have L3:=Lq (BX a 1);refine hK.out _ _ (HS.out _ a.1) (fun hHeld=>?_)
  clear hK a L1;refine rd1 11 fun x hK=>?_
  go_simp;refine(HP.out _ L3.out.1).mono ?_;rintro e C ⟨r,rfl,t,s⟩;have HR:=Lq t;have L4:=Lq (Cj L3.out s);clear t s L3;refine hK.out _ _ (HS.out _ L4.out.1) (fun hHeld=>?_)
  clear hK;refine tk 12 y ?_;refine tk 13 (iv r) ?_;exact dn (HQ.out _ _ _ _ _ _ _ _ _ _ _ _ _ _ _ HR.out L4.out)
theorem Ck{on:List ByteArray}{y:List Value}{B:Prop}{G H I J K L M N O:Value}(x:n≤11)(s:fX V 7 (.slice A n cap) n y)(u:tN V Ao ca g3 name kind first last wlo whi on)(D:∀W,BW V W→Cs 14 #[.agg #[.string name,iv kind,iv first,iv last,.slice Ao on.length ca,iv wlo,iv whi],.slice A n cap,.slice A n cap] W (iP B W))(E:∀u15 u16 u17 u18 u19 u20 u21 u22 u23 u24 u25 u26 v r W',(r=0↔B)→fq V W' [some ⟨v,50,7,0+n+1,[]++y++[.string name,iv kind,iv first,iv last,.slice Ao on.length ca,iv wlo,iv whi]⟩,none,none,none]→Q .normal ⟨(((.slice A n cap)::zB::zC::(pT g3 0)::(v)::(iv r)::zG::zH::zI::zJ::zK::zL::zM::zN::zO::(u15)::(u16)::(u17)::(u18)::(u19)::(u20)::(u21)::(u22)::(u23)::(u24)::(u25)::(u26)::zb::zc::zd::ze::zf::zg::zh::zi::zj::zk::zl::zm::zn::zo::zp::zq::zr::zs::zt::zu::zv::zw::zx::zy::zz::zAA::zAB::zAC::zAD::zAE::zAF::zAG::zAH::zAI::zAJ::zAK::zAL::zAM::zAN::zAO::zAP::zAQ::zAR::zAS::zAT::zAU::zAV::zAW::zAX::zAY::zAZ::zAa::zAb::zAc::zAd::zAe::zAf::zAg::zAh::zAi::zAj::zAk::[]:List Value).toArray),[]⟩ W') :
  (aF Tryz.f17 4).wp Tryz.prog Q ⟨(((.slice A n cap)::zB::zC::(pT g3 0)::zE::zF::zG::zH::zI::zJ::zK::zL::zM::zN::zO::zP::G::H::I::J::K::zV::L::M::N::O::za::zb::zc::zd::ze::zf::zg::zh::zi::zj::zk::zl::zm::zn::zo::zp::zq::zr::zs::zt::zu::zv::zw::zx::zy::zz::zAA::zAB::zAC::zAD::zAE::zAF::zAG::zAH::zAI::zAJ::zAK::zAL::zAM::zAN::zAO::zAP::zAQ::zAR::zAS::zAT::zAU::zAV::zAW::zAX::zAY::zAZ::zAa::zAb::zAc::zAd::zAe::zAf::zAg::zAh::zAi::zAj::zAk::[]:List Value).toArray),[]⟩ V:=by
 obtain⟨p,i,d,f,g⟩:=info_parts Tryz.info50;have HS:=Lq u;have H1:=Lq s;have HP:=Lq D;have HQ:=Lq E;clear E D s;refine gd (ops:=tM) (r:=4) (n:=14) u fun V0 HB0 hHeld=>?_
 clear u;have z:Hid (fq V V0 [none,none,none,none]):=Lq ⟨HB0.out,qQ HB0.out.size⟩;refine tk 1 (.slice A n cap) ?_;refine tk 3 (pT g3 3) ?_;refine tk 4 (.agg #[.string name,iv kind,iv first,iv last,.slice Ao on.length ca,iv wlo,iv whi]) ?_;refine tk 7 (pT g3 3) ?_;refine tk 8 (.agg #[.string name,iv kind,iv first,iv last,.slice Ao on.length ca,iv wlo,iv whi]) ?_;refine tk 9 (.slice A n cap) ?_;refine tk 10 (.slice A n cap) ?_;refine gZ 0 5 (fun k hK=>?_) fun k hK=>?_
 ·skip;go_simp;have j:=Lq (mK z.out 0 #[] 50 7 0 (by simp[maxLen]) rfl)
  obtain⟨q,b⟩:=ex (V0.alloc (.cells #[] 50));obtain⟨nV1,hnV1⟩:=ex V0.heap.size;rw[b,hnV1]at j;rw[b,hnV1];refine hK.out _ _ (HS.out _ j.out.1) (fun hHeld=>?_)
  clear hK b hnV1;refine gZ 2 5 (fun k hK=>?_) fun k hK=>?_
  ·skip;refine mL (by rfl) _ _ 22 (by rfl) j.out 0 _ rfl p _ 80 Tryz.underlying22 i d f g rfl (Nat.succ_pos _) (by rfl) (.slice A n cap) n _ (by rfl) (nS j.out H1.out) (by simp only[];unfold maxLen;omega) (by simp only[];omega) ?_
   intro F t m;have h:=Lq m;refine hK.out _ _ (HS.out _ m.1) (fun hHeld=>?_)
   clear hK m;refine rd1 5 fun k hK=>?_
   go_simp;have l:=Lq (mK h.out 1 #[.string name,iv kind,iv first,iv last,.slice Ao on.length ca,iv wlo,iv whi] 50 7 1 (by simp[maxLen]) rfl)
   obtain⟨C,o⟩:=ex (t.alloc (.cells #[.string name,iv kind,iv first,iv last,.slice Ao on.length ca,iv wlo,iv whi] 50));obtain⟨nV3,hnV3⟩:=ex t.heap.size;rw[o,hnV3]at l;rw[o,hnV3];refine hK.out _ _ (HS.out _ l.out.1) (fun hHeld=>?_)
   clear hK o hnV3;exact qY x H1.out HS.out HP.out HQ.out l.out
  ·skip;go_simp;have h:=Lq (mK j.out 1 #[.string name,iv kind,iv first,iv last,.slice Ao on.length ca,iv wlo,iv whi] 50 7 1 (by simp[maxLen]) rfl)
   obtain⟨t,c⟩:=ex (q.alloc (.cells #[.string name,iv kind,iv first,iv last,.slice Ao on.length ca,iv wlo,iv whi] 50));obtain⟨nV2,hnV2⟩:=ex q.heap.size;rw[c,hnV2]at h;rw[c,hnV2];refine hK.out _ _ (HS.out _ h.out.1) (fun hHeld=>?_)
   clear hK c hnV2;refine rd1 2 fun k hK=>?_
   refine mL (by rfl) _ _ 22 (by rfl) h.out 0 _ rfl p _ 80 Tryz.underlying22 i d f g rfl (Nat.succ_pos _) (by rfl) (.slice A n cap) n _ (by rfl) (nS h.out H1.out) (by simp only[];unfold maxLen;omega) (by simp only[];omega) ?_
   intro F C a;have l:=Lq a;refine hK.out _ _ (HS.out _ a.1) (fun hHeld=>?_)
   clear hK a;exact qY x H1.out HS.out HP.out HQ.out l.out
 ·skip;go_simp;have j:=Lq (mK z.out 1 #[.string name,iv kind,iv first,iv last,.slice Ao on.length ca,iv wlo,iv whi] 50 7 1 (by simp[maxLen]) rfl)
  obtain⟨q,b⟩:=ex (V0.alloc (.cells #[.string name,iv kind,iv first,iv last,.slice Ao on.length ca,iv wlo,iv whi] 50));obtain⟨nV1,hnV1⟩:=ex V0.heap.size;rw[b,hnV1]at j;rw[b,hnV1];refine hK.out _ _ (HS.out _ j.out.1) (fun hHeld=>?_)
  clear hK b hnV1;refine rd1 0 fun k hK=>?_
  go_simp;have h:=Lq (mK j.out 0 #[] 50 7 0 (by simp[maxLen]) rfl)
  obtain⟨t,c⟩:=ex (q.alloc (.cells #[] 50));obtain⟨nV2,hnV2⟩:=ex q.heap.size;rw[c,hnV2]at h;rw[c,hnV2];refine hK.out _ _ (HS.out _ h.out.1) (fun hHeld=>?_)
  clear hK c hnV2;refine rd1 2 fun k hK=>?_
  refine mL (by rfl) _ _ 22 (by rfl) h.out 0 _ rfl p _ 80 Tryz.underlying22 i d f g rfl (Nat.succ_pos _) (by rfl) (.slice A n cap) n _ (by rfl) (nS h.out H1.out) (by simp only[];unfold maxLen;omega) (by simp only[];omega) ?_
  intro F C a;have l:=Lq a;refine hK.out _ _ (HS.out _ a.1) (fun hHeld=>?_)
  clear hK a;exact qY x H1.out HS.out HP.out HQ.out l.out
end
section
variable{ms:List aj}
def nX(ms:List aj)(c:ao)(w:World)(e:Ending)(w':World):Prop:=∃(r:Int) (v:Value),e=.returned (.tuple #[v,iv r])∧BW w w'∧(r≠0→bL (ab ms) c.c=none)∧(r=0→∃out A cap,v=.slice A out.length cap∧bL (ab ms) c.c=some (ab out)∧az w' w'.heap.size A cap out)
theorem pi{c:ao}{w w':World}{r:Int}{v:Value}(a:r≠0)(h:bL (ab ms) c.c=none)(b:BW w w'):nX ms c w (.returned (.tuple #[v,iv r])) w':=⟨r,v,rfl,b,fun _=>h,fun h1=>absurd h1 a⟩
theorem mO(w:World)(c:ao):∃W1,w.alloc (.cells #[iv c.what,iv c.day,.string c.name,.string c.part.p.name,iv c.part.p.kind,iv c.part.p.first,iv c.part.p.last,.slice c.part.A c.part.p.on.length c.part.cap,iv c.part.p.wlo,iv c.part.p.whi] 68)=W1∧BW w W1∧W1.heap.size=w.heap.size+1∧aa W1 w.heap.size 68 #[iv c.what,iv c.day,.string c.name,.string c.part.p.name,iv c.part.p.kind,iv c.part.p.first,iv c.part.p.last,.slice c.part.A c.part.p.on.length c.part.cap,iv c.part.p.wlo,iv c.part.p.whi] :=
 ⟨_,rfl,bA (bR _) _,by simp,aa.new w 68 _⟩
theorem pj{l:List ah}{c:bQ}(a:c.what=1)(h:¬(l.length<12∧cQ c.part l l)):bL l c=none:=by unfold bL;rw[if_pos a,if_neg (fun b=>h b.2)]
theorem qZ{l:List ah}{c:bQ}(a:c.what=1)(h:c.name.toList.isEmpty=true)(b:l.length<12)(d:cQ c.part l l):bL l c=some (l++[c.part]):=by unfold bL;rw[if_pos a,if_pos ⟨h,b,d⟩]
theorem pm{l:List ah}{c:bQ}(a:c.what=2)(h:¬(hasP l c.name=true∧∀q∈l,standsB q c.name=false)):bL l c=none:=by unfold bL;rw[if_neg (by omega),if_pos a,if_neg (fun b=>h b.2)]
theorem tO{l:List ah}{c:bQ}(a:c.what=2)(h:jl c.part=true)(b:hasP l c.name=true)(d:∀q∈l,standsB q c.name=false):bL l c=some (l.eraseIdx (aL l c.name)):=by unfold bL;rw[if_neg (by omega),if_pos a,if_pos ⟨h,b,d⟩]
theorem mP{l:List ah}{c:bQ}(a:c.what=3)(h:¬(hasP l c.name=true∧cQ c.part (l.take (aL l c.name)) (l.eraseIdx (aL l c.name))∧∀q∈l.drop (aL l c.name+1),standsB q c.name=true→dN q c.part=true)):bL l c=none:=by unfold bL;rw[if_neg (by omega),if_neg (by omega),if_pos a,if_neg h]
theorem rg{l:List ah}{c:bQ}(a:c.what=3)(b:hasP l c.name=true)(d:cQ c.part (l.take (aL l c.name)) (l.eraseIdx (aL l c.name)))(f:∀q∈l.drop (aL l c.name+1),standsB q c.name=true→dN q c.part=true):bL l c=some (cB l (aL l c.name) c.name c.part):=by unfold bL;rw[if_neg (by omega),if_neg (by omega),if_pos a,if_pos ⟨b,d,f⟩]
theorem rh(ms:List aj)(i:Nat):ab (ms.eraseIdx i)=(ab ms).eraseIdx i:=by simp only[ab,List.eraseIdx_eq_take_drop_succ,List.map_append,List.map_take,List.map_drop]
theorem lh(ms:List aj)(i:Nat):ab (ms.take i)=(ab ms).take i:=by simp only[ab,List.map_take]
theorem rj(h:aE (ab ms)):∀b∈ms,b.p.first≤b.p.last:=by intro b a;obtain⟨i,hi⟩:=List.mem_iff_getElem?.1 a;exact(h.part i _ (bN hi)).fr.2.1
theorem Cl(A:Option Addr)(ms:List aj)(c:ao)(B cap:Nat)(w:World)(F:B≤w.heap.size)(H:az w B A cap ms)(I:aR w B c.part)(l:aE (ab ms))(x:c.what=1)(t:fD c.c=true) :
  Cs 17 #[.slice A ms.length cap,cV c] w (nX ms c w):=by
 have u:c.name.toList.isEmpty=true:=by have:=t;unfold fD at this;simp only[ao.c,x]at this;simpa using this
 have J:ms.length≤12:=by have:=l.len;simpa using this
 obtain⟨o,T,j,y,g⟩:=mO w c;have HH:=Lq (H.below j F);have HM:=Lq (I.below j F);have HB1:=Lq j;have hBW1:B≤o.heap.size:=by omega
 have C:=Lq l;have hmax:=H.max;have hle:=H.le;have hl9:ms.length≤9223372036854775807:=by omega
 clear H I j l;obtain⟨z,day,X,⟨⟨b,a,first,last,on,f,d⟩,m,n⟩⟩:=c;obtain rfl:z=1:=x;obtain⟨g3,hg3⟩:=ex w.heap.size;rw[hg3]at g;have HX:Hid (∀W,BW o W→aa W g3 68 #[iv 1,iv day,.string X,.string b,iv a,iv first,iv last,.slice m on.length n,iv f,iv d]):=Lq fun W hb=>g.keep hb
 have O:=Lq y;obtain⟨q0,q1,q2,q3,q4,q5,q6,q7,q8,q9⟩:=g.c10;have hgw:=g.lt;clear g y;have HNM:=Lq u;clear u t;by_cases hlen:12≤ms.length
 ·go_enter Tryz.func17,Tryz.ntmps17
  go_wp2_with fail
  go_ret2
  exact pi (by decide) (pj rfl (fun h=>by have:=h.1;simp at this;omega)) HB1.out
 ·have E:¬(ms.length:Int)≥12:=by omega
  have D:Hid (∀W,BW o W→cA W g3 3 (.string b)∧cA W g3 4 (iv a)∧cA W g3 5 (iv first)∧cA W g3 6 (iv last)∧cA W g3 7 (.slice m on.length n)∧cA W g3 8 (iv f)∧cA W g3 9 (iv d)):=Lq fun W hb=>have k:=HX.out W hb;⟨k.c 3,k.c 4,k.c 5,k.c 6,k.c 7,k.c 8,k.c 9⟩
  have N:=Lq ((HH.out.row hBW1).low cH nU (p:=ms.length) (lr _));have HP:Hid (∀W,BW o W→Cs 14 #[.agg #[.string b,iv a,iv first,iv last,.slice m on.length n,iv f,iv d],.slice A ms.length cap,.slice A ms.length cap] W (iP (cQ ⟨b,a,first,last,on,f,d⟩ (ab ms) (ab ms)) W)):=Lq fun W hb=>qP ⟨⟨b,a,first,last,on,f,d⟩,m,n⟩ ms ms A A B cap cap W (lT hBW1 hb.size) (HM.out.below hb hBW1) (HH.out.rd.below hb hBW1) (HH.out.rd.below hb hBW1) hle hmax (lT hle hmax) (rj C.out)
  go_enter Tryz.func17,Tryz.ntmps17
  go_wp2_with fail;go_upto_region 4 with fail
  refine Ck (by omega) (by simpa using N.out) D.out HP.out ?_
  intro Y Z ac ad ae af ag ah ai ak al am v r R K G;have HR:=Lq K;have L:=Lq G;clear K G q0 q1 q2 q3 q4 q5 q6 q7 q8 q9;go_wp2_with fail
  go_ret2
  refine⟨r,v,rfl,bT HB1.out L.out.1,fun h=>?_,fun h=>?_⟩
  ·exact pj rfl (fun S=>h (HR.out.2 S.2))
  ·have U:=pd L.out.2 (i:=0) rfl;have ho2:R.ownsRow o.heap.size 50 7 v (ms.length+1) ((ms++[aj.mk ⟨b,a,first,last,on,f,d⟩ m n]).flatMap aJ):=by simpa[List.flatMap_append,aJ]using U
   obtain⟨M,s,rfl,V⟩:=az.of_own (ms:=ms++[⟨⟨b,a,first,last,on,f,d⟩,m,n⟩]) ho2 (by simp) (fun q g=>by
    rcases List.mem_append.1 g with g | g
    ·exact((HH.out.rd.ok q g).below L.out.1 hBW1).more (lT hBW1 L.out.1.size)
    ·obtain rfl:=List.mem_singleton.1 g;exact(HM.out.below L.out.1 hBW1).more (lT hBW1 L.out.1.size))
   refine⟨_,M,s,rfl, ?_,V⟩;rw[qZ rfl HNM.out (by simp;omega) (HR.out.1 h),nV];rfl
theorem Cm(A:Option Addr)(ms:List aj)(c:ao)(B cap:Nat)(w:World)(J:B≤w.heap.size)(H:az w B A cap ms)(K:aR w B c.part)(F:c.name.size≤maxLen)(k:aE (ab ms))(v:c.what=2)(t:fD c.c=true) :
  Cs 17 #[.slice A ms.length cap,cV c] w (nX ms c w):=by
 have s:jl c.part.p=true:=by have:=t;unfold fD at this;simp only[ao.c,v]at this;simpa using this
 have Z:=F;have hn12:ms.length≤12:=by have:=k.len;simpa using this
 obtain⟨b,T,d,x,m⟩:=mO w c;have HH:=Lq (H.below d J);have HM:=Lq (K.below d J);have HB1:=Lq d;have hBW1:B≤b.heap.size:=by omega
 have N:=Lq k;have hmax:=H.max;have hle:=H.le;have hl9:ms.length≤9223372036854775807:=by omega
 clear H K d k;obtain⟨C,day,f,⟨⟨z,y,first,last,on,I,G⟩,M,S⟩⟩:=c;obtain rfl:C=2:=v;obtain⟨g3,hg3⟩:=ex w.heap.size;rw[hg3]at m;have HX:Hid (∀W,BW b W→aa W g3 68 #[iv 2,iv day,.string f,.string z,iv y,iv first,iv last,.slice M on.length S,iv I,iv G]):=Lq fun W hb=>m.keep hb
 have O:=Lq x;obtain⟨q0,q1,q2,q3,q4,q5,q6,q7,q8,q9⟩:=m.c10;have hgw:=m.lt;clear m x;have HBP:=Lq s;have hF:=fun W (hb:BW b W)=>nQ A ms B cap f W (lT hle hmax) (HH.out.rd.below hb hBW1)
 have E:=fun W (hb:BW b W)=>BN A ms B cap f W (lT hle hmax) (HH.out.rd.below hb hBW1)
 clear s t;obtain⟨R,a⟩:=ex (hasP (ab ms) f);have HBH:=Lq a;cases R
 ·rw[kY a]at hF;have D:Hid (∀W,BW b W→Cs 33 #[.slice A ms.length cap,.string f] W fun e w'=>e=.returned (iv (-1))∧W=w'):=Lq hF
  clear hF E a;go_enter Tryz.func17,Tryz.ntmps17
  go_wp2_with (go_at_call 33;((with_reducible refine(D.out _ (bR _)).mono ?_);rintro e w' ⟨rfl,rfl⟩))
  go_ret2
  exact pi (by decide) (pm rfl (fun h=>by have:=h.1;simp only[ao.c]at this;rw[HBH.out]at this;cases this)) HB1.out
 ·obtain⟨l,j,yp,X,_⟩:=fU a;obtain⟨i,hi⟩:=ex (aL (ab ms) f);rw[hi]at l j;rw[l]at hF;have hil2:i<ms.length:=by simpa using j
  have U:=nn i;have HI:=Lq hi;have D:Hid (∀W,BW b W→Cs 33 #[.slice A ms.length cap,.string f] W fun e w'=>e=.returned (iv i)∧W=w'):=Lq hF
  obtain⟨bs,g⟩:=ex (nR (ab ms) f);rw[g]at E;have HS:Hid (∀W,BW b W→Cs 37 #[.slice A ms.length cap,.string f] W fun e w'=>e=.returned (.bool bs)∧W=w'):=Lq E
  have n:=Lq g;have HW:Hid (Cs 38 #[.slice A ms.length cap,iv i] b (jJ (ms.eraseIdx i) b)):=Lq (tK A ms B cap i b hBW1 HH.out hn12 hil2);clear hF E a g l X hi j;cases bs
  ·go_enter Tryz.func17,Tryz.ntmps17
   go_wp2_with (first | (go_at_call 33;((with_reducible refine(D.out _ (bR _)).mono ?_);rintro e w' ⟨rfl,rfl⟩)) | (go_at_call 37;((with_reducible refine(HS.out _ (bR _)).mono ?_);rintro e w' ⟨rfl,rfl⟩)))
   refine HW.out.mono ?_;rintro e w5 ⟨Y,rfl,u,r⟩;have HO5:=Lq u;have HB5:=Lq r;clear u r q0 q1 q2 q3 q4 q5 q6 q7 q8 q9;go_wp2_with fail
   go_ret2
   refine⟨0,Y,rfl,bT HB1.out HB5.out,fun h=>absurd rfl h,fun _=>?_⟩
   obtain⟨L,o,rfl,V⟩:=az.of_own HO5.out rfl (fun q m=>((HH.out.rd.ok q (List.mem_of_mem_eraseIdx m)).below HB5.out hBW1).more (lT hBW1 HB5.out.size))
   refine⟨_,L,o,rfl, ?_,V⟩;rw[tO rfl HBP.out HBH.out (qM.1 n.out),rh,←HI.out];rfl
  ·go_enter Tryz.func17,Tryz.ntmps17
   go_wp2_with (first | (go_at_call 33;((with_reducible refine(D.out _ (bR _)).mono ?_);rintro e w' ⟨rfl,rfl⟩)) | (go_at_call 37;((with_reducible refine(HS.out _ (bR _)).mono ?_);rintro e w' ⟨rfl,rfl⟩)))
   go_ret2
   exact pi (by decide) (pm rfl (fun h=>by have:=qM.2 h.2;simp only[ao.c]at this;rw[n.out]at this;cases this)) HB1.out
end
theorem Cn{l:List ah}{k:Nat}{s t:ByteArray}{x:ah}(h:s.toList=t.toList):cB l k s x=cB l k t x:=by rw[toList_inj h]
theorem Co(A:Option Addr)(ms:List aj)(c:ao)(B cap:Nat)(w:World)(hB:B≤w.heap.size)(H:az w B A cap ms)(hM:aR w B c.part)(ap:c.name.size≤maxLen)(V:aE (ab ms))(ar:c.what=3) :
  Cs 17 #[.slice A ms.length cap,cV c] w (nX ms c w):=by
 have _u:=ap;have hn12:ms.length≤12:=by have:=V.len;simpa using this
 obtain⟨G,av,M,al,o⟩:=mO w c;have HH:=Lq (H.below M hB);have HM:=Lq (hM.below M hB);have HB1:=Lq M;have hBW1:B≤G.heap.size:=by omega
 have ae:=Lq V;have hmax:=H.max;have hle:=H.le;have hl9:ms.length≤9223372036854775807:=by omega
 clear H hM M V;obtain⟨am,day,v,⟨⟨g,f,first,last,on,n,m⟩,E,F⟩⟩:=c;obtain rfl:am=3:=ar;obtain⟨g3,hg3⟩:=ex w.heap.size;rw[hg3]at o;have HX:Hid (∀W,BW G W→aa W g3 68 #[iv 3,iv day,.string v,.string g,iv f,iv first,iv last,.slice E on.length F,iv n,iv m]):=Lq fun W hb=>o.keep hb
 have au:=Lq al;obtain⟨q0,q1,q2,q3,q4,q5,q6,q7,q8,q9⟩:=o.c10;have hgw:=o.lt;clear o al;have HSS:Hid (∀W,BW G W→cA W g3 3 (.string g)∧cA W g3 4 (iv f)∧cA W g3 5 (iv first)∧cA W g3 6 (iv last)∧cA W g3 7 (.slice E on.length F)∧cA W g3 8 (iv n)∧cA W g3 9 (iv m)):=Lq fun W hb=>have k:=HX.out W hb;⟨k.c 3,k.c 4,k.c 5,k.c 6,k.c 7,k.c 8,k.c 9⟩
 have Z:=fun W (hb:BW G W)=>nQ A ms B cap v W (lT hle hmax) (HH.out.rd.below hb hBW1)
 obtain⟨bh,I⟩:=ex (hasP (ab ms) v);have HBH:=Lq I;cases bh
 ·rw[kY I]at Z;have HF:Hid (∀W,BW G W→Cs 33 #[.slice A ms.length cap,.string v] W fun e w'=>e=.returned (iv (-1))∧W=w'):=Lq Z
  clear Z I;go_enter Tryz.func17,Tryz.ntmps17
  go_wp2_with (go_at_call 33;((with_reducible refine(HF.out _ (bR _)).mono ?_);rintro e w' ⟨rfl,rfl⟩))
  go_ret2
  exact pi (by decide) (mP rfl (fun h=>by have:=h.1;simp only[ao.c]at this;rw[HBH.out]at this;cases this)) HB1.out
 ·obtain⟨X,T,yp,K,ak⟩:=fU I;obtain⟨p,hp⟩:=ex (aL (ab ms) v);rw[hp]at X T K;rw[X]at Z;have hp2:p<ms.length:=by simpa using T
  have ax:=nn p;have hpc:(p:Int)≤(cap:Int):=by omega
  obtain⟨O,J⟩:=gX (l:=ms) (i:=p) hp2;have hon:O.p.name.toList=v.toList:=by rw[bN J]at K;injection K with K;rw[K];exact ak
  have ad:Hid (cB (ab ms) p O.p.name (ah.mk g f first last on n m)=cB (ab ms) p v (ah.mk g f first last on n m)):=Lq (Cn hon);have HI:=Lq hp;have HF:Hid (∀W,BW G W→Cs 33 #[.slice A ms.length cap,.string v] W fun e w'=>e=.returned (iv p)∧W=w'):=Lq Z
  have HW:Hid (∀W,BW G W→Cs 38 #[.slice A ms.length cap,iv p] W (jJ (ms.eraseIdx p) W)):=Lq fun W hb=>tK A ms B cap p W (lT hBW1 hb.size) (HH.out.below hb hBW1) hn12 hp2
  have ac:Hid (∀W,BW G W→∀q∈ms.eraseIdx p,aR W W.heap.size q):=Lq fun W hb q o=>((HH.out.rd.ok q (List.mem_of_mem_eraseIdx o)).below hb hBW1).more (lT hBW1 hb.size)
  have af:Hid (∀W A5 c5,BW G W→az W W.heap.size A5 c5 (ms.eraseIdx p)→Cs 14 #[.agg #[.string g,iv f,iv first,iv last,.slice E on.length F,iv n,iv m],.slice A p cap,.slice A5 (ms.eraseIdx p).length c5] W (iP (cQ (ah.mk g f first last on n m) ((ab ms).take p) ((ab ms).eraseIdx p)) W)):=Lq fun W A5 c5 hb hs=>by
   have U:(ms.take p).length=p:=by rw[List.length_take];omega
   have ai:=qP ⟨⟨g,f,first,last,on,n,m⟩,E,F⟩ (ms.take p) (ms.eraseIdx p) A A5 W.heap.size cap c5 W (lr _) ((HM.out.below hb hBW1).more (lT hBW1 hb.size)) (((HH.out.rd.below hb hBW1).more (lT hBW1 hb.size)).take p) hs.rd (by omega) hmax (lT hs.le hs.max) (fun q o=>rj ae.out q (List.mem_of_mem_take o))
   rw[U,lh,rh]at ai;exact ai
  have ag:Hid (∀W,BW G W→Cs 39 #[.slice A ms.length cap,iv p,.agg #[.string g,iv f,iv first,iv last,.slice E on.length F,iv n,iv m]] W fun e w'=>∃D:List aj,ab D=cB (ab ms) p O.p.name (ah.mk g f first last on n m)∧(∀q∈D,fd w' q)∧jJ D W e w'):=Lq fun W hb=>Cg A ms ⟨⟨g,f,first,last,on,n,m⟩,E,F⟩ B cap p O W (lT hBW1 hb.size) (HH.out.below hb hBW1) (HM.out.below hb hBW1) hn12 J
  have aw:(ms.eraseIdx p).length≤9223372036854775807:=lT (List.length_eraseIdx_le _ _) hl9;clear Z I X K ak hp T J hon;go_enter Tryz.func17,Tryz.ntmps17
  go_wp2_with (go_at_call 33;((with_reducible refine(HF.out _ (bR _)).mono ?_);rintro e w' ⟨rfl,rfl⟩))
  go_region_held3 (fun W=>cA W g3 3 (.string g)∧cA W g3 4 (iv f)∧cA W g3 5 (iv first)∧cA W g3 6 (iv last)∧cA W g3 7 (.slice E on.length F)∧cA W g3 8 (iv n)∧cA W g3 9 (iv m)) (first | exact HSS.out _ (bT (u0 hb5) hb6) | exact HSS.out _ (u0 hb5) | exact HSS.out _ (aZ (bR _))) (first | (go_at_call 38;((with_reducible refine(HW.out _ (aZ (bR _))).mono ?_);rintro e w5 ⟨v5,rfl,ho5,hb5⟩;obtain⟨A5,c5,rfl,hs5⟩:=az.of_own ho5 rfl (ac.out _ (u0 hb5)))) | (go_at_call 14;((with_reducible refine(af.out _ _ _ (u0 hb5) hs5).mono ?_);rintro e w6 ⟨r,rfl,hr,hb6⟩)))
  have an:=Lq (bT (u0 hb5) hb6);have HR:=Lq hr;clear hb5 hb6 hr hs5 ho5 q0 q1 q2 q3 q4 q5 q6 q7 q8 q9 HW af ac HF;go_wp2_with fail;go_loopw [7,8] (fun e j wr=>∃(k:Nat) (r:Int),p+1≤k∧k≤ms.length∧e=iv r∧j=iv k∧Hid (r=0↔cQ (ah.mk g f first last on n m) ((ab ms).take p) ((ab ms).eraseIdx p)∧∀d q,d<k→p<d→(ab ms)[d]?=some q→standsB q v=true→dN q (ah.mk g f first last on n m)=true)∧Hid (BW G wr)) (fun _ j _=>ms.length-(intOf j).toNat)
  case atStart=>exact⟨p+1,r,by omega,by omega,rfl,by go_num,Lq ⟨fun h=>⟨HR.out.1 h,fun d q h1 h2=>by omega⟩,fun h=>HR.out.2 h.1⟩,an⟩
  case round =>
   obtain⟨k,r,ay,hk,rfl,rfl,C,u⟩:=hrel;have hk0:=nn k;have hbx:=HX.out _ u.out;have q2:=hbx.c 2;obtain⟨q3,q4,q5,q6,q7,q8,q9⟩:_∧_∧_∧_∧_∧_∧_:=⟨hbx.c 3,hbx.c 4,hbx.c 5,hbx.c 6,hbx.c 7,hbx.c 8,hbx.c 9⟩;have hgw:=hbx.lt;clear hbx;by_cases U:k<ms.length
   ·by_cases hr0:r=0
    ·subst hr0;obtain⟨y,K⟩:=gX (l:=ms) (i:=k) U;obtain⟨b,off,hA,hbB,hMy,c0,c1,c2,c3,c4,c5,c6⟩:=(HH.out.rd.below u.out hBW1).at K;have hyf:=rj ae.out y (mG ⟨k,K⟩);have HREL0:=Lq (C.out.1 rfl);have hpo:=HREL0.out.1;have HYI:=Lq K;have hPl:=fun W (hb:BW wr W)=>tC y.A y.p.on B y.cap v W (lT hMy.le hMy.cm) (hMy.on.below hb (lT hBW1 u.out.size))
     have L:=fun W=>tA y ⟨⟨g,f,first,last,on,n,m⟩,E,F⟩ W
     have N:=tz (a:=y.p) (b:=(ah.mk g f first last on n m)) hyf hpo.fr.2.1;obtain⟨⟨yn,yk,yf,yl,yon,yw,yz⟩,yA,yc⟩:=y;subst hA;simp only at c0 c1 c2 c3 c4 c5 c6 hPl L N;obtain⟨rp,hrp⟩:=ex (kZ yon v);rw[hrp]at hPl;have hneg:=tB (l:=yon) (s:=v);rw[hrp]at hneg;obtain⟨bst,hbst⟩:=ex (cK yon v);rw[hbst]at hneg;obtain⟨bm,hbm⟩:=ex (mJ (ah.mk yn yk yf yl yon yw yz) (ah.mk g f first last on n m));rw[hbm]at L N;have HPL:=Lq hPl;have HMT:=Lq L;have HME:=Lq N;have HBST:Hid (standsB (ah.mk yn yk yf yl yon yw yz) v=bst):=Lq hbst;have HSQ:Hid (∀W,BW wr W→cA W g3 2 (.string v)∧cA W g3 3 (.string g)∧cA W g3 4 (iv f)∧cA W g3 5 (iv first)∧cA W g3 6 (iv last)∧cA W g3 7 (.slice E on.length F)∧cA W g3 8 (iv n)∧cA W g3 9 (iv m)∧cA W b (off+k*7) (.string yn)∧cA W b (off+k*7+1) (iv yk)∧cA W b (off+k*7+2) (iv yf)∧cA W b (off+k*7+3) (iv yl)∧cA W b (off+k*7+4) (.slice yA yon.length yc)∧cA W b (off+k*7+5) (iv yw)∧cA W b (off+k*7+6) (iv yz)):=Lq fun W hb=>⟨kC hb q2,kC hb q3,kC hb q4,kC hb q5,kC hb q6,kC hb q7,kC hb q8,kC hb q9,kC hb c0,kC hb c1,kC hb c2,kC hb c3,kC hb c4,kC hb c5,kC hb c6⟩
     clear hPl L N hrp hbst hbm hyf hpo K hMy;cases bst
     ·have Y:rp<0:=hneg.2 rfl;have aq:decide (0≤rp)=false:=by simpa using Y
      clear hneg;go_wp2_with fail;go_quiet ((go_at_call 35;exact Calls.quiet_of_same (HPL.out _ (cY (bR _) _))))
      clear q2 q3 q4 q5 q6 q7 q8 q9 c0 c1 c2 c3 c4 c5 c6 hgw;go_wp2_with fail;go_roundw
      case rel =>
       refine⟨k+1,0,by omega,by omega,rfl,by go_num,Lq ⟨fun h=>⟨HREL0.out.1,fun d q hd hpd o hs=>?_⟩,fun _=>rfl⟩,Lq (cY u.out _)⟩
       rcases Nat.lt_or_ge d k with hdk | hdk
       ·exact HREL0.out.2 d q hdk hpd o hs
       ·obtain rfl:d=k:=by omega
        rw[bN HYI.out]at o;injection o with o
        subst o;rw[HBST.out]at hs;cases hs
      case measure=>simp[intOf];omega
     ·have Y:rp≥0:=by
       rcases Int.lt_or_le rp 0 with h | h
       ·have:=hneg.1 h;cases this
       ·exact h
      have aB:¬rp<0:=by omega
      have aq:decide (0≤rp)=true:=by simpa using Y
      clear hneg;cases bm
      ·go_wp2_with fail;go_region_held3 (fun W=>cA W g3 2 (.string v)∧cA W g3 3 (.string g)∧cA W g3 4 (iv f)∧cA W g3 5 (iv first)∧cA W g3 6 (iv last)∧cA W g3 7 (.slice E on.length F)∧cA W g3 8 (iv n)∧cA W g3 9 (iv m)∧cA W b (off+k*7) (.string yn)∧cA W b (off+k*7+1) (iv yk)∧cA W b (off+k*7+2) (iv yf)∧cA W b (off+k*7+3) (iv yl)∧cA W b (off+k*7+4) (.slice yA yon.length yc)∧cA W b (off+k*7+5) (iv yw)∧cA W b (off+k*7+6) (iv yz)) (first | exact HSQ.out _ (u0 t) | exact HSQ.out _ (aZ (bR _))) (first | (go_at_call 35;((with_reducible refine(HPL.out _ (aZ (bR _))).mono ?_);rintro e w' ⟨rfl,rfl⟩)) | (go_at_call 36;((with_reducible refine(HMT.out _).mono ?_);rintro e w7 ⟨rfl,t⟩)))
       have z:=Lq (bT u.out (u0 t));clear t q2 q3 q4 q5 q6 q7 q8 q9 c0 c1 c2 c3 c4 c5 c6 hgw;go_wp2_with fail;go_roundw
       case rel =>
        refine⟨k+1,9,by omega,by omega,rfl,by go_num,Lq ⟨(fun h=>by cases h),fun h=>?_⟩,z⟩
        have:=h.2 k _ (by omega) (by omega) (bN HYI.out) HBST.out
        rw[←HME.out]at this;cases this
       case measure=>simp[intOf];omega
      ·go_wp2_with fail;go_region_held3 (fun W=>cA W g3 2 (.string v)∧cA W g3 3 (.string g)∧cA W g3 4 (iv f)∧cA W g3 5 (iv first)∧cA W g3 6 (iv last)∧cA W g3 7 (.slice E on.length F)∧cA W g3 8 (iv n)∧cA W g3 9 (iv m)∧cA W b (off+k*7) (.string yn)∧cA W b (off+k*7+1) (iv yk)∧cA W b (off+k*7+2) (iv yf)∧cA W b (off+k*7+3) (iv yl)∧cA W b (off+k*7+4) (.slice yA yon.length yc)∧cA W b (off+k*7+5) (iv yw)∧cA W b (off+k*7+6) (iv yz)) (first | exact HSQ.out _ (u0 t) | exact HSQ.out _ (aZ (bR _))) (first | (go_at_call 35;((with_reducible refine(HPL.out _ (aZ (bR _))).mono ?_);rintro e w' ⟨rfl,rfl⟩)) | (go_at_call 36;((with_reducible refine(HMT.out _).mono ?_);rintro e w7 ⟨rfl,t⟩)))
       have z:=Lq (bT u.out (u0 t));clear t q2 q3 q4 q5 q6 q7 q8 q9 c0 c1 c2 c3 c4 c5 c6 hgw;go_wp2_with fail;go_roundw
       case rel =>
        refine⟨k+1,0,by omega,by omega,rfl,by go_num,Lq ⟨fun h=>⟨HREL0.out.1,fun d q hd hpd o hs=>?_⟩,fun _=>rfl⟩,z⟩
        rcases Nat.lt_or_ge d k with hdk | hdk
        ·exact HREL0.out.2 d q hdk hpd o hs
        ·obtain rfl:d=k:=by omega
         rw[bN HYI.out]at o;injection o with o
         subst o;exact HME.out.symm
       case measure=>simp[intOf];omega
    ·have aA:(r==0)=false:=by simpa using hr0
     go_wp2_with fail;refine(ag.out _ u.out).mono ?_;rintro e w7 ⟨D,ho,o,v7,rfl,x,t⟩;have HOUT:=Lq ho;have HQ7:=Lq o;have HOW:=Lq x;have z:=Lq t;clear ho o x t;go_wp2_with fail
     go_ret2
     refine⟨r,v7,rfl,bT HB1.out (bT u.out z.out),fun h=>?_,fun h=>?_⟩
     ·refine mP rfl (fun h2=>h (C.out.2 ?_))
      obtain⟨_,R,S⟩:=h2;simp only[ao.c,HI.out]at R S;exact⟨R,fun d q _ hd o hs=>S q (mG ⟨d-(p+1),by rw[List.getElem?_drop,show p+1+(d-(p+1))=d by omega];exact o⟩) hs⟩
     ·exact absurd h hr0
   ·obtain rfl:k=ms.length:=by omega
    go_wp2_with fail;refine(ag.out _ u.out).mono ?_;rintro e w7 ⟨D,ho,o,v7,rfl,x,t⟩;have HOUT:=Lq ho;have HQ7:=Lq o;have HOW:=Lq x;have z:=Lq t;clear ho o x t;go_wp2_with fail
    go_ret2
    refine⟨r,v7,rfl,bT HB1.out (bT u.out z.out),fun h=>?_,fun h=>?_⟩
    ·refine mP rfl (fun h2=>h (C.out.2 ?_))
     obtain⟨_,R,S⟩:=h2;simp only[ao.c,HI.out]at R S;exact⟨R,fun d q _ hd o hs=>S q (mG ⟨d-(p+1),by rw[List.getElem?_drop,show p+1+(d-(p+1))=d by omega];exact o⟩) hs⟩
    ·obtain⟨R,S⟩:=C.out.1 h;obtain⟨A2,cap2,rfl,hs⟩:=az.of_own HOW.out rfl (fun q o=>(HQ7.out q o).ok)
     refine⟨D,A2,cap2,rfl, ?_,hs⟩;rw[HOUT.out];have hh:=rg (l:=ab ms) (c:=ao.c ⟨3,day,v,⟨⟨g,f,first,last,on,n,m⟩,E,F⟩⟩) rfl HBH.out (by simp only[ao.c,HI.out];exact R) (by simp only[ao.c,HI.out];intro q o hs;obtain⟨d,hd⟩:=List.mem_iff_getElem?.1 o;rw[List.getElem?_drop]at hd;exact S (p+1+d) q (by have:=(lG hd);simp at this;omega) (by omega) hd hs)
     rw[hh];simp only[ao.c,HI.out];rw[ad.out]
section
variable{last:Int}{cs:List ao}{l ms:List aj}{i k:Nat}
theorem tP(A:Option Addr)(ms:List aj)(c:ao)(B cap:Nat)(w:World)(f:B≤w.heap.size)(H:az w B A cap ms)(g:aR w B c.part)(d:c.name.size≤maxLen)(b:aE (ab ms))(a:fD c.c=true) :
  Cs 17 #[.slice A ms.length cap,cV c] w (nX ms c w):=by
 have h:=a;unfold fD at h;simp only[ao.c,Bool.or_eq_true,Bool.and_eq_true,beq_iff_eq]at h;rcases h with(h | h) | h
 ·exact Cl A ms c B cap w f H g b h.1 a
 ·exact Cm A ms c B cap w f H g d b h.1 a
 ·exact Co A ms c B cap w f H g d b h
structure de(w:World)(B:Nat)(A:Option Addr)(cap:Nat)(cs:List ao):Prop where
 rd:aG 10 ld w B A cs
 ok:∀c∈cs,aR w B c.part∧c.name.size≤maxLen
 le:cs.length≤cap
 max:cap≤maxLen
section
variable {w w':World} {B B':Nat} {A:Option Addr} {cap:Nat} {cs:List ao} {c:ao}
theorem de.below(h:de w B A cap cs)(b:Below B' w w')(a:B≤B'):de w' B A cap cs:=⟨h.rd.below b a,fun c hc=>⟨(h.ok c hc).1.below b a,(h.ok c hc).2⟩,h.le,h.max⟩
theorem de.more(h:de w B A cap cs)(a:B≤B'):de w B' A cap cs:=⟨h.rd.more a,fun c hc=>⟨(h.ok c hc).1.more a,(h.ok c hc).2⟩,h.le,h.max⟩
theorem de.at(h:de w B A cap cs)(hx:cs[i]?=some c) :
  ∃b a,A=some ⟨b,a,none⟩∧b<B∧aR w B c.part∧c.name.size≤maxLen∧cA w b (a+i*10) (iv c.what)∧cA w b (a+i*10+1) (iv c.day)∧cA w b (a+i*10+2) (.string c.name)∧cA w b (a+i*10+3) (.string c.part.p.name)∧cA w b (a+i*10+4) (iv c.part.p.kind)∧cA w b (a+i*10+5) (iv c.part.p.first)∧cA w b (a+i*10+6) (iv c.part.p.last)∧cA w b (a+i*10+7) (.slice c.part.A c.part.p.on.length c.part.cap)∧cA w b (a+i*10+8) (iv c.part.p.wlo)∧cA w b (a+i*10+9) (iv c.part.p.whi):=by
 obtain⟨b,a,e,d,hc⟩:=h.rd i c hx;have hm:=h.ok c (mG ⟨i,hx⟩);exact⟨b,a,e,d,hm.1,hm.2,hc 0 _ rfl,hc 1 _ rfl,hc 2 _ rfl,hc 3 _ rfl,hc 4 _ rfl,hc 5 _ rfl,hc 6 _ rfl,hc 7 _ rfl,hc 8 _ rfl,hc 9 _ rfl⟩
end
abbrev an(cs:List ao):List bQ:=cs.map ao.c
theorem po{c:ao}(h:cs[i]?=some c):(an cs)[i]?=some c.c:=by rw[List.getElem?_map,h];rfl
def jt(ms:List aj)(cs:List ao)(k:Nat)(l:List aj)(last:Int):Prop:=aE (ab l)∧∃now,dd 0 (ab ms) ((an cs).take k)=some (ab l,last,now)
theorem jt.start(h:aE (ab ms)):jt ms cs 0 ms 0:=⟨h,ab ms,rfl⟩
theorem ro{l:List ah}{c:bQ}{x:List ah}(h:bL l c=some x):fD c=true:=by
 unfold bL at h;unfold fD;split at h
 ·split at h
  ·rename_i a b;simp[a,b.1]
  ·cases h
 ·split at h
  ·split at h
   ·rename_i _ a b;simp[a,b.1]
   ·cases h
  ·split at h
   ·rename_i d;simp[d]
   ·cases h
theorem jt.next{a:List aj}{c:ao}(h:jt ms cs k l last)(hc:cs[k]?=some c)(g:inB last 40000 c.day=true)(b:bL (ab l) c.c=some (ab a)):jt ms cs (k+1) a c.day:=by
 obtain⟨d,now,f⟩:=h;refine⟨qG d b,if c.day≤0 then ab a else now, ?_⟩
 rw[nP (po hc),f];unfold fa;simp only;rw[if_pos (show inB last 40000 c.c.day=true from g),b]
 rfl
theorem jt.stop{c:ao}(h:jt ms cs k l last)(hc:cs[k]?=some c)(a:inB last 40000 c.day=false∨bL (ab l) c.c=none):¬bS (ab ms) (an cs):=by
 intro b;obtain⟨h1,now,h2⟩:=h;have h3:dd 0 (ab ms) ((an cs).take (k+1))=none:=by
  rw[nP (po hc),h2];unfold fa;simp only;rcases a with a | a
  ·rw[if_neg (show ¬inB last 40000 c.c.day=true by show ¬inB last 40000 c.day=true;rw[a];simp)]
  ·rw[a];split<;>rfl
 have:=b.run;rw[qH h3]at this;cases this
theorem jt.done(h:jt ms cs cs.length l last)(d:aE (ab ms))(b:cs.length≤8):bS (ab ms) (an cs):=by
 obtain⟨_,now,a⟩:=h;rw[List.take_of_length_le (by simp)]at a
 exact⟨d,by simpa using b,by rw[a];rfl⟩
end
section
variable{i p:Int}{w w':World}
def nY(P:Prop)(w:World)(e:Ending)(w':World):Prop:=∃p i r:Int,e=.returned (.tuple #[iv p,iv i,iv r])∧(r=0↔P)∧BW w w'
theorem mQ{P:Prop}{r:Int}(a:r≠0)(b:¬P)(c:BW w w'):nY P w (.returned (.tuple #[iv p,iv i,iv r])) w':=⟨p,i,r,rfl,⟨fun h=>absurd h a,fun h=>absurd h b⟩,c⟩
theorem Cp{P:Prop}(a:P)(b:BW w w'):nY P w (.returned (.tuple #[iv p,iv i,iv 0])) w':=⟨p,i,0,rfl,⟨fun _=>a,fun _=>rfl⟩,b⟩
theorem Cq(A C:Option Addr)(ms:List aj)(cs:List ao)(B cap s:Nat)(w:World)(hB:B≤w.heap.size)(H:az w B A cap ms)(HC:de w B C s cs) :
  Cs 5 #[.agg #[.slice A ms.length cap,.slice C cs.length s]] w (nY (bS (ab ms) (an cs)) w):=by
 obtain⟨Z,ad,o⟩:=nA w (.cells #[.slice A ms.length cap,.slice C cs.length s] 27);have hq:aa Z w.heap.size 27 #[.slice A ms.length cap,.slice C cs.length s]:=by rw[←ad];exact aa.new w 27 _
 have d:B≤Z.heap.size:=lT hB o.size;have HH:=Lq (H.below o hB);have HCC:=Lq (HC.below o hB);have HB1:=Lq o;have hle:=H.le;have hmax:=H.max;have hm9:ms.length≤9223372036854775807:=by have:=H.le;have:=H.max;simp only[maxLen]at this;omega
 have am:cs.length≤9223372036854775807:=by have:=HC.le;have:=HC.max;simp only[maxLen]at this;omega
 have al:cap≤9223372036854775807:=by have:=H.max;simp only[maxLen]at this;omega
 obtain⟨g,hg⟩:=ex w.heap.size;rw[hg]at hq;have HX:Hid (∀W,BW Z W→cA W g 0 (.slice A ms.length cap)∧cA W g 1 (.slice C cs.length s)∧g<W.heap.size):=Lq fun W hb=>have k:=hq.keep hb;⟨k.c 0,k.c 1,k.lt⟩
 obtain⟨D,E,f⟩:=HX.out _ (bR Z);clear H HC o hq;go_enter Tryz.func5,Tryz.ntmps5
 by_cases h12:12<ms.length
 ·go_wp2_with fail
  go_ret3
  exact mQ (by decide) (fun h=>by have:=h.ship.len;simp at this;omega) HB1.out
 ·go_wp2_with fail;clear ad;go_loopw [6] (fun i wr=>∃k:Nat,k≤ms.length∧i=iv k∧Hid (∀j m,j<k→ms[j]?=some m→cQ m.p ((ab ms).take j) ((ab ms).take j))∧Hid (BW Z wr)) (fun i _=>ms.length-(intOf i).toNat)
  case atStart=>exact⟨0,by omega,rfl,Lq (fun j m h=>by omega),Lq (bR _)⟩
  case round =>
   clear D E f;obtain⟨k,hk,rfl,HP,a⟩:=hrel;obtain⟨D,E,f⟩:=HX.out _ a.out;have hk0:=nn k;by_cases hlt:k<ms.length
   ·obtain⟨y,hy⟩:=gX (l:=ms) (i:=k) hlt;obtain⟨b,off,hA,hbB,hMy,c0,c1,c2,c3,c4,c5,c6⟩:=(HH.out.rd.below a.out d).at hy;have HYI:=Lq hy;have hkc:(k:Int)≤(cap:Int):=by omega
    have Y:∀W,BW wr W→Cs 14 #[mV y,.slice A k cap,.slice A k cap] W (iP (cQ y.p ((ab ms).take k) ((ab ms).take k)) W):=fun W hb=>by
     have t:(ms.take k).length=k:=by rw[List.length_take];omega
     have V:=bT a.out hb;have h13:=qP y (ms.take k) (ms.take k) A A B cap cap W (lT d V.size) (hMy.below hb (lT d a.out.size)) ((HH.out.rd.below V d).take k) ((HH.out.rd.below V d).take k) (by omega) hmax (by rw[t];exact lT hk (lT hle hmax)) (fun q hq=>by
      obtain⟨j,hj⟩:=List.mem_iff_getElem?.1 hq;rw[List.getElem?_take]at hj;split at hj
      ·rename_i R;exact(HP.out j q R hj).fr.2.1
      ·cases hj)
     rw[t,lh]at h13;exact h13
    obtain⟨⟨L,J,I,K,n,M,N⟩,F,G⟩:=y;subst hA;simp only at c0 c1 c2 c3 c4 c5 c6 Y;have HPT:=Lq Y;have HS:Hid (∀W,BW wr W→cA W b (off+k*7) (.string L)∧cA W b (off+k*7+1) (iv J)∧cA W b (off+k*7+2) (iv I)∧cA W b (off+k*7+3) (iv K)∧cA W b (off+k*7+4) (.slice F n.length G)∧cA W b (off+k*7+5) (iv M)∧cA W b (off+k*7+6) (iv N)):=Lq fun W hb=>⟨kC hb c0,kC hb c1,kC hb c2,kC hb c3,kC hb c4,kC hb c5,kC hb c6⟩
    clear Y hy hMy;go_wp2_with fail;go_region_held3 (fun W=>cA W b (off+k*7) (.string L)∧cA W b (off+k*7+1) (iv J)∧cA W b (off+k*7+2) (iv I)∧cA W b (off+k*7+3) (iv K)∧cA W b (off+k*7+4) (.slice F n.length G)∧cA W b (off+k*7+5) (iv M)∧cA W b (off+k*7+6) (iv N)) (first | exact HS.out _ (u0 hb7) | exact HS.out _ (aZ (bR _))) ((go_at_call 14;((with_reducible refine(HPT.out _ (aZ (bR _))).mono ?_);rintro e w7 ⟨r,rfl,hr,hb7⟩)))
    have T:=Lq (bT a.out (u0 hb7));have HR:=Lq hr;clear hb7 hr D E f c0 c1 c2 c3 c4 c5 c6;obtain⟨D,E,f⟩:=HX.out _ T.out;by_cases hr0:r=0
    ·subst hr0;have af:=Lq (HR.out.1 rfl);clear HR;go_wp2_with fail;go_roundw
     case rel =>
      refine⟨k+1,by omega,by go_num,Lq (fun j m hj O=>?_),T⟩
      rcases Nat.lt_or_ge j k with R | R
      ·exact HP.out j m R O
      ·obtain rfl:j=k:=by omega
       rw[HYI.out]at O;injection O with O
       subst O;exact af.out
     case measure=>simp[intOf];omega
    ·have ai:(r != 0)=true:=by simpa using hr0
     go_wp2_with fail
     go_ret3
     exact mQ hr0 (fun h=>hr0 (HR.out.2 (h.ship.part k _ (bN HYI.out)))) (bT HB1.out T.out)
   ·have ae:aE (ab ms):=⟨by simp;omega,fun i p hp=>by
     rw[List.getElem?_map]at hp;cases O:ms[i]? with
     | none=>rw[O]at hp;cases hp
     | some m =>
      rw[O]at hp;injection hp with hp
      subst hp;exact HP.out i m (by have:=(lG O);omega) O⟩
    have ac:=Lq ae;clear ae HP;by_cases h8:8<cs.length
    ·go_wp2_with fail
     go_ret3
     exact mQ (by decide) (fun h=>by have:=h.len;simp at this;omega) (bT HB1.out a.out)
    ·go_wp2_with fail;go_loopw [5,8,9] (fun v l i wr=>∃(k:Nat) (z:List aj) (Ak:Option Addr) (ck:Nat) (last:Int),k≤cs.length∧i=iv k∧v=.slice Ak z.length ck∧l=iv last∧Hid (az wr wr.heap.size Ak ck z)∧Hid (jt ms cs k z last)∧Hid (BW Z wr)) (fun _ _ i _=>cs.length-(intOf i).toNat)
     case atStart=>exact⟨0,ms,A,cap,0,by omega,rfl,rfl,rfl,Lq ((HH.out.below a.out d).more (lT d a.out.size)),Lq (jt.start ac.out),a⟩
     case round =>
      clear D E f a;obtain⟨k,z,Ak,ck,last,hk,rfl,rfl,rfl,ag,u,a⟩:=hrel;obtain⟨D,E,f⟩:=HX.out _ a.out;have hk0:=nn k;by_cases t:k<cs.length
      ·obtain⟨c,hc⟩:=gX (l:=cs) (i:=k) t;obtain⟨b,off,hA,hbB,hMc,hcn,c0,c1,c2,c3,c4,c5,c6,c7,c8,c9⟩:=(HCC.out.below a.out d).at hc;have hbw:=br c0;have HCI:=Lq hc;have HMC:=Lq (hMc.more (lT d a.out.size));clear hc hMc;obtain⟨wh,dy,nm,⟨⟨L,J,I,K,n,M,N⟩,F,G⟩⟩:=c;subst hA;simp only at c0 c1 c2 c3 c4 c5 c6 c7 c8 c9 hcn;obtain⟨b1,o⟩:=ex (inB last 40000 dy);have HI:Hid (∀W,Cs 15 #[iv dy,iv last,iv 40000] W fun e w'=>e=.returned (.bool b1)∧W=w'):=Lq fun W=>o▸iN dy last 40000 W
       have S:=Lq o;obtain⟨g2,hg2⟩:=ex wr.heap.size;have HG2:=Lq hg2;clear hg2 o;go_wp2_with fail;rw[HG2.out];have kb:aa (wr.alloc (.cells #[iv wh,iv dy,.string nm,.string L,iv J,iv I,iv K,.slice F n.length G,iv M,iv N] 68)) g2 68 #[iv wh,iv dy,.string nm,.string L,iv J,iv I,iv K,.slice F n.length G,iv M,iv N]:=HG2.out▸aa.new wr 68 _;have hba:=bA (bR wr) (.cells #[iv wh,iv dy,.string nm,.string L,iv J,iv I,iv K,.slice F n.length G,iv M,iv N] 68);obtain⟨W2,hW2⟩:=ex (wr.alloc (.cells #[iv wh,iv dy,.string nm,.string L,iv J,iv I,iv K,.slice F n.length G,iv M,iv N] 68));rw[hW2]at kb hba;rw[hW2];have HBA:=Lq hba;have HB2:=Lq (bT a.out hba);have HKB:Hid (∀W,BW W2 W→cA W g2 0 (iv wh)∧cA W g2 1 (iv dy)∧cA W g2 2 (.string nm)∧cA W g2 3 (.string L)∧cA W g2 4 (iv J)∧cA W g2 5 (iv I)∧cA W g2 6 (iv K)∧cA W g2 7 (.slice F n.length G)∧cA W g2 8 (iv M)∧cA W g2 9 (iv N)∧g2<W.heap.size):=Lq fun W hb=>have k:=kb.keep hb;⟨k.c 0,k.c 1,k.c 2,k.c 3,k.c 4,k.c 5,k.c 6,k.c 7,k.c 8,k.c 9,k.lt⟩
       clear kb hba hW2 D E f c0 c1 c2 c3 c4 c5 c6 c7 c8 c9 hbw;obtain⟨D,E,f⟩:=HX.out _ HB2.out;obtain⟨c0,c1,c2,c3,c4,c5,c6,c7,c8,c9,hg2w⟩:=HKB.out _ (bR W2);refine(HI.out _).mono ?_;rintro e w' ⟨rfl,rfl⟩;cases b1 with
       | false =>
        go_wp2_with fail
        go_ret3
        exact mQ (by decide) (u.out.stop HCI.out (.inl S.out)) (bT HB1.out HB2.out)
       | true =>
        obtain⟨bb,X⟩:=ex (fD (ao.c ⟨wh,dy,nm,⟨⟨L,J,I,K,n,M,N⟩,F,G⟩⟩));have HM2:=Lq ((HMC.out.below HBA.out (lr _)).more HBA.out.size);have hbr:=Ci ⟨wh,dy,nm,⟨⟨L,J,I,K,n,M,N⟩,F,G⟩⟩ W2 HM2.out;rw[X]at hbr;have HBR2:=Lq hbr;have HBB:=Lq X;clear hbr X;go_wp2_with fail;refine HBR2.out.mono ?_;rintro e w3 ⟨rfl,hb3⟩;have HB3:=Lq hb3;have HB3X:=Lq (bT HB2.out hb3);clear hb3 D E f c0 c1 c2 c3 c4 c5 c6 c7 c8 c9 hg2w;obtain⟨D,E,f⟩:=HX.out _ HB3X.out;obtain⟨c0,c1,c2,c3,c4,c5,c6,c7,c8,c9,hg2w⟩:=HKB.out _ HB3.out;cases bb with
        | false =>
         go_wp2_with fail
         go_ret3
         exact mQ (by decide) (u.out.stop HCI.out (.inr (by
          cases hx:bL (ab z) (ao.c ⟨wh,dy,nm,⟨⟨L,J,I,K,n,M,N⟩,F,G⟩⟩)with
          | none=>rfl
          | some x=>have:=ro hx;rw[HBB.out]at this;cases this))) (bT HB1.out HB3X.out)
        | true =>
         have U:=Lq (bT HBA.out HB3.out);have hch:=tP Ak z ⟨wh,dy,nm,⟨⟨L,J,I,K,n,M,N⟩,F,G⟩⟩ wr.heap.size ck w3 U.out.size (ag.out.below U.out (lr _)) (HMC.out.below U.out (lr _)) hcn u.out.1 HBB.out;have HCH:=Lq hch;clear hch;go_wp2_with fail;refine HCH.out.mono ?_;rintro e w4 ⟨r,v4,rfl,hb4,hno,hyes⟩;have HB4:=Lq (bT HB3.out hb4);have HB4X:=Lq (bT HB3X.out hb4);have HNO:=Lq hno;have HYES:=Lq hyes;clear hb4 hno hyes D E f c0 c1 c2 c3 c4 c5 c6 c7 c8 c9 hg2w;obtain⟨D,E,f⟩:=HX.out _ HB4X.out;obtain⟨c0,c1,c2,c3,c4,c5,c6,c7,c8,c9,hg2w⟩:=HKB.out _ HB4.out;by_cases hr0:r=0
         ·subst hr0;obtain⟨ak,A4,ah,rfl,hx,hs⟩:=HYES.out rfl;have HXX:=Lq hx;have HSS:=Lq hs;clear hx hs HYES HNO;go_wp2_with fail;go_quiet (fail)
          go_wp2_with fail;go_roundw
          case rel=>exact⟨k+1,ak,A4,ah,dy,by omega,by go_num,rfl,rfl,Lq (HSS.out.below (cY (bR _) _) (lr _)),Lq (u.out.next HCI.out S.out HXX.out),Lq (cY HB4X.out _)⟩
          case measure=>simp[intOf];omega
         ·have ai:(r != 0)=true:=by simpa using hr0
          go_wp2_with fail
          go_ret3
          exact mQ hr0 (u.out.stop HCI.out (.inr (HNO.out hr0))) (bT HB1.out HB4X.out)
      ·obtain rfl:k=cs.length:=by omega
       go_wp2_with fail
       go_ret3
       exact Cp (u.out.done ac.out (by omega)) (bT HB1.out a.out)
end
section
variable{k:Nat}
def dx{α:Type}(P:α→Bool)(l:List α):Int:=if l.findIdx P<l.length then(l.findIdx P:Int)else -1
theorem fL{α:Type}{P:α→Bool}{l:List α}(h:(l.any P)=false):dx P l = -1:=by unfold dx;rw[if_neg];intro a;rw[List.findIdx_lt_length]at a;obtain⟨x,hx,hp⟩:=a;rw[List.any_eq_false]at h;exact h x hx hp
theorem lm{α:Type}{P:α→Bool}{l:List α}(h:(l.any P)=true):0≤dx P l:=by
 unfold dx;rw[if_pos]
 ·omega
 ·rw[List.findIdx_lt_length]
  simpa using h
theorem kD{α:Type}{P:α→Bool}{l:List α}{x:α}(a:l[k]?=some x)(d:P x=true)(c:(l.take k).any P=false):dx P l=(k:Int)∧l.any P=true:=by
 obtain⟨b,e⟩:=List.getElem?_eq_some_iff.1 a;have hi:l.findIdx P=k:=by
  rw[List.findIdx_eq b];refine⟨by rw[e];exact d,fun j f=>?_⟩
  rw[List.any_eq_false]at c;have:=c l[j] (mG ⟨j,by rw[List.getElem?_take_of_lt f];exact gE (by omega)⟩)
  simpa using this
 refine⟨by unfold dx;rw[hi,if_pos b],List.any_eq_true.2 ⟨x,mG ⟨k,a⟩,d⟩⟩
def dS{α:Type}(P:α→Bool)(l:List α)(k:Nat):Bool:=(l.take k).any P
theorem kE{α:Type}{P:α→Bool}{l:List α}{x:α}(a:l[k]?=some x)(h:dS P l k=false)(c:P x=false):dS P l (k+1)=false:=by unfold dS at *;obtain⟨b,rfl⟩:=List.getElem?_eq_some_iff.1 a;rw[List.take_succ_eq_append_getElem b,List.any_append,h];simp[c]
def bu{α:Type}(P:α→Bool)(l:List α):Bool:=l.any P
theorem tQ(P:ah→Bool)(A:Option Addr)(ms:List aj)(B cap:Nat)(g:Value)(w:World)(n:ms.length≤maxLen)(j:B≤w.heap.size)(H:cF w B A ms)(c:∀W m,BW w W→m∈ms→Cs 155 #[mV m,g] W (Rt W (.bool (P m.p)))) :
  Cs 154 #[.slice A ms.length cap,.func (.func 155) #[] #[g]] w (Rt w (iv (dx P (ab ms)))):=by
 unfold maxLen at n;have h:=Lq H;have HCL:=Lq c;obtain⟨ps,hps⟩:=ex (ab ms);have HPS:=Lq hps;rw[hps];clear H c hps;go_enter Tryz.func154,Tryz.ntmps154
 go_wp2
 go_loopw [8] (fun i wr=>∃k:Nat,k≤ms.length∧i=iv k∧Hid (dS P ps k=false)∧Hid (BW w wr)) (fun i _=>ms.length-(intOf i).toNat)
 case atStart=>exact⟨0,Nat.zero_le _,rfl,Lq rfl,Lq (bR _)⟩
 case round =>
  obtain⟨k,o,rfl,d,a⟩:=hrel;by_cases hlt:k<ms.length
  ·obtain⟨m,hx⟩:=gX (l:=ms) (i:=k) hlt;obtain⟨b,off,rfl,_,_,c0,c1,c2,c3,c4,c5,c6⟩:=(h.out.below a.out j).at hx;have HC:=Lq (HCL.out wr m a.out (mG ⟨k,hx⟩));have HX:Hid (ps[k]?=some m.p):=Lq (HPS.out▸bN hx);obtain⟨⟨yn,yk,yf,yl,yon,yw,yz⟩,yA,yc⟩:=m;simp only at c0 c1 c2 c3 c4 c5 c6;clear hx HCL;obtain⟨bp,hbp⟩:=ex (P (ah.mk yn yk yf yl yon yw yz));have HBP:=Lq hbp;simp only[hbp]at HC;clear hbp;go_wp2_with fail;refine HC.out.mono ?_;rintro e w1 ⟨rfl,hb⟩;have HB1:=Lq (bT a.out hb);clear hb c0 c1 c2 c3 c4 c5 c6;cases bp
   ·go_wp2_with fail;go_roundw
    case rel=>exact⟨k+1,by omega,by go_num,Lq (kE HX.out d.out HBP.out),HB1⟩
    case measure=>simp[intOf];omega
   ·go_wp2_with fail;go_ret
    exact⟨dm (kD HX.out HBP.out d.out).1.symm,HB1.out⟩
  ·go_wp2_with fail;go_ret
   refine⟨dm (fL ?_).symm,a.out⟩;have f:=d.out;unfold dS at f;rw[List.take_of_length_le (by rw[←HPS.out];simp;omega)]at f
   exact f
theorem Cr(P:ah→Bool)(A:Option Addr)(ms:List aj)(B cap:Nat)(g:Value)(w:World)(n:ms.length≤maxLen)(j:B≤w.heap.size)(H:cF w B A ms)(c:∀W m,BW w W→m∈ms→Cs 142 #[mV m,g] W (Rt W (.bool (P m.p)))) :
  Cs 154 #[.slice A ms.length cap,.func (.func 142) #[] #[g]] w (Rt w (iv (dx P (ab ms)))):=by
 unfold maxLen at n;have h:=Lq H;have HCL:=Lq c;obtain⟨ps,hps⟩:=ex (ab ms);have HPS:=Lq hps;rw[hps];clear H c hps;go_enter Tryz.func154,Tryz.ntmps154
 go_wp2
 go_loopw [8] (fun i wr=>∃k:Nat,k≤ms.length∧i=iv k∧Hid (dS P ps k=false)∧Hid (BW w wr)) (fun i _=>ms.length-(intOf i).toNat)
 case atStart=>exact⟨0,Nat.zero_le _,rfl,Lq rfl,Lq (bR _)⟩
 case round =>
  obtain⟨k,o,rfl,d,a⟩:=hrel;by_cases hlt:k<ms.length
  ·obtain⟨m,hx⟩:=gX (l:=ms) (i:=k) hlt;obtain⟨b,off,rfl,_,_,c0,c1,c2,c3,c4,c5,c6⟩:=(h.out.below a.out j).at hx;have HC:=Lq (HCL.out wr m a.out (mG ⟨k,hx⟩));have HX:Hid (ps[k]?=some m.p):=Lq (HPS.out▸bN hx);obtain⟨⟨yn,yk,yf,yl,yon,yw,yz⟩,yA,yc⟩:=m;simp only at c0 c1 c2 c3 c4 c5 c6;clear hx HCL;obtain⟨bp,hbp⟩:=ex (P (ah.mk yn yk yf yl yon yw yz));have HBP:=Lq hbp;simp only[hbp]at HC;clear hbp;go_wp2_with fail;refine HC.out.mono ?_;rintro e w1 ⟨rfl,hb⟩;have HB1:=Lq (bT a.out hb);clear hb c0 c1 c2 c3 c4 c5 c6;cases bp
   ·go_wp2_with fail;go_roundw
    case rel=>exact⟨k+1,by omega,by go_num,Lq (kE HX.out d.out HBP.out),HB1⟩
    case measure=>simp[intOf];omega
   ·go_wp2_with fail;go_ret
    exact⟨dm (kD HX.out HBP.out d.out).1.symm,HB1.out⟩
  ·go_wp2_with fail;go_ret
   refine⟨dm (fL ?_).symm,a.out⟩;have f:=d.out;unfold dS at f;rw[List.take_of_length_le (by rw[←HPS.out];simp;omega)]at f
   exact f
theorem Ct(P:ah→Bool)(A:Option Addr)(ms:List aj)(B cap:Nat)(c:Value)(w:World)(i:ms.length≤maxLen)(f:B≤w.heap.size)(H:cF w B A ms)(a:∀W m,BW w W→m∈ms→Cs 142 #[mV m,c] W (Rt W (.bool (P m.p)))) :
  Cs 141 #[.slice A ms.length cap,.func (.func 142) #[] #[c]] w (Rt w (.bool (bu P (ab ms)))):=by
 have b:=Lq (Cr P A ms B cap c w i f H a);clear H a;obtain⟨ps,hps⟩:=ex (ab ms);rw[hps]at b ⊢;clear hps;obtain⟨r,hr⟩:=ex (dx P ps);rw[hr]at b;have hd:decide (0≤r)=bu P ps:=by
  unfold bu;cases h:ps.any P
  ·rw[←hr,fL h];rfl
  ·have:=lm h;rw[hr]at this
   simpa using this
 have d:=Lq hd;clear hr hd;go_enter Tryz.func141,Tryz.ntmps141
 go_wp2_with fail;refine b.out.mono ?_;rintro e j ⟨rfl,g⟩;go_wp2_with fail;go_ret
 exact⟨aY d.out,g⟩
theorem Cu(P:ah→Bool)(A:Option Addr)(ms:List aj)(B cap:Nat)(g:Value)(w:World)(n:ms.length≤maxLen)(j:B≤w.heap.size)(H:cF w B A ms)(c:∀W m,BW w W→m∈ms→Cs 194 #[mV m,g] W (Rt W (.bool (P m.p)))) :
  Cs 154 #[.slice A ms.length cap,.func (.func 194) #[] #[g]] w (Rt w (iv (dx P (ab ms)))):=by
 unfold maxLen at n;have h:=Lq H;have HCL:=Lq c;obtain⟨ps,hps⟩:=ex (ab ms);have HPS:=Lq hps;rw[hps];clear H c hps;go_enter Tryz.func154,Tryz.ntmps154
 go_wp2
 go_loopw [8] (fun i wr=>∃k:Nat,k≤ms.length∧i=iv k∧Hid (dS P ps k=false)∧Hid (BW w wr)) (fun i _=>ms.length-(intOf i).toNat)
 case atStart=>exact⟨0,Nat.zero_le _,rfl,Lq rfl,Lq (bR _)⟩
 case round =>
  obtain⟨k,o,rfl,d,a⟩:=hrel;by_cases hlt:k<ms.length
  ·obtain⟨m,hx⟩:=gX (l:=ms) (i:=k) hlt;obtain⟨b,off,rfl,_,_,c0,c1,c2,c3,c4,c5,c6⟩:=(h.out.below a.out j).at hx;have HC:=Lq (HCL.out wr m a.out (mG ⟨k,hx⟩));have HX:Hid (ps[k]?=some m.p):=Lq (HPS.out▸bN hx);obtain⟨⟨yn,yk,yf,yl,yon,yw,yz⟩,yA,yc⟩:=m;simp only at c0 c1 c2 c3 c4 c5 c6;clear hx HCL;obtain⟨bp,hbp⟩:=ex (P (ah.mk yn yk yf yl yon yw yz));have HBP:=Lq hbp;simp only[hbp]at HC;clear hbp;go_wp2_with fail;refine HC.out.mono ?_;rintro e w1 ⟨rfl,hb⟩;have HB1:=Lq (bT a.out hb);clear hb c0 c1 c2 c3 c4 c5 c6;cases bp
   ·go_wp2_with fail;go_roundw
    case rel=>exact⟨k+1,by omega,by go_num,Lq (kE HX.out d.out HBP.out),HB1⟩
    case measure=>simp[intOf];omega
   ·go_wp2_with fail;go_ret
    exact⟨dm (kD HX.out HBP.out d.out).1.symm,HB1.out⟩
  ·go_wp2_with fail;go_ret
   refine⟨dm (fL ?_).symm,a.out⟩;have f:=d.out;unfold dS at f;rw[List.take_of_length_le (by rw[←HPS.out];simp;omega)]at f
   exact f
theorem Cv(P:ah→Bool)(A:Option Addr)(ms:List aj)(B cap:Nat)(c:Value)(w:World)(i:ms.length≤maxLen)(f:B≤w.heap.size)(H:cF w B A ms)(a:∀W m,BW w W→m∈ms→Cs 194 #[mV m,c] W (Rt W (.bool (P m.p)))) :
  Cs 141 #[.slice A ms.length cap,.func (.func 194) #[] #[c]] w (Rt w (.bool (bu P (ab ms)))):=by
 have b:=Lq (Cu P A ms B cap c w i f H a);clear H a;obtain⟨ps,hps⟩:=ex (ab ms);rw[hps]at b ⊢;clear hps;obtain⟨r,hr⟩:=ex (dx P ps);rw[hr]at b;have hd:decide (0≤r)=bu P ps:=by
  unfold bu;cases h:ps.any P
  ·rw[←hr,fL h];rfl
  ·have:=lm h;rw[hr]at this
   simpa using this
 have d:=Lq hd;clear hr hd;go_enter Tryz.func141,Tryz.ntmps141
 go_wp2_with fail;refine b.out.mono ?_;rintro e j ⟨rfl,g⟩;go_wp2_with fail;go_ret
 exact⟨aY d.out,g⟩
theorem Cw(P:ByteArray→Bool)(A:Option Addr)(ms:List ByteArray)(B cap:Nat)(g:Value)(w:World)(n:ms.length≤maxLen)(j:B≤w.heap.size)(H:am .string w B A ms)(c:∀W m,BW w W→m∈ms→Cs 143 #[.string m,g] W (Rt W (.bool (P m)))) :
  Cs 157 #[.slice A ms.length cap,.func (.func 143) #[] #[g]] w (Rt w (iv (dx P (ms)))):=by
 unfold maxLen at n;have h:=Lq H;have HCL:=Lq c;clear H c;go_enter Tryz.func157,Tryz.ntmps157
 go_wp2
 go_loopw [8] (fun i wr=>∃k:Nat,k≤ms.length∧i=iv k∧Hid (dS P ms k=false)∧Hid (BW w wr)) (fun i _=>ms.length-(intOf i).toNat)
 case atStart=>exact⟨0,Nat.zero_le _,rfl,Lq rfl,Lq (bR _)⟩
 case round =>
  obtain⟨k,o,rfl,d,a⟩:=hrel;by_cases hlt:k<ms.length
  ·obtain⟨m,hx⟩:=gX (l:=ms) (i:=k) hlt;obtain⟨b,off,rfl,_,c0⟩:=(h.out.below a.out j) k m hx;have HC:=Lq (HCL.out wr m a.out (mG ⟨k,hx⟩));have HX:Hid (ms[k]?=some m):=Lq hx;clear hx HCL;obtain⟨bp,hbp⟩:=ex (P m);have HBP:=Lq hbp;simp only[hbp]at HC;clear hbp;go_wp2_with fail;refine HC.out.mono ?_;rintro e w1 ⟨rfl,hb⟩;have HB1:=Lq (bT a.out hb);clear hb c0;cases bp
   ·go_wp2_with fail;go_roundw
    case rel=>exact⟨k+1,by omega,by go_num,Lq (kE HX.out d.out HBP.out),HB1⟩
    case measure=>simp[intOf];omega
   ·go_wp2_with fail;go_ret
    exact⟨dm (kD HX.out HBP.out d.out).1.symm,HB1.out⟩
  ·go_wp2_with fail;go_ret
   refine⟨dm (fL ?_).symm,a.out⟩;have f:=d.out;unfold dS at f;rw[List.take_of_length_le (by omega)]at f
   exact f
theorem tR(P:ByteArray→Bool)(A:Option Addr)(ms:List ByteArray)(B cap:Nat)(b:Value)(w:World)(i:ms.length≤maxLen)(f:B≤w.heap.size)(H:am .string w B A ms)(a:∀W m,BW w W→m∈ms→Cs 143 #[.string m,b] W (Rt W (.bool (P m)))) :
  Cs 91 #[.slice A ms.length cap,.func (.func 143) #[] #[b]] w (Rt w (.bool (bu P (ms)))):=by
 have c:=Lq (Cw P A ms B cap b w i f H a);clear H a;obtain⟨r,hr⟩:=ex (dx P ms);rw[hr]at c;have hd:decide (0≤r)=bu P ms:=by
  unfold bu;cases h:ms.any P
  ·rw[←hr,fL h];rfl
  ·have:=lm h;rw[hr]at this
   simpa using this
 have d:=Lq hd;clear hr hd;go_enter Tryz.func91,Tryz.ntmps91
 go_wp2_with fail;refine c.out.mono ?_;rintro e j ⟨rfl,g⟩;go_wp2_with fail;go_ret
 exact⟨aY d.out,g⟩
theorem Cx(P:ByteArray→Bool)(A:Option Addr)(ms:List ByteArray)(B cap:Nat)(g h:Value)(w:World)(o:ms.length≤maxLen)(n:B≤w.heap.size)(H:am .string w B A ms)(c:∀W m,BW w W→m∈ms→Cs 145 #[.string m,g,h] W (Rt W (.bool (P m)))) :
  Cs 157 #[.slice A ms.length cap,.func (.func 145) #[] #[g,h]] w (Rt w (iv (dx P (ms)))):=by
 unfold maxLen at o;have j:=Lq H;have HCL:=Lq c;clear H c;go_enter Tryz.func157,Tryz.ntmps157
 go_wp2
 go_loopw [8] (fun i wr=>∃k:Nat,k≤ms.length∧i=iv k∧Hid (dS P ms k=false)∧Hid (BW w wr)) (fun i _=>ms.length-(intOf i).toNat)
 case atStart=>exact⟨0,Nat.zero_le _,rfl,Lq rfl,Lq (bR _)⟩
 case round =>
  obtain⟨k,p,rfl,d,a⟩:=hrel;by_cases hlt:k<ms.length
  ·obtain⟨m,hx⟩:=gX (l:=ms) (i:=k) hlt;obtain⟨b,off,rfl,_,c0⟩:=(j.out.below a.out n) k m hx;have HC:=Lq (HCL.out wr m a.out (mG ⟨k,hx⟩));have HX:Hid (ms[k]?=some m):=Lq hx;clear hx HCL;obtain⟨bp,hbp⟩:=ex (P m);have HBP:=Lq hbp;simp only[hbp]at HC;clear hbp;go_wp2_with fail;refine HC.out.mono ?_;rintro e w1 ⟨rfl,hb⟩;have HB1:=Lq (bT a.out hb);clear hb c0;cases bp
   ·go_wp2_with fail;go_roundw
    case rel=>exact⟨k+1,by omega,by go_num,Lq (kE HX.out d.out HBP.out),HB1⟩
    case measure=>simp[intOf];omega
   ·go_wp2_with fail;go_ret
    exact⟨dm (kD HX.out HBP.out d.out).1.symm,HB1.out⟩
  ·go_wp2_with fail;go_ret
   refine⟨dm (fL ?_).symm,a.out⟩;have f:=d.out;unfold dS at f;rw[List.take_of_length_le (by omega)]at f
   exact f
theorem tS(P:ByteArray→Bool)(A:Option Addr)(ms:List ByteArray)(B cap:Nat)(b c:Value)(w:World)(j:ms.length≤maxLen)(g:B≤w.heap.size)(H:am .string w B A ms)(a:∀W m,BW w W→m∈ms→Cs 145 #[.string m,b,c] W (Rt W (.bool (P m)))) :
  Cs 91 #[.slice A ms.length cap,.func (.func 145) #[] #[b,c]] w (Rt w (.bool (bu P (ms)))):=by
 have d:=Lq (Cx P A ms B cap b c w j g H a);clear H a;obtain⟨r,hr⟩:=ex (dx P ms);rw[hr]at d;have hd:decide (0≤r)=bu P ms:=by
  unfold bu;cases h:ms.any P
  ·rw[←hr,fL h];rfl
  ·have:=lm h;rw[hr]at this
   simpa using this
 have f:=Lq hd;clear hr hd;go_enter Tryz.func91,Tryz.ntmps91
 go_wp2_with fail;refine d.out.mono ?_;rintro e l ⟨rfl,i⟩;go_wp2_with fail;go_ret
 exact⟨aY f.out,i⟩
end
theorem tT(m:aj)(s:ByteArray)(a:Nat)(w:World)(hc:w.cell? ⟨a,0,none⟩=some (.string s)):Cs 155 #[mV m,pT a 0] w (Rt w (.bool (aX s m.p))):=by
 obtain⟨⟨i,g,f,h,b,j,k⟩,c,d⟩:=m;have hlt:=br hc;go_enter Tryz.func155,Tryz.ntmps155
 go_wp2
 go_ret
 exact⟨aY rfl,bA (bR _) _⟩
theorem tU(ms:List aj)(s:ByteArray):ct (ab ms) s=dx (aX s) (ab ms):=rfl
theorem jK(A:Option Addr)(ms:List aj)(B cap h:Nat)(s:ByteArray)(w:World)(i:B≤w.heap.size)(k:ms.length≤maxLen)(H:cF w B A ms)(hc:w.cell? ⟨h,0,none⟩=some (.slice A ms.length cap)) :
  Cs 88 #[pT h 0,.string s] w (Rt w (iv (ct (ab ms) s))):=by
 obtain⟨g,b,a⟩:=nA w (.cells #[.string s] 9);have hq:aa g w.heap.size 9 #[.string s]:=by rw[←b];exact aa.new w 9 _
 have f:=tQ (aX s) A ms B cap (pT w.heap.size 0) g k (lT i a.size) (H.below a i) (fun W m hb _=>tT m s _ W ((hq.keep hb).c 0))
 rw[←tU]at f;obtain⟨r,j⟩:=ex (ct (ab ms) s);rw[j]at f ⊢;have HI:=Lq f;have HB1:=Lq a;have k0:g.cell? ⟨h,0,none⟩=some (.slice A ms.length cap):=kC a hc;have hlt:=br hc;clear f a hq j H hc;go_enter Tryz.func88,Tryz.ntmps88
 go_wp2_with fail;refine HI.out.mono ?_;rintro e l ⟨rfl,d⟩;have HB2:=Lq (bT HB1.out d);clear d b k0;go_wp2_with fail;go_ret
 exact⟨rfl,HB2.out⟩
theorem tV(m n:aj)(w:World):Cs 146 #[mV m,mV n] w (Rt w (.bool (dN m.p n.p))):=by
 obtain⟨⟨f,b,a,d,on,wl,wh⟩,A,c⟩:=m;obtain⟨⟨nm2,kd2,f2,l2,on2,wl2,wh2⟩,A2,c2⟩:=n;go_enter Tryz.func146,Tryz.ntmps146
 go_wp2
 all_goals
  go_ret
  exact⟨aY (by unfold dN;simp only;rw[Bool.eq_iff_iff];simp;omega),bA (bA (bR _) _) _⟩
def l8(l:List ByteArray)(s:ByteArray):Int:=dx (fun o=>eqS s o) l
theorem tW(A:Option Addr)(l:List ByteArray)(B cap:Nat)(s:ByteArray)(w:World)(g:l.length≤maxLen)(f:am .string w B A l) :
  Cs 172 #[.slice A l.length cap,.string s] w fun e w'=>e=.returned (iv (l8 l s))∧w'=w:=by
 unfold maxLen at g;go_enter Tryz.func172,Tryz.ntmps172
 go_wp2
 go_loop [8] (fun i=>∃k:Nat,k≤l.length∧i=iv k∧Hid (dS (fun o=>eqS s o) l k=false)) (fun i=>l.length-(intOf i).toNat)
 case atStart=>exact⟨0,Nat.zero_le _,rfl,Lq rfl⟩
 case round =>
  obtain⟨k,h,rfl,a⟩:=hrel;by_cases hlt:k<l.length
  ·obtain⟨x,hx⟩:=gX (l:=l) (i:=k) hlt;obtain⟨b,off,rfl,_,hck⟩:=f k x hx;have HX:=Lq hx;clear hx;cases hp:(s.toList==x.toList)
   ·have c:=Lq hp;go_wp2
    go_round
    case rel=>exact⟨k+1,by omega,by go_num,Lq (kE HX.out a.out c.out)⟩
    case measure=>simp[intOf];omega
   ·have c:=Lq hp;go_wp2
    go_ret
    exact⟨dm (kD HX.out c.out a.out).1.symm,rfl⟩
  ·go_wp2
   go_ret
   refine⟨dm (fL ?_).symm,rfl⟩;have d:=a.out;unfold dS at d;rw[List.take_of_length_le (by omega)]at d
   exact d
theorem tX(a b:ByteArray):eqS a b=eqS b a:=by unfold eqS;rw[Bool.eq_iff_iff];simp;exact eq_comm
theorem tY(l:List ByteArray)(s:ByteArray):decide (0≤l8 l s)=cK l s:=by
 have a:(l.any fun o=>eqS s o)=cK l s:=by unfold cK;congr 1;funext o;rw[tX];rfl
 unfold l8;cases h:cK l s
 ·rw[h]at a;rw[fL a];rfl
 ·rw[h]at a;have:=lm a
  simpa using this
theorem tZ(A:Option Addr)(l:List ByteArray)(B cap:Nat)(s:ByteArray)(w:World)(c:l.length≤maxLen)(b:am .string w B A l) :
  Cs 156 #[.slice A l.length cap,.string s] w fun e w'=>e=.returned (.bool (cK l s))∧w'=w:=by
 have a:=Lq (tW A l B cap s w c b);have HD:=Lq (tY l s);obtain⟨r,hr⟩:=ex (l8 l s);rw[hr]at a HD;clear hr b;go_enter Tryz.func156,Tryz.ntmps156
 go_wp2_with (go_at_call 172;refine a.out.mono ?_;rintro e w' ⟨rfl,rfl⟩)
 go_ret
 exact⟨aY HD.out,rfl⟩
theorem t6(m:aj)(s:ByteArray)(B:Nat)(w:World)(i:B≤w.heap.size)(d:aR w B m):Cs 90 #[mV m,.string s] w (Rt w (.bool (standsB m.p s))):=by
 obtain⟨f,j,a,g,h⟩:=lY w m;have HC:Hid (Cs 156 #[.slice m.A m.p.on.length m.cap,.string s] f fun e w'=>e=.returned (.bool (standsB m.p s))∧w'=f):=Lq (tZ m.A m.p.on B m.cap s f (lT d.le d.cm) (d.on.below a i))
 obtain⟨k,b⟩:=ex (standsB m.p s);rw[b]at HC ⊢;have HB1:=Lq a;have k4:=h.c 4;clear d b a h g;obtain⟨⟨yn,yk,yf,yl,yon,yw,yz⟩,yA,yc⟩:=m;go_enter Tryz.func90,Tryz.ntmps90
 go_wp2_with (go_at_call 156;refine HC.out.mono ?_;rintro e w' ⟨rfl,rfl⟩)
 go_ret
 exact⟨rfl,HB1.out⟩
theorem Cy(m:aj)(s:ByteArray)(a:Nat)(w:World)(hc:w.cell? ⟨a,0,none⟩=some (.string s)):Cs 142 #[mV m,pT a 0] w (Rt w (.bool (aX s m.p))):=by
 obtain⟨⟨i,g,f,h,b,j,k⟩,c,d⟩:=m;have hlt:=br hc;go_enter Tryz.func142,Tryz.ntmps142
 go_wp2
 go_ret
 exact⟨aY rfl,bA (bR _) _⟩
theorem Cz(m:aj)(s:ByteArray)(g B:Nat)(w:World)(h:B≤w.heap.size)(i:aR w B m)(hc:w.cell? ⟨g,2,none⟩=some (.string s)):Cs 194 #[mV m,pT g 0] w (Rt w (.bool (standsB m.p s))):=by
 obtain⟨c,d,a,f,j⟩:=lY w m;have HC:Hid (Cs 90 #[mV m,.string s] c (Rt c (.bool (standsB m.p s)))):=Lq (t6 m s B c (lT h a.size) (i.below a h));obtain⟨bb,hbb⟩:=ex (standsB m.p s);rw[hbb]at HC ⊢;have HB1:=Lq a;have kx:=kC a hc;have hlt:=br hc;obtain⟨k0,k1,k2,k3,k4,k5,k6⟩:=j.c7;clear i hbb a j f hc;obtain⟨⟨yn,yk,yf,yl,yon,yw,yz⟩,yA,yc⟩:=m;go_enter Tryz.func194,Tryz.ntmps194
 go_wp2_with fail;refine HC.out.mono ?_;rintro e k ⟨rfl,b⟩;have HB2:=Lq (bT HB1.out b);clear b d k0 k1 k2 k3 k4 k5 k6 kx;go_wp2_with fail;go_ret
 exact⟨rfl,HB2.out⟩
theorem t7(A:Option Addr)(ms:List aj)(B cap a:Nat)(s:ByteArray)(w:World)(f:B≤w.heap.size)(g:ms.length≤maxLen)(H:cF w B A ms)(hc:w.cell? ⟨a,0,none⟩=some (.slice A ms.length cap)) :
  Cs 143 #[.string s,pT a 0] w (Rt w (.bool (!hasP (ab ms) s))):=by
 have c:=Lq (jK A ms B cap a s w f g H hc);have HD:Hid (decide (ct (ab ms) s<0)=!hasP (ab ms) s):=Lq (by
  cases h:hasP (ab ms) s
  ·have:=iO.2 h
   simpa using this
  ·have:¬ct (ab ms) s<0:=fun h2=>by have:=iO.1 h2;rw[h]at this;cases this
   simpa using this)
 obtain⟨r,d⟩:=ex (ct (ab ms) s);rw[d]at c HD;clear d H hc;go_enter Tryz.func143,Tryz.ntmps143
 go_wp2_with fail;refine c.out.mono ?_;rintro e i ⟨rfl,b⟩;go_wp2_with fail;go_ret
 exact⟨aY HD.out,b⟩
def metB(x:ah)(ps:List ah)(s:ByteArray):Bool:=match ps.find? (aX s)with
 | some y=>dN x y
 | none=>false
theorem ub(A:Option Addr)(ms:List aj)(m:aj)(B cap d u:Nat)(s:ByteArray)(w:World)(M:B≤w.heap.size)(J:ms.length≤maxLen)(H:cF w B A ms)(hx:aa w d 50 #[.string m.p.name,iv m.p.kind,iv m.p.first,iv m.p.last,.slice m.A m.p.on.length m.cap,iv m.p.wlo,iv m.p.whi])(hc:w.cell? ⟨u,0,none⟩=some (.slice A ms.length cap))(I:hasP (ab ms) s=true) :
  Cs 145 #[.string s,pT d 0,pT u 0] w (Rt w (.bool (!metB m.p (ab ms) s))):=by
 obtain⟨o,n,R,N,_⟩:=fU I;obtain⟨y0,hf,hf2⟩:=o6 I;obtain⟨j,hj⟩:=ex (aL (ab ms) s);rw[hj]at o n N hf2;have hjl2:j<ms.length:=by simpa using n
 obtain⟨y,q⟩:=gX (l:=ms) (i:=j) hjl2;have hyp:y0=y.p:=by rw[bN q]at hf2;injection hf2 with hf2;exact hf2.symm
 have h:metB m.p (ab ms) s=dN m.p y.p:=by unfold metB;rw[hf,hyp]
 rw[h];obtain⟨b,a,rfl,_,_,x,z,C,D,E,F,G⟩:=H.at q;have hF:Cs 88 #[pT u 0,.string s] w.drew (Rt w.drew (iv j)):=o▸jK _ ms B cap u s w.drew M J (H.below (aZ (bR w)) M) (kC (aZ (bR w)) hc);have HF:=Lq hF;have hM:=fun W=>tV m y W
 obtain⟨⟨g,f,first,last,on,t,r⟩,K,L⟩:=m;obtain⟨⟨yn,yk,yf,yl,yon,yw,yz⟩,yA,yc⟩:=y;simp only at x z C D E F G hM ⊢;obtain⟨bm,hbm⟩:=ex (dN (ah.mk g f first last on t r) (ah.mk yn yk yf yl yon yw yz));rw[hbm]at hM ⊢;have HM:=Lq hM;have HS:Hid (∀W,BW w W→cA W u 0 (.slice (some ⟨b,a,none⟩) ms.length cap)∧cA W d 0 (.string g)∧cA W d 1 (iv f)∧cA W d 2 (iv first)∧cA W d 3 (iv last)∧cA W d 4 (.slice K on.length L)∧cA W d 5 (iv t)∧cA W d 6 (iv r)∧cA W b (a+j*7) (.string yn)∧cA W b (a+j*7+1) (iv yk)∧cA W b (a+j*7+2) (iv yf)∧cA W b (a+j*7+3) (iv yl)∧cA W b (a+j*7+4) (.slice yA yon.length yc)∧cA W b (a+j*7+5) (iv yw)∧cA W b (a+j*7+6) (iv yz)):=Lq fun W hb=>have k:=hx.keep hb;⟨kC hb hc,k.c 0,k.c 1,k.c 2,k.c 3,k.c 4,k.c 5,k.c 6,kC hb x,kC hb z,kC hb C,kC hb D,kC hb E,kC hb F,kC hb G⟩
 have O:=nn j;have hm9:ms.length≤9223372036854775807:=by simp only[maxLen]at J;omega
 clear o n N hf hf2 hj q hyp h hF hM hbm H hx hc I x z C D E F G J;go_enter Tryz.func145,Tryz.ntmps145
 go_wp2_with fail;go_region_held3 (fun W=>cA W u 0 (.slice (some ⟨b,a,none⟩) ms.length cap)∧cA W d 0 (.string g)∧cA W d 1 (iv f)∧cA W d 2 (iv first)∧cA W d 3 (iv last)∧cA W d 4 (.slice K on.length L)∧cA W d 5 (iv t)∧cA W d 6 (iv r)∧cA W b (a+j*7) (.string yn)∧cA W b (a+j*7+1) (iv yk)∧cA W b (a+j*7+2) (iv yf)∧cA W b (a+j*7+3) (iv yl)∧cA W b (a+j*7+4) (.slice yA yon.length yc)∧cA W b (a+j*7+5) (iv yw)∧cA W b (a+j*7+6) (iv yz)) (first | exact HS.out _ (bT (u0 hb5) hb7) | exact HS.out _ (u0 hb5) | exact HS.out _ (aZ (bR _))) (first | (go_at_call 88;((with_reducible refine HF.out.mono ?_);rintro e w5 ⟨rfl,hb5⟩)) | (go_at_call 146;((with_reducible refine(HM.out _).mono ?_);rintro e w7 ⟨rfl,hb7⟩)))
 have v:=Lq (bT (u0 hb5) hb7);clear hb5 hb7;go_wp2_with fail;go_ret
 exact⟨rfl,v.out⟩
def uc(l:List ByteArray)(k:Nat):Prop:=∀j x,j<k→l[j]?=some x→cK (l.take j) x=false
theorem ud(l:List ByteArray):uc l l.length↔(l.map ByteArray.toList).Nodup:=by rw[qK];exact⟨fun h k x a=>h k x (lG a) a,fun h j x _ hj=>h j x hj⟩
def rq(l:List ByteArray)(w:World)(e:Ending)(w':World):Prop:=∃b:Bool,e=.returned (.bool b)∧(b=false↔(l.map ByteArray.toList).Nodup)∧w'=w
theorem ue(A:Option Addr)(l:List ByteArray)(B cap:Nat)(w:World)(s:l.length≤cap)(c:cap≤maxLen)(m:am .string w B A l) :
  Cs 144 #[.slice A l.length cap] w (rq l w):=by
 have n:cap≤9223372036854775807:=by simp only[maxLen]at c;omega
 have a:=Lq m;clear m;go_enter Tryz.func144,Tryz.ntmps144
 go_wp2
 go_loop [7] (fun i=>∃k:Nat,k≤l.length∧i=iv k∧Hid (uc l k)) (fun i=>l.length-(intOf i).toNat)
 case atStart=>exact⟨0,Nat.zero_le _,rfl,Lq (fun j x h=>by omega)⟩
 case round =>
  obtain⟨k,r,rfl,g⟩:=hrel;have hk0:=nn k;have hkc:(k:Int)≤(cap:Int):=by omega
  by_cases hlt:k<l.length
  ·obtain⟨x,hx⟩:=gX (l:=l) (i:=k) hlt;have hcall:=tZ A (l.take k) B cap x w (by rw[List.length_take];omega) (a.out.take k)
   have d:(l.take k).length=k:=by rw[List.length_take];omega
   rw[d]at hcall;obtain⟨b,p,rfl,_,o⟩:=a.out k x hx;obtain⟨bb,hbb⟩:=ex (cK (l.take k) x);rw[hbb]at hcall;have HC:=Lq hcall;have HX:=Lq hx;have HBB:=Lq hbb;clear hx hcall d hbb;cases bb
   ·go_wp2_with (go_at_call 156;refine HC.out.mono ?_;rintro e w' ⟨rfl,rfl⟩)
    go_round
    case rel =>
     refine⟨k+1,by omega,by go_num,Lq (fun j y q f=>?_)⟩
     rcases Nat.lt_or_ge j k with hjk | hjk
     ·exact g.out j y hjk f
     ·obtain rfl:j=k:=by omega
      rw[HX.out]at f;injection f with f
      subst f;exact HBB.out
    case measure=>simp[intOf];omega
   ·go_wp2_with (go_at_call 156;refine HC.out.mono ?_;rintro e w' ⟨rfl,rfl⟩)
    go_ret
    refine⟨true,rfl,⟨(fun h=>by cases h),fun h=>?_⟩,rfl⟩
    have:=(ud l).2 h k x hlt HX.out;rw[HBB.out]at this;cases this
  ·obtain rfl:k=l.length:=by omega
   go_wp2
   go_ret
   exact⟨false,rfl,⟨fun _=>(ud l).1 g.out,fun _=>rfl⟩,rfl⟩
end Go.Proofs.YtbillnhcmkpohaaGreatDoor
