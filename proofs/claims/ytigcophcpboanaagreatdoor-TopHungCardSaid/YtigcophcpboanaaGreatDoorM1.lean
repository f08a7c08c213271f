/- Parts of a ship, and changes, in memory. The reference of layer 1: find, meet, stood. The .. -/
import Derived.Deep.RegionHeld3
import Derived.Deep.DeepCutAuto
import Derived.OrdersHeld
import Derived.Deep.RegionHeld
import Derived.Test.YtigcophcpboanaaGreatDoorM0
set_option maxRecDepth 1000000
set_option maxHeartbeats 0
namespace Go.Proofs.YtigcophcpboanaaGreatDoor
open Go.RowKit
section
variable{s:ByteArray}{i k:Nat}
structure HuM where
 p:HuP
 A:Option Addr
 cap:Nat
def encM(m:HuM):List Value:=[.string m.p.name,iv m.p.kind,iv m.p.first,iv m.p.last,.slice m.A m.p.on.length m.cap,iv m.p.wlo,iv m.p.whi]
theorem encM_len:∀m,(encM m).length=7:=fun _=>rfl
abbrev mV(m:HuM):Value:=.agg #[.string m.p.name,iv m.p.kind,iv m.p.first,iv m.p.last,.slice m.A m.p.on.length m.cap,iv m.p.wlo,iv m.p.whi]
abbrev psOf(ms:List HuM):List HuP:=ms.map HuM.p
structure MOk(w:World)(B:Nat)(m:HuM):Prop where
 on:Rd1 .string w B m.A m.p.on
 le:m.p.on.length≤m.cap
 cm:m.cap≤maxLen
 nm:m.p.name.size≤maxLen
 ons:∀o∈m.p.on,o.size≤maxLen
 sz:m.p.on.length*16≤140737488351232
structure MsRd(w:World)(B:Nat)(A:Option Addr)(ms:List HuM):Prop where
 rd:RdN 7 encM w B A ms
 ok:∀m∈ms,MOk w B m
section
variable {w w':World} {B B':Nat} {A:Option Addr} {ms:List HuM} {m:HuM}
theorem MOk.below(h:MOk w B m)(hb:Below B' w w')(hB:B≤B'):MOk w' B m:=⟨h.on.below hb hB,h.le,h.cm,h.nm,h.ons,h.sz⟩
theorem MOk.more(h:MOk w B m)(hB:B≤B'):MOk w B' m:=⟨h.on.more hB,h.le,h.cm,h.nm,h.ons,h.sz⟩
theorem MsRd.below(h:MsRd w B A ms)(hb:Below B' w w')(hB:B≤B'):MsRd w' B A ms:=⟨h.rd.below hb hB,fun m hm=>(h.ok m hm).below hb hB⟩
theorem MsRd.more(h:MsRd w B A ms)(hB:B≤B'):MsRd w B' A ms:=⟨h.rd.more hB,fun m hm=>(h.ok m hm).more hB⟩
theorem MsRd.take(h:MsRd w B A ms)(n:Nat):MsRd w B A (ms.take n):=⟨h.rd.take n,fun m hm=>h.ok m (List.mem_of_mem_take hm)⟩
theorem MsRd.nil:MsRd w B A []:=⟨RdN.nil,fun _ h=>by cases h⟩
theorem MsRd.at(h:MsRd w B A ms)(hx:ms[i]?=some m) :
  ∃b off,A=some ⟨b,off,none⟩∧b<B∧MOk w B m∧cA w b (off+i*7) (.string m.p.name)∧cA w b (off+i*7+1) (iv m.p.kind)∧cA w b (off+i*7+2) (iv m.p.first)∧cA w b (off+i*7+3) (iv m.p.last)∧cA w b (off+i*7+4) (.slice m.A m.p.on.length m.cap)∧cA w b (off+i*7+5) (iv m.p.wlo)∧cA w b (off+i*7+6) (iv m.p.whi):=by
 obtain⟨b,off,e,hb,hc⟩:=h.rd i m hx;exact⟨b,off,e,hb,h.ok m (mG ⟨i,hx⟩),hc 0 _ rfl,hc 1 _ rfl,hc 2 _ rfl,hc 3 _ rfl,hc 4 _ rfl,hc 5 _ rfl,hc 6 _ rfl⟩
end
theorem ps_at{ms:List HuM}{m:HuM}(h:ms[i]?=some m):(psOf ms)[i]?=some m.p:=by rw[List.getElem?_map,h];rfl
theorem posP_found{l:List HuP}{p:HuP}(hk:l[k]?=some p)(hp:nmB s p=true)(hn:hasP (l.take k) s=false):idxP l s=k∧posP l s=(k:Int)∧hasP l s=true:=by
 obtain⟨hl,e⟩:=List.getElem?_eq_some_iff.1 hk;have hi:idxP l s=k:=by
  unfold idxP;rw[List.findIdx_eq hl];refine⟨by rw[e];exact hp,fun j hj=>?_⟩
  cases hb:nmB s l[j]with
  | false=>rfl
  | true =>
   exfalso;exact hasP_false.1 hn _ (mG ⟨j,by rw[List.getElem?_take_of_lt hj];exact gE (by omega)⟩) (nmB_iff.1 hb)
 refine⟨hi, ?_,hasP_iff.2 ⟨p,mG ⟨k,hk⟩,nmB_iff.1 hp⟩⟩;unfold posP;rw[hi,if_pos hl]
theorem posP_none{l:List HuP}(hn:hasP l s=false):posP l s = -1:=by unfold posP;rw[if_neg];intro h;obtain⟨p,hp,e⟩:=idx_lt.1 h;exact hasP_false.1 hn p hp e
theorem hasP_snoc{l:List HuP}{p:HuP}(hk:l[k]?=some p):hasP (l.take (k+1)) s=(hasP (l.take k) s||nmB s p):=by unfold hasP;obtain⟨h,rfl⟩:=List.getElem?_eq_some_iff.1 hk;rw[List.take_succ_eq_append_getElem h,List.any_append];simp
theorem find_none_of{l:List HuP}(h:hasP l s=true):∃y,l.find? (nmB s)=some y∧l[idxP l s]?=some y:=by
 cases hf:l.find? (nmB s)with
 | none =>
  obtain⟨p,hp,e⟩:=hasP_iff.1 h;have:=List.find?_eq_none.1 hf p hp;rw[nmB_iff.2 e]at this;exact absurd rfl this
 | some y =>
  obtain⟨j,rfl,hj,_⟩:=find_at hf;exact⟨y,rfl,hj⟩
theorem nodup_iff(l:List ByteArray):(l.map ByteArray.toList).Nodup↔∀k x,l[k]?=some x→oneOf (l.take k) x=false:=by
 unfold List.Nodup;rw[List.pairwise_map,List.pairwise_iff_getElem];constructor
 ·intro h k x hk;obtain⟨hl,rfl⟩:=List.getElem?_eq_some_iff.1 hk;rw[Bool.eq_false_iff];intro ho;unfold oneOf at ho;rw[List.any_eq_true]at ho;obtain⟨y,hy,e⟩:=ho;obtain⟨j,hj⟩:=List.mem_iff_getElem?.1 hy;rw[List.getElem?_take]at hj;split at hj
  ·rename_i hjk;obtain⟨hl2,rfl⟩:=List.getElem?_eq_some_iff.1 hj;exact h j k hl2 hl hjk (by simpa using e)
  ·cases hj
 ·intro h i j hi hj hij e;have:=h j l[j] (gE hj);unfold oneOf at this;rw[List.any_eq_false]at this;exact this l[i] (mG ⟨i,by rw[List.getElem?_take_of_lt hij];exact gE hi⟩) (by simpa using e)
end
section
variable{s:ByteArray}
theorem find61_any(A:Option Addr)(ms:List HuM)(B cap:Nat)(s:ByteArray)(w:World)(hm:ms.length≤maxLen)(H:MsRd w B A ms) :
  Cs 61 #[.slice A ms.length cap,.string s] w fun e w'=>e=.returned (iv (posP (psOf ms) s))∧w=w':=by
 unfold maxLen at hm;have HH:=Lq H;clear H;go_enter Tryz.func61,Tryz.ntmps61
 go_wp2
 go_loop [5] (fun i=>∃k:Nat,k≤ms.length∧i=iv k∧hasP ((psOf ms).take k) s=false) (fun i=>ms.length-(intOf i).toNat)
 case atStart=>exact⟨0,Nat.zero_le _,rfl,by simp[hasP]⟩
 case round =>
  obtain⟨k,hk,rfl,hn⟩:=hrel;have HN:=Lq hn;clear hn;by_cases hlt:k<ms.length
  ·obtain⟨m,hx⟩:=gX (l:=ms) (i:=k) hlt;obtain⟨b,off,rfl,_,_,c0,_⟩:=HH.out.at hx;have HX:=Lq hx;clear hx HH;cases hp:(m.p.name.toList==s.toList)
   ·have HP:=Lq hp;go_wp2
    go_round
    case rel=>exact⟨k+1,by omega,by go_num,by rw[hasP_snoc (ps_at HX.out),HN.out];exact HP.out⟩
    case measure=>simp[intOf];omega
   ·have HP:=Lq hp;go_wp2
    go_ret
    exact⟨ret_int (posP_found (ps_at HX.out) HP.out HN.out).2.1.symm,rfl⟩
  ·go_wp2
   go_ret
   have hn:=HN.out;rw[List.take_of_length_le (by simp;omega)]at hn
   exact⟨ret_int (posP_none hn).symm,rfl⟩
def meetM(a b:HuP):Bool:=decide (max a.first b.first≤min a.last b.last)
theorem meetM_eq{a b:HuP}(ha:a.first≤a.last)(hb:b.first≤b.last):meetM a b=meetB a b:=by unfold meetM meetB;rw[Bool.eq_iff_iff];simp;omega
theorem meet63_any(m n:HuM)(w:World):Cs 62 #[mV m,mV n] w (Rt w (.bool (meetM m.p n.p))):=by
 obtain⟨⟨nm,kd,f1,l1,on,wl,wh⟩,A,c⟩:=m;obtain⟨⟨nm2,kd2,f2,l2,on2,wl2,wh2⟩,A2,c2⟩:=n;go_enter Tryz.func62,Tryz.ntmps62
 go_wp2
 all_goals
  go_ret
  exact⟨ret_bool (by unfold meetM;rw[Bool.eq_iff_iff];simp;omega),bA (bA (bR _) _) _⟩
def stoodB(l:List HuP)(s:ByteArray):Bool:=l.any fun q=>standsB q s
theorem stoodB_yes{l:List HuP}{q:HuP}(hq:q∈l)(h:standsB q s=true):stoodB l s=true:=List.any_eq_true.2 ⟨q,hq,h⟩
theorem stoodB_no{l:List HuP}:stoodB l s=false↔∀q∈l,standsB q s=false:=by unfold stoodB;rw[List.any_eq_false];exact⟨fun h q hq=>by simpa using h q hq,fun h q hq=>by simp[h q hq]⟩
theorem stood64_any(A:Option Addr)(ms:List HuM)(B cap:Nat)(s:ByteArray)(w:World)(hm:ms.length≤maxLen)(H:MsRd w B A ms) :
  Cs 63 #[.slice A ms.length cap,.string s] w fun e w'=>e=.returned (.bool (stoodB (psOf ms) s))∧w=w':=by
 unfold maxLen at hm;have HH:=Lq H;clear H;go_enter Tryz.func63,Tryz.ntmps63
 go_wp2
 go_loop [5] (fun i=>∃k:Nat,k≤ms.length∧i=iv k∧∀q∈(psOf ms).take k,standsB q s=false) (fun i=>ms.length-(intOf i).toNat)
 case atStart=>exact⟨0,Nat.zero_le _,rfl,by simp⟩
 case round =>
  obtain⟨k,hk,rfl,hn⟩:=hrel;have HN:=Lq hn;clear hn;by_cases hlt:k<ms.length
  ·obtain⟨m,hx⟩:=gX (l:=ms) (i:=k) hlt;obtain⟨b,off,rfl,_,ho,_,_,_,_,c4,_⟩:=HH.out.at hx;have HX:=Lq hx;have HO:=Lq (place_any m.A m.p.on B m.cap s w (lT ho.le ho.cm) ho.on);have hps:∀r:Int,decide (0≤r)=oneOf m.p.on s→decide (0≤r)=standsB m.p s:=fun _ h=>h
   have HPS:=Lq hps;clear hx HH ho hps;go_wp2_with fail;refine HO.out.mono ?_;rintro e w' ⟨r,rfl,hr,rfl⟩;have hr2:=HPS.out r hr;clear hr;obtain⟨bb,hbb⟩:=ex (standsB m.p s);have HB:=Lq hbb;rw[hbb]at hr2;clear hbb;cases bb
   ·have hr3:¬0≤r:=by simpa using hr2
    clear hr2;go_wp2_with fail;go_round
    case rel =>
     refine⟨k+1,by omega,by go_num,fun q hq=>?_⟩
     rw[List.take_add_one,ps_at HX.out]at hq;simp only[List.mem_append,Option.toList_some,List.mem_singleton]at hq;rcases hq with hq | rfl
     ·exact HN.out q hq
     ·exact HB.out
    case measure=>simp[intOf];omega
   ·have hr3:0≤r:=by simpa using hr2
    clear hr2;go_wp2_with fail;go_ret
    exact⟨ret_bool (stoodB_yes (mG ⟨k,ps_at HX.out⟩) HB.out).symm,rfl⟩
  ·go_wp2
   go_ret
   have hn:=HN.out;rw[List.take_of_length_le (by simp;omega)]at hn
   exact⟨ret_bool (stoodB_no.2 hn).symm,rfl⟩
def placeI(l:List ByteArray)(s:ByteArray):Int:=if oneOf l s then(l.findIdx (fun o=>eqS o s):Int)else -1
theorem placeI_neg{l:List ByteArray}:placeI l s<0↔oneOf l s=false:=by
 unfold placeI;split
 ·rename_i h;rw[h];exact⟨fun h0=>by omega,fun h0=>by cases h0⟩
 ·rename_i h;exact⟨fun _=>by simpa using h,fun _=>by omega⟩
theorem placeI_found{l:List ByteArray}{x:ByteArray}{k:Nat}(hk:l[k]?=some x)(hp:(x.toList==s.toList)=true)(hn:oneOf (l.take k) s=false):placeI l s=(k:Int):=by
 obtain⟨hl,e⟩:=List.getElem?_eq_some_iff.1 hk;have hi:l.findIdx (fun o=>eqS o s)=k:=by
  rw[List.findIdx_eq hl];refine⟨by rw[e];exact hp,fun j hj=>?_⟩
  unfold oneOf at hn;rw[List.any_eq_false]at hn;have:=hn l[j] (mG ⟨j,by rw[List.getElem?_take_of_lt hj];exact gE (by omega)⟩)
  simpa[eqS]using this
 unfold placeI;rw[if_pos (oneOf_yes hk hp),hi]
theorem place62v_any(A:Option Addr)(l:List ByteArray)(B cap:Nat)(s:ByteArray)(w:World)(hm:l.length≤maxLen)(hR:Rd1 .string w B A l) :
  Cs 8 #[.slice A l.length cap,.string s] w fun e w'=>e=.returned (iv (placeI l s))∧w'=w:=by
 unfold maxLen at hm;go_enter Tryz.func8,Tryz.ntmps8
 go_wp2
 go_loop [5] (fun i=>∃k:Nat,k≤l.length∧i=iv k∧oneOf (l.take k) s=false) (fun i=>l.length-(intOf i).toNat)
 case atStart=>exact⟨0,Nat.zero_le _,rfl,by simp[oneOf]⟩
 case round =>
  obtain⟨k,hk,rfl,hn⟩:=hrel;have HN:=Lq hn;clear hn;by_cases hlt:k<l.length
  ·obtain⟨x,hx⟩:=gX (l:=l) (i:=k) hlt;obtain⟨b,off,rfl,_,hck⟩:=hR k x hx;have HX:=Lq hx;clear hx;cases hp:(x.toList==s.toList)
   ·have HP:=Lq hp;go_wp2
    go_round
    case rel=>exact⟨k+1,by omega,by go_num,by rw[oneOf_snoc _ _ _ _ HX.out,HN.out,HP.out];rfl⟩
    case measure=>simp[intOf];omega
   ·have HP:=Lq hp;go_wp2
    go_ret
    exact⟨ret_int (placeI_found HX.out HP.out HN.out).symm,rfl⟩
  ·go_wp2
   go_ret
   have hn:=HN.out;rw[List.take_of_length_le (by omega)]at hn
   exact⟨ret_int (by unfold placeI;rw[hn];rfl),rfl⟩
end
section
variable{w w':World}
def ErrIff(P:Prop)(w:World)(e:Ending)(w':World):Prop:=∃r:Int,e=.returned (iv r)∧(r=0↔P)∧BW w w'
theorem errNo{P:Prop}{r:Int}(h0:r≠0)(hP:¬P)(hb:BW w w'):ErrIff P w (.returned (iv r)) w':=⟨r,rfl,⟨fun h=>absurd h h0,fun h=>absurd h hP⟩,hb⟩
theorem errOk{P:Prop}(hP:P)(hb:BW w w'):ErrIff P w (.returned (iv 0)) w':=⟨0,rfl,⟨fun _=>hP,fun _=>rfl⟩,hb⟩
theorem mBox(w:World)(m:HuM):∃W1,w.alloc (.cells #[.string m.p.name,iv m.p.kind,iv m.p.first,iv m.p.last,.slice m.A m.p.on.length m.cap,iv m.p.wlo,iv m.p.whi] 43)=W1∧BW w W1∧W1.heap.size=w.heap.size+1∧Blk W1 w.heap.size 43 #[.string m.p.name,iv m.p.kind,iv m.p.first,iv m.p.last,.slice m.A m.p.on.length m.cap,iv m.p.wlo,iv m.p.whi] :=
 ⟨_,rfl,bA (bR _) _,by simp,Blk.new w 43 _⟩
theorem Blk.keep{W W':World}{g:Nat}{t:TypeId}{cs:Array Value}(h:Blk W g t cs)(hb:BW W W'):Blk W' g t cs:=h.same (hb.block _ h.lt)
theorem u0(h:BW w.drew w'):BW w w':=⟨h.os,h.tape,h.output,h.size,h.block⟩
theorem belowDr{B:Nat}{a:World}(h:Below B a w):Below B a w.drew:=⟨h.os,h.tape,h.output,h.size,h.block⟩
theorem part_parts{name:ByteArray}{kind first last wlo whi r2:Int}{on:List ByteArray}{bs os:List HuP}(k1:nameB name=true)(k2:posP os name=r2)(hr2:¬0≤r2)(k4:inB 1 5 kind=true)(k5:inB 0 40 first=true)(k6:inB 0 40 last=true)(k3:rangeE 1 1000000 wlo whi=0)(h8:first≤last) :
  PartOk ⟨name,kind,first,last,on,wlo,whi⟩ bs os↔(∀o∈on,hasP bs o=true)∧(∀k x,on[k]?=some x→oneOf (on.take k) x=false)∧(∀o∈on,∀y,bs[idxP bs o]?=some y→meetB ⟨name,kind,first,last,on,wlo,whi⟩ y=true):=by
 have hr:1≤wlo∧wlo≤whi∧whi≤1000000:=by
  unfold rangeE at k3;split at k3
  ·rename_i hi;rw[Bool.and_eq_true]at hi;have:=inB_t hi.1;have:=inB_t hi.2;split at k3
   ·cases k3
   ·omega
  ·cases k3
 have hn:hasP os name=false:=posP_neg.1 (by omega)
 constructor
 ·intro h;refine⟨fun o ho=>?_,(nodup_iff on).1 h.dup,fun o ho y hy=>?_⟩
  ·obtain⟨y,hy,_⟩:=h.on o ho;exact hasP_iff.2 ⟨y,List.mem_of_find?_eq_some hy,nmB_iff.1 (List.find?_some hy)⟩
  ·obtain⟨z,hz,hm⟩:=h.on o ho;obtain⟨j,rfl,hj,_⟩:=find_at hz;rw[hj]at hy;injection hy with hy
   exact hy▸hm
 ·rintro⟨h1,h2,h3⟩;refine⟨k1,hasP_false.1 hn,inB_t k4,⟨(inB_t k5).1,h8,(inB_t k6).2⟩,hr,fun o ho=>?_,(nodup_iff on).2 h2⟩
  obtain⟨y,hy,hy2⟩:=find_none_of (h1 o ho);exact⟨y,hy,h3 o ho y hy2⟩
theorem part13_any(m:HuM)(bs os:List HuM)(A A':Option Addr)(B cb co:Nat)(w:World)(hB:B≤w.heap.size)(hM:MOk w B m)(H:MsRd w B A bs)(H':MsRd w B A' os)(hbl:bs.length≤cb)(hcb:cb≤maxLen)(hol:os.length≤maxLen)(hv:∀b∈bs,b.p.first≤b.p.last) :
  Cs 14 #[mV m,.slice A bs.length cb,.slice A' os.length co] w (ErrIff (PartOk m.p (psOf bs) (psOf os)) w):=by
 obtain⟨W1,hW1,hb1,hz1,hq⟩:=mBox w m;have HM1:=Lq (hM.below hb1 hB);have HH1:=Lq (H.below hb1 hB);have HO1:=Lq (H'.below hb1 hB);have HV:=Lq hv;clear hM H H' hv;obtain⟨⟨name,kind,first,last,on,wlo,whi⟩,Ao,ca⟩:=m;have HB1:=Lq hb1;have HC:Hid (∀W,BW W1 W→cA W (w.heap.size) 0 (.string name)∧cA W (w.heap.size) 1 (iv kind)∧cA W (w.heap.size) 2 (iv first)∧cA W (w.heap.size) 3 (iv last)∧cA W (w.heap.size) 4 (.slice Ao on.length ca)∧cA W (w.heap.size) 5 (iv wlo)∧cA W (w.heap.size) 6 (iv whi)∧w.heap.size<W.heap.size):=Lq fun W hb=>have k:=hq.keep hb;⟨k.cell 0,k.cell 1,k.cell 2,k.cell 3,k.cell 4,k.cell 5,k.cell 6,k.lt⟩
 obtain⟨b1,h1⟩:=ex (nameB name);have HN:Hid (∀W,Cs 60 #[.string name] W (Rt W (.bool b1))):=Lq fun W=>h1▸refName_any name W HM1.out.nm
 obtain⟨r2,h2⟩:=ex (posP (psOf os) name);have HF:Hid (∀W,BW W1 W→Cs 61 #[.slice A' os.length co,.string name] W fun e w'=>e=.returned (iv r2)∧W=w'):=Lq fun W hb=>h2▸find61_any A' os B co name W hol (HO1.out.below hb (by omega))
 obtain⟨re,h3⟩:=ex (rangeE 1 1000000 wlo whi);have HR:Hid (∀W,Cs 47 #[.agg #[iv wlo,iv whi],iv 1,iv 1000000] W (Rt W (iv re))):=Lq fun W=>h3▸range_any 1 1000000 wlo whi W
 obtain⟨b4,h4⟩:=ex (inB 1 5 kind);obtain⟨b5,h5⟩:=ex (inB 0 40 first);obtain⟨b6,h6⟩:=ex (inB 0 40 last);have HI4:Hid (∀W,Cs 15 #[iv kind,iv 1,iv 5] W fun e w'=>e=.returned (.bool b4)∧W=w'):=Lq fun W=>h4▸within_any kind 1 5 W
 have HI5:Hid (∀W,Cs 15 #[iv first,iv 0,iv 40] W fun e w'=>e=.returned (.bool b5)∧W=w'):=Lq fun W=>h5▸within_any first 0 40 W
 have HI6:Hid (∀W,Cs 15 #[iv last,iv 0,iv 40] W fun e w'=>e=.returned (.bool b6)∧W=w'):=Lq fun W=>h6▸within_any last 0 40 W
 have K1:=Lq h1;have K2:=Lq h2;have K3:=Lq h3;have K4:=Lq h4;have K5:=Lq h5;have K6:=Lq h6;clear h1 h2 h3 h4 h5 h6 hq hb1;have hon:on.length≤9223372036854775807:=by have:=HM1.out.le;have:=HM1.out.cm;simp only[maxLen]at *;omega
 obtain⟨p0,p1,p2,p3,p4,p5,p6,hlw⟩:=HC.out _ (bR W1);go_enter Tryz.func14,Tryz.ntmps14
 go_wp2_with fail;refine(HN.out _).mono ?_;rintro e w1 ⟨rfl,hb⟩;have HB2:=Lq hb;clear hb hW1 p0 p1 p2 p3 p4 p5 p6 hlw HN;obtain⟨p0,p1,p2,p3,p4,p5,p6,hlw⟩:=HC.out _ HB2.out;cases b1 with
 | false =>
  go_wp2_with fail;go_ret
  exact errNo (by decide) (fun h=>by have:=h.nm;rw[K1.out]at this;cases this) (bT HB1.out HB2.out)
 | true =>
  go_wp2_with fail;refine(HF.out _ HB2.out).mono ?_;rintro e w' ⟨rfl,rfl⟩;by_cases hr2:0≤r2
  ·go_wp2_with fail;go_ret
   refine errNo (by decide) (fun h=>?_) (bT HB1.out HB2.out)
   have:=(posP_neg (l:=psOf os) (s:=name)).2 (hasP_false.2 h.new);rw[K2.out]at this;omega
  ·go_wp2_with fail;refine(HR.out _).mono ?_;rintro e w2 ⟨rfl,hb⟩;have HB3:=Lq (bT HB2.out hb);clear hb p0 p1 p2 p3 p4 p5 p6 hlw HR HF;obtain⟨p0,p1,p2,p3,p4,p5,p6,hlw⟩:=HC.out _ HB3.out;have HBX:=Lq (bT HB1.out HB3.out);cases b4 with
   | false =>
    go_wp2_with (go_at_call 15;refine(HI4.out _).mono ?_;rintro e w' ⟨rfl,rfl⟩)
    go_ret
    exact errNo (by decide) (fun h=>by have:=K4.out;have h9:=inB_mk h.kind.1 h.kind.2;simp only at h9;rw[this]at h9;cases h9) HBX.out
   | true =>
    cases b5 with
    | false =>
     go_wp2_with (first | (go_at_call 15;((with_reducible refine(HI4.out _).mono ?_);rintro e w' ⟨rfl,rfl⟩)) | (go_at_call 15;((with_reducible refine(HI5.out _).mono ?_);rintro e w' ⟨rfl,rfl⟩)))
     go_ret
     exact errNo (by decide) (fun h=>by have:=K5.out;have h9:=inB_mk h.fr.1 (Int.le_trans h.fr.2.1 h.fr.2.2);simp only at h9;rw[this]at h9;cases h9) HBX.out
    | true =>
     cases b6 with
     | false =>
      go_wp2_with (first | (go_at_call 15;((with_reducible refine(HI4.out _).mono ?_);rintro e w' ⟨rfl,rfl⟩)) | (go_at_call 15;((with_reducible refine(HI5.out _).mono ?_);rintro e w' ⟨rfl,rfl⟩)) | (go_at_call 15;((with_reducible refine(HI6.out _).mono ?_);rintro e w' ⟨rfl,rfl⟩)))
      go_ret
      exact errNo (by decide) (fun h=>by have:=K6.out;have h9:=inB_mk (Int.le_trans h.fr.1 h.fr.2.1) h.fr.2.2;simp only at h9;rw[this]at h9;cases h9) HBX.out
     | true =>
      by_cases h7:re=7
      ·subst h7;go_wp2_with (first | (go_at_call 15;((with_reducible refine(HI4.out _).mono ?_);rintro e w' ⟨rfl,rfl⟩)) | (go_at_call 15;((with_reducible refine(HI5.out _).mono ?_);rintro e w' ⟨rfl,rfl⟩)) | (go_at_call 15;((with_reducible refine(HI6.out _).mono ?_);rintro e w' ⟨rfl,rfl⟩)))
       go_ret
       exact errNo (by decide) (fun h=>by have:=K3.out;rw[rangeE_ok (by rw[inB_mk h.wt.1 (Int.le_trans h.wt.2.1 h.wt.2.2),inB_mk (Int.le_trans h.wt.1 h.wt.2.1) h.wt.2.2];rfl) h.wt.2.1]at this;cases this) HBX.out
      ·have h7b:(re==7)=false:=by simpa using h7
       by_cases h8:last<first
       ·go_wp2_with (first | (go_at_call 15;((with_reducible refine(HI4.out _).mono ?_);rintro e w' ⟨rfl,rfl⟩)) | (go_at_call 15;((with_reducible refine(HI5.out _).mono ?_);rintro e w' ⟨rfl,rfl⟩)) | (go_at_call 15;((with_reducible refine(HI6.out _).mono ?_);rintro e w' ⟨rfl,rfl⟩)))
        go_ret
        exact errNo (by decide) (fun h=>by have:=h.fr.2.1;simp only at this;omega) HBX.out
       ·have h8b:¬first>last:=by omega
        by_cases h9:re=0
        ·subst h9;go_wp2_with (first | (go_at_call 15;((with_reducible refine(HI4.out _).mono ?_);rintro e w' ⟨rfl,rfl⟩)) | (go_at_call 15;((with_reducible refine(HI5.out _).mono ?_);rintro e w' ⟨rfl,rfl⟩)) | (go_at_call 15;((with_reducible refine(HI6.out _).mono ?_);rintro e w' ⟨rfl,rfl⟩)))
         have HP:Hid (PartOk ⟨name,kind,first,last,on,wlo,whi⟩ (psOf bs) (psOf os)↔(∀o∈on,hasP (psOf bs) o=true)∧(∀k x,on[k]?=some x→oneOf (on.take k) x=false)∧(∀o∈on,∀y,(psOf bs)[idxP (psOf bs) o]?=some y→meetB ⟨name,kind,first,last,on,wlo,whi⟩ y=true)):=Lq (part_parts K1.out K2.out (by omega) K4.out K5.out K6.out K3.out (by omega))
         clear K1 K2 K3 K4 K5 K6 HI4 HI5 HI6 h7;go_loop [8] (fun i=>∃k:Nat,k≤on.length∧i=iv k∧∀o∈on.take k,hasP (psOf bs) o=true) (fun i=>on.length-(intOf i).toNat)
         case atStart=>exact⟨0,Nat.zero_le _,rfl,by simp⟩
         case round =>
          obtain⟨k,hk,rfl,hn⟩:=hrel;have HN1:=Lq hn;clear hn;by_cases hlt:k<on.length
          ·obtain⟨o,hx⟩:=gX (l:=on) (i:=k) hlt;obtain⟨ob,oo,rfl,_,hck⟩:=(HM1.out.on.below HB3.out (by omega)) k o hx
           have HX:=Lq hx;obtain⟨bo,hbo⟩:=ex (hasP (psOf bs) o);have HBO:=Lq hbo;obtain⟨r3,h3⟩:=ex (posP (psOf bs) o);have HF3:Hid (Cs 61 #[.slice A bs.length cb,.string o] w2 fun e w'=>e=.returned (iv r3)∧w2=w'):=Lq (h3▸find61_any A bs B cb o w2 (lT hbl hcb) (HH1.out.below HB3.out (by omega)))
           have hneg:r3<0↔bo=false:=by rw[←h3,←hbo];exact posP_neg
           clear hx h3 hbo;cases bo
           ·have hr3:r3<0:=hneg.2 rfl;clear hneg;go_wp2_with (go_at_call 61;refine HF3.out.mono ?_;rintro e w' ⟨rfl,rfl⟩)
            go_ret
            refine errNo (by decide) (fun h=>?_) HBX.out
            have:=(HP.out.1 h).1 o (mG ⟨k,HX.out⟩);rw[HBO.out]at this;cases this
           ·have hr3:¬r3<0:=fun h=>by have:=hneg.1 h;cases this
            clear hneg;go_wp2_with (go_at_call 61;refine HF3.out.mono ?_;rintro e w' ⟨rfl,rfl⟩)
            go_round
            case rel =>
             refine⟨k+1,by omega,by go_num,fun o2 ho=>?_⟩
             rw[List.take_add_one,HX.out]at ho;simp only[List.mem_append,Option.toList_some,List.mem_singleton]at ho;rcases ho with ho | rfl
             ·exact HN1.out o2 ho
             ·exact HBO.out
            case measure=>simp[intOf];omega
          ·have HA1:Hid (∀o∈on,hasP (psOf bs) o=true):=Lq (by have:=HN1.out;rw[List.take_of_length_le (by omega)]at this;exact this)
           clear HN1;go_wp2_with fail;go_loopw [9] (fun i wr=>∃k:Nat,k≤on.length∧i=iv k∧Hid (∀j x,j<k→on[j]?=some x→oneOf (on.take j) x=false)∧Hid (BW W1 wr)) (fun i _=>on.length-(intOf i).toNat)
           case atStart=>exact⟨0,Nat.zero_le _,rfl,Lq (fun j x h=>by omega),HB3⟩
           case round =>
            clear p0 p1 p2 p3 p4 p5 p6 hlw;obtain⟨k,hk,rfl,HN2,HBR⟩:=hrel;obtain⟨p0,p1,p2,p3,p4,p5,p6,hlw⟩:=HC.out _ HBR.out;by_cases hlt:k<on.length
            ·obtain⟨o,hx⟩:=gX (l:=on) (i:=k) hlt;obtain⟨ob,oo,rfl,_,hck⟩:=(HM1.out.on.below HBR.out (by omega)) k o hx
             have HX:=Lq hx;obtain⟨bo,hbo⟩:=ex (oneOf (on.take k) o);have HBO:=Lq hbo;obtain⟨r3,h3⟩:=ex (placeI (on.take k) o);have hle:(on.take k).length=k:=by rw[List.length_take];omega
             have HF3:Hid (∀W,BW W1 W→Cs 8 #[.slice (some ⟨ob,oo,none⟩) k ca,.string o] W fun e w'=>e=.returned (iv r3)∧w'=W):=Lq fun W hb=>by
              have:=place62v_any (some ⟨ob,oo,none⟩) (on.take k) B ca o W (by rw[hle];simp only[maxLen];omega) ((HM1.out.on.below hb (by omega)).take k)
              rw[hle,h3]at this;exact this
             have hneg:r3<0↔bo=false:=by rw[←h3,←hbo];exact placeI_neg
             have hkc:k≤ca:=lT hk HM1.out.le;have hca:ca≤9223372036854775807:=by have:=HM1.out.cm;simp only[maxLen]at this;omega
             clear hx h3 hbo hle;cases bo
             ·have hr3:r3<0:=hneg.2 rfl;clear hneg;go_wp2_with fail;go_quiet ((go_at_call 8;exact Calls.quiet_of_same (HF3.out _ (belowN HBR.out _))))
              go_wp2_with fail;go_roundw
              case rel =>
               refine⟨k+1,by omega,by go_num,Lq (fun j x hj hx=>?_),Lq (belowN HBR.out _)⟩
               rcases Nat.lt_or_ge j k with hjk | hjk
               ·exact HN2.out j x hjk hx
               ·obtain rfl:j=k:=by omega
                rw[HX.out]at hx;injection hx with hx
                exact hx▸HBO.out
              case measure=>simp[intOf];omega
             ·have hr3:¬r3<0:=fun h=>by have:=hneg.1 h;cases this
              clear hneg;go_wp2_with fail;go_quiet ((go_at_call 8;exact Calls.quiet_of_same (HF3.out _ (belowN HBR.out _))))
              go_wp2_with fail;go_ret
              refine errNo (by decide) (fun h=>?_) (bT HB1.out (belowN HBR.out _))
              have:=(HP.out.1 h).2.1 k o HX.out;rw[HBO.out]at this;cases this
            ·have HA2:Hid (∀k x,on[k]?=some x→oneOf (on.take k) x=false):=Lq (fun j x hx=>HN2.out j x (by have:=(lG hx);omega) hx)
             clear HN2;go_wp2_with fail;have HFF:first≤last:=by omega
             clear hr2 h7b h8 h8b;go_loopw [10] (fun i wr=>∃k:Nat,k≤on.length∧i=iv k∧Hid (∀o∈on.take k,∀y,(psOf bs)[idxP (psOf bs) o]?=some y→meetB ⟨name,kind,first,last,on,wlo,whi⟩ y=true)∧Hid (BW W1 wr)) (fun i _=>on.length-(intOf i).toNat)
             case atStart=>exact⟨0,Nat.zero_le _,rfl,Lq (by simp),HBR⟩
             case round =>
              clear p0 p1 p2 p3 p4 p5 p6 hlw HBR;obtain⟨k,hk,rfl,HN3,HBR⟩:=hrel;obtain⟨p0,p1,p2,p3,p4,p5,p6,hlw⟩:=HC.out _ HBR.out;by_cases hlt:k<on.length
              ·obtain⟨o,hx⟩:=gX (l:=on) (i:=k) hlt;obtain⟨ob,oo,rfl,_,hck⟩:=(HM1.out.on.below HBR.out (by omega)) k o hx
               have hho:=HA1.out o (mG ⟨k,hx⟩);obtain⟨hp1,hjl,yp,hy,_⟩:=posP_at hho;obtain⟨j,hj⟩:=ex (idxP (psOf bs) o);rw[hj]at hp1 hjl hy;have hjl2:j<bs.length:=by simpa using hjl
               obtain⟨y,hym⟩:=gX (l:=bs) (i:=j) hjl2;have hyp:yp=y.p:=by rw[ps_at hym]at hy;injection hy with hy;exact hy.symm
               have hyv:=HV.out y (mG ⟨j,hym⟩);obtain⟨yb,yo,rfl,hyb,_,c0,c1,c2,c3,c4,c5,c6⟩:=(HH1.out.below HBR.out (by omega)).at hym
               have HX:=Lq hx;have HY:Hid ((psOf bs)[idxP (psOf bs) o]?=some y.p):=Lq (by rw[hj];exact ps_at hym)
               have HF3:Hid (∀W,BW W1 W→Cs 61 #[.slice (some ⟨yb,yo,none⟩) bs.length cb,.string o] W fun e w'=>e=.returned (iv j)∧W=w'):=Lq fun W hb=>hp1▸find61_any _ bs B cb o W (lT hbl hcb) (HH1.out.below hb (by omega))
               have hme:=meetM_eq (a:=⟨name,kind,first,last,on,wlo,whi⟩) (b:=y.p) HFF hyv;have hmc:=fun W=>meet63_any ⟨⟨name,kind,first,last,on,wlo,whi⟩,some ⟨ob,oo,none⟩,ca⟩ y W
               clear hho hp1 hy hyp hx hj hyv;obtain⟨⟨yn,yk,yf,yl,yon,yw,yz⟩,yA,yc⟩:=y;obtain⟨bm,hbm⟩:=ex (meetM ⟨name,kind,first,last,on,wlo,whi⟩ ⟨yn,yk,yf,yl,yon,yw,yz⟩);rw[hbm]at hme hmc;have HME:=Lq hme;have HMC:=Lq hmc;have HS:Hid (∀W,BW wr W→cA W (w.heap.size) 0 (.string name)∧cA W (w.heap.size) 1 (iv kind)∧cA W (w.heap.size) 2 (iv first)∧cA W (w.heap.size) 3 (iv last)∧cA W (w.heap.size) 4 (.slice (some ⟨ob,oo,none⟩) on.length ca)∧cA W (w.heap.size) 5 (iv wlo)∧cA W (w.heap.size) 6 (iv whi)∧cA W ob (oo+k) (.string o)∧cA W yb (yo+j*7) (.string yn)∧cA W yb (yo+j*7+1) (iv yk)∧cA W yb (yo+j*7+2) (iv yf)∧cA W yb (yo+j*7+3) (iv yl)∧cA W yb (yo+j*7+4) (.slice yA yon.length yc)∧cA W yb (yo+j*7+5) (iv yw)∧cA W yb (yo+j*7+6) (iv yz)):=Lq fun W hb=>⟨kC hb p0,kC hb p1,kC hb p2,kC hb p3,kC hb p4,kC hb p5,kC hb p6,kC hb hck,kC hb c0,kC hb c1,kC hb c2,kC hb c3,kC hb c4,kC hb c5,kC hb c6⟩
               have HHF:Hid (Cs 61 #[.slice (some ⟨yb,yo,none⟩) bs.length cb,.string o] wr.drew fun e w'=>e=.returned (iv j)∧wr.drew=w'):=Lq (HF3.out _ (belowDr HBR.out))
               have hk0:(0:Int)≤(k:Int):=by omega
               have hj0:(0:Int)≤(j:Int):=by omega
               have hbl9:bs.length≤9223372036854775807:=by have:=lT hbl hcb;simp only[maxLen]at this;omega
               clear hmc hme hbm HF3;go_wp2_with fail;go_region_held3 (fun W=>cA W (w.heap.size) 0 (.string name)∧cA W (w.heap.size) 1 (iv kind)∧cA W (w.heap.size) 2 (iv first)∧cA W (w.heap.size) 3 (iv last)∧cA W (w.heap.size) 4 (.slice (some ⟨ob,oo,none⟩) on.length ca)∧cA W (w.heap.size) 5 (iv wlo)∧cA W (w.heap.size) 6 (iv whi)∧cA W ob (oo+k) (.string o)∧cA W yb (yo+j*7) (.string yn)∧cA W yb (yo+j*7+1) (iv yk)∧cA W yb (yo+j*7+2) (iv yf)∧cA W yb (yo+j*7+3) (iv yl)∧cA W yb (yo+j*7+4) (.slice yA yon.length yc)∧cA W yb (yo+j*7+5) (iv yw)∧cA W yb (yo+j*7+6) (iv yz)) (first | exact HS.out _ (u0 hb7) | exact HS.out _ (belowDr (bR _))) (first | (go_at_call 61;((with_reducible refine HHF.out.mono ?_);rintro e w' ⟨rfl,rfl⟩)) | (go_at_call 62;((with_reducible refine(HMC.out _).mono ?_);rintro e w7 ⟨rfl,hb7⟩)))
               have HB7:=Lq (bT HBR.out (u0 hb7));clear hb7 p0 p1 p2 p3 p4 p5 p6 c0 c1 c2 c3 c4 c5 c6 hck HS HHF HMC;cases bm
               ·go_wp2_with fail;go_ret
                refine errNo (by decide) (fun h=>?_) (bT HB1.out HB7.out)
                have:=(HP.out.1 h).2.2 o (mG ⟨k,HX.out⟩) _ HY.out;rw[←HME.out]at this;cases this
               ·go_wp2_with fail;go_roundw
                case rel =>
                 refine⟨k+1,by omega,by go_num,Lq (fun o2 ho=>?_),HB7⟩
                 rw[List.take_add_one,HX.out]at ho;simp only[List.mem_append,Option.toList_some,List.mem_singleton]at ho;rcases ho with ho | rfl
                 ·exact HN3.out o2 ho
                 ·intro z hz;rw[HY.out]at hz;injection hz with hz
                  rw[←hz];exact HME.out.symm
                case measure=>simp[intOf];omega
              ·go_wp2_with fail;go_ret
               refine errOk (HP.out.2 ⟨HA1.out,HA2.out,fun o ho=>HN3.out o (by rw[List.take_of_length_le (by omega)];exact ho)⟩) (bT HB1.out HBR.out)
        ·have h9b:(re != 0)=true:=by simpa using h9
         go_wp2_with (first | (go_at_call 15;((with_reducible refine(HI4.out _).mono ?_);rintro e w' ⟨rfl,rfl⟩)) | (go_at_call 15;((with_reducible refine(HI5.out _).mono ?_);rintro e w' ⟨rfl,rfl⟩)) | (go_at_call 15;((with_reducible refine(HI6.out _).mono ?_);rintro e w' ⟨rfl,rfl⟩)))
         go_ret
         exact errNo (by decide) (fun h=>by have:=K3.out;rw[rangeE_ok (by rw[inB_mk h.wt.1 (Int.le_trans h.wt.2.1 h.wt.2.2),inB_mk (Int.le_trans h.wt.1 h.wt.2.1) h.wt.2.2];rfl) h.wt.2.1]at this;exact h9 this.symm) HBX.out
end
section
variable{k n':Nat}{v':Value}
theorem keepCa{W w1:World}(hb:BW W w1){a:Addr}{v:Value}(h:W.cell? a=some v):w1.cell? a=some v :=
 (World.cell?_of_block (w:=W) (a:=a) (hb.block a.block (World.block_lt_of_cell? W a h))).trans h
structure RowO where
 v:Value
 e:TypeId
 size:Nat
 n:Nat
 xs:List Value
def Live(w:World)(base:Nat)(L:List (Option RowO)):Prop :=
 base≤w.heap.size∧∀(i:Nat) (o:RowO),L[i]?=some (some o)→w.ownsRow base o.e o.size o.v o.n o.xs∧∃g,o.v.ownBlock=some g∧∀(j:Nat) (o':RowO),i≠j→L[j]?=some (some o')→o'.v.ownBlock≠some g
section
variable {w w':World} {base:Nat} {L:List (Option RowO)}
theorem live_nil(h:base≤w.heap.size):Live w base [none,none,none,none]:=⟨h,fun i o hi=>by
 match i with
 | 0 | 1 | 2 | 3=>cases hi
 | i+4=>simp at hi⟩
theorem live_drew(h:Live w base L):Live w.drew base L:=h
theorem live_drop(h:Live w base L)(k:Nat):Live w base (L.set k none):=⟨h.1,fun i o hi=>by
 by_cases hk:k=i
 ·subst hk;rw[List.getElem?_set]at hi;simp at hi
 ·rw[List.getElem?_set_ne hk]at hi;obtain⟨h1,g,h2,h3⟩:=h.2 i o hi;refine⟨h1,g,h2,fun j o' hij hj=>?_⟩
  by_cases hk':k=j
  ·subst hk';rw[List.getElem?_set]at hj;simp at hj
  ·rw[List.getElem?_set_ne hk']at hj;exact h3 j o' hij hj⟩
theorem live_own(h:Live w base L){i:Nat}{o:RowO}(hi:L[i]?=some (some o)):w.ownsRow base o.e o.size o.v o.n o.xs:=(h.2 i o hi).1
theorem live_set(k:Nat)(o:RowO)(hb:base≤w'.heap.size)(ho:w'.ownsRow base o.e o.size o.v o.n o.xs){g:Nat}(hg:o.v.ownBlock=some g)(h:∀(i:Nat) (o':RowO),i≠k→L[i]?=some (some o')→w'.ownsRow base o'.e o'.size o'.v o'.n o'.xs∧o'.v.ownBlock≠some g∧∃g',o'.v.ownBlock=some g'∧∀(j:Nat) (o'':RowO),j≠k→i≠j→L[j]?=some (some o'')→o''.v.ownBlock≠some g'):Live w' base (L.set k (some o)):=⟨hb,fun i o' hi=>by
 by_cases hk:k=i
 ·subst hk;rw[List.getElem?_set]at hi;simp only[if_true]at hi;split at hi
  ·simp only[Option.some.injEq]at hi;subst hi;refine⟨ho,g,hg,fun j o' hij hj=>?_⟩
   rw[List.getElem?_set_ne hij]at hj;exact(h j o' (fun e=>hij e.symm) hj).2.1
  ·cases hi
 ·rw[List.getElem?_set_ne hk]at hi;obtain⟨h1,h2,g',h3,h4⟩:=h i o' (fun e=>hk e.symm) hi
  refine⟨h1,g',h3,fun j o'' hij hj=>?_⟩
  by_cases hk':k=j
  ·subst hk';rw[List.getElem?_set]at hj;simp only[if_true]at hj;split at hj
   ·simp only[Option.some.injEq]at hj;subst hj;rw[hg];intro e;exact h2 (h3.trans e.symm)
   ·cases hj
  ·rw[List.getElem?_set_ne hk']at hj;exact h4 j o'' (fun e=>hk' e.symm) hij hj⟩
theorem live_lit(h:Live w base L)(k:Nat)(cs:Array Value)(e:TypeId)(size n:Nat)(hm:n≤maxLen)(hs:cs.size=n*size):Live (w.alloc (.cells cs e)) base (L.set k (some ⟨.slice (some ⟨w.heap.size,0,none⟩) n n,e,size,n,cs.toList⟩)):=by
 refine live_set k _ (by simp;have:=h.1;omega) (World.ownsRow_lit w cs n h.1 hm hs) (g:=w.heap.size) rfl fun i o' _ hi=>?_
 obtain⟨h1,g',h2,h3⟩:=h.2 i o' hi;refine⟨h1.alloc _,fun e=>?_,g',h2,fun j o'' _ hij hj=>h3 j o'' hij hj⟩
 have:=(h1.lt _ e).2;omega
theorem live_grow(h:Live w base L){o:RowO}(hk:L[k]?=some (some o)){xs':List Value}(hg:w.grownBy w' o.v.ownBlock)(ho:w'.ownsRow base o.e o.size v' n' xs')(hv:v'.ownBlock=o.v.ownBlock∨v'.ownBlock=some w.heap.size):Live w' base (L.set k (some ⟨v',o.e,o.size,n',xs'⟩)):=by
 obtain⟨h1,g,h2,h3⟩:=h.2 k o hk;obtain⟨g',hg'⟩:∃g',v'.ownBlock=some g':=by
  rcases hv with hv | hv
  ·exact⟨g,hv.trans h2⟩
  ·exact⟨_,hv⟩
 refine live_set k _ (lT h.1 hg.size) ho hg' fun i o' hik hi=>?_
 obtain⟨k1,gi,k2,k3⟩:=h.2 i o' hi;have hne:o'.v.ownBlock≠o.v.ownBlock:=by rw[h2];exact h3 i o' (fun e=>hik e.symm) hi
 refine⟨k1.kept hg (.inr hne),fun e=>?_,gi,k2,fun j o'' _ hij hj=>k3 j o'' hij hj⟩
 rcases hv with hv | hv
 ·rw[hg']at hv;exact hne (e.trans hv)
 ·rw[hg']at hv;injection hv with hv
  subst hv;have:=(k1.lt _ e).2;omega
theorem live_src(h:Live w base L){o:RowO}(hk:L[k]?=some (some o))(h1:∀u∈o.xs,u.oneCell'=true):Srcs w o.size o.v o.n o.xs:=by
 obtain⟨ho,g,hg,_⟩:=h.2 k o hk;have hc:=ho.cells hg;obtain⟨hl,hr⟩:=ho;rcases hr with⟨hv,_⟩ | ⟨g',cap,cur,hv,_,_,_,_,_,_⟩
 ·rw[hv]at hg;cases hg
 ·refine .inr ⟨⟨g',0,none⟩,cap,hv,hl,fun j u hu=>?_,h1⟩
  rw[hv]at hg;injection hg with hg
  subst hg;exact hc j u hu
end
def LiveB(V w:World)(L:List (Option RowO)):Prop:=BW V w∧Live w V.heap.size L
section
variable {V w w':World} {L:List (Option RowO)}
theorem liveB_start:LiveB V V.drew [none,none,none,none]:=⟨belowDq (bR V),live_drew (live_nil (lr _))⟩
theorem liveB_lit(h:LiveB V w L)(k:Nat)(cs:Array Value)(e:TypeId)(size n:Nat)(hm:n≤maxLen)(hs:cs.size=n*size):LiveB V (w.alloc (.cells cs e)) (L.set k (some ⟨.slice (some ⟨w.heap.size,0,none⟩) n n,e,size,n,cs.toList⟩)):=⟨bA h.1 _,live_lit h.2 k cs e size n hm hs⟩
theorem liveB_drop(h:LiveB V w L)(k:Nat):LiveB V w (L.set k none):=⟨h.1,live_drop h.2 k⟩
theorem liveB_grow(h:LiveB V w L){o:RowO}(hk:L[k]?=some (some o)){xs':List Value}(hg:w.grownBy w' o.v.ownBlock)(ho:w'.ownsRow V.heap.size o.e o.size v' n' xs')(hv:v'.ownBlock=o.v.ownBlock∨v'.ownBlock=some w.heap.size):LiveB V w' (L.set k (some ⟨v',o.e,o.size,n',xs'⟩)) :=
 ⟨grownB (live_own h.2 hk) hg (lr _) h.1,live_grow h.2 hk hg ho hv⟩
theorem srcs_keep(h:LiveB V w L){size:Nat}{src:Value}{m:Nat}{news:List Value}(hs:Srcs V size src m news):Srcs w size src m news:=by
 rcases hs with h' | ⟨ad,c,h1,h2,h3,h4⟩
 ·exact .inl h'
 ·exact .inr ⟨ad,c,h1,h2,fun j u hu=>keepCa h.1 (h3 j u hu),h4⟩
end
theorem step_append_live{P:Program}{V w:World}{L:List (Option RowO)}{ops:Array Oper}{o:Oper}{a:Act}{K:Act→World→Prop}{Q:Exit→Act→World→Prop}{E:Prop}(hgd:o.guard=none)(s x:Operand)(t:TypeId)(ho:o.op=.call { callee:=.builtin .append,args:=#[s,x],argTypes:=#[t,t] })(hL:LiveB V w L)(k:Nat)(r:RowO)(hk:L[k]?=some (some r))(i:TypeInfo)(z:Value)(bytes:Nat)(ht:P.underlying t=some (.slice r.e))(hi:P.info? r.e=some i)(hz:i.zero=some z)(hsize:i.size=r.size)(hby:i.bytes=bytes)(hzs:z.cells.size=r.size)(hsz:0<r.size)(hs:a.eval s=r.v)(src:Value)(m:Nat)(news:List Value)(hx:a.eval x=src)(hsrc:Srcs w r.size src m news)(h63:r.n+m≤maxLen)(hbytes:(r.n+m)*bytes≤140737488355328)(h:∀v' w',LiveB V w' (L.set k (some ⟨v',r.e,r.size,r.n+m,r.xs++news⟩))→K (a.put o.dst v') w') :
  if Region.wanted o (yielded ops a.tmps)=true then Oper.wp P o a w K Q else E:=by
 have hw:Region.wanted o (yielded ops a.tmps)=true:=by simp[Region.wanted,hgd]
 rw[if_pos hw];have hown:=live_own hL.2 hk;have hbase:=hL.2.1;rcases hsrc with⟨rfl,rfl,rfl⟩ | ⟨ad,c,rfl,hl,hnews,h1⟩
 ·have hr:=run_append_owned_none (P:=P) w V.heap.size t o.type r.e i r.size ht hi r.v r.n r.xs hown;unfold Oper.wp execOp;simp only[ho,resolve,invoke,builtin,Sem.run_bind,Sem.run_pure,Result.andThen_ok,List.map_toArray,List.map_cons,List.map_nil,hs,hx,hr];refine h r.v w (liveB_grow hL hk (grownBy_refl _ _) (by simpa using hown) (.inl rfl))
 ·obtain⟨v',w',hr,h2,h3,_,h5⟩:=run_append_own_at (P:=P) w V.heap.size t o.type r.e i z r.size bytes ht hi hz hsize hby hzs hsz r.v r.n r.xs hown ad m c news hl hnews h1 h63 hbytes hbase;unfold Oper.wp execOp;simp only[ho,resolve,invoke,builtin,Sem.run_bind,Sem.run_pure,Result.andThen_ok,List.map_toArray,List.map_cons,List.map_nil,hs,hx,hr];exact h v' w' (liveB_grow hL hk h3 h2 h5)
end
section
variable{B b base base' g n n' off p size size':Nat}{v v':Value}{w w':World}
theorem ownKeep{e:TypeId}{xs:List Value}(h:w.ownsRow base e size v n xs)(hk:∀k,v.ownBlock=some k→w'.heap[k]?=w.heap[k]?):w'.ownsRow base e size v n xs:=by
 obtain⟨h1,h2⟩:=h;refine⟨h1, ?_⟩;rcases h2 with h2 | ⟨g,cap,cur,hv,hg,hh,r⟩
 ·exact Or.inl h2
 ·subst hv;exact Or.inr ⟨g,cap,cur,rfl,hg,by rw[hk g rfl];exact hh,r⟩
theorem own_below{e:TypeId}{xs:List Value}(h:w.ownsRow base e size v n xs)(hb:BW w w'):w'.ownsRow base e size v n xs :=
 ownKeep h fun k hk=>hb.block k (h.lt k hk).2
theorem own_base{e:TypeId}{xs:List Value}(h:w.ownsRow base e size v n xs)(hb:base'≤base):w.ownsRow base' e size v n xs:=by
 obtain⟨h1,h2⟩:=h;refine⟨h1, ?_⟩;rcases h2 with h2 | ⟨g,cap,cur,hv,hg,r⟩
 ·exact Or.inl h2
 ·exact Or.inr ⟨g,cap,cur,hv,lT hb hg,r⟩
theorem own_only{km:Nat}{e:TypeId}{xs:List Value}(h:w.ownsRow base e size v n xs)(hb:OnlyAt w w' km)(hk:km<base):w'.ownsRow base e size v n xs :=
 ownKeep h fun k hk'=>hb.block k (h.lt k hk').2 (by have:=(h.lt k hk').1;omega)
theorem flat_cells{α:Type}{k:Nat}(hk:0<k){encs:α→List Value}(he:∀x,(encs x).length=k){xs:List α}(hR:RdN k encs w B (some ⟨b,off,none⟩) xs):∀j u,(xs.flatMap encs)[j]?=some u→cA w b (off+j) u:=by
 intro j u hu;have hj:j<xs.length*k:=by rw[←flat_len he];exact(lG hu)
 have hi:j/k<xs.length:=Nat.div_lt_of_lt_mul (by rw[Nat.mul_comm];exact hj)
 have hr:j%k<k:=Nat.mod_lt _ hk;obtain⟨x,hx⟩:∃x,xs[j/k]?=some x:=⟨_,gE hi⟩;obtain⟨v,hv⟩:∃v,(encs x)[j%k]?=some v:=⟨_,gE (by rw[he];exact hr)⟩
 have hf:=flat_get he xs _ x hx _ v hv;have e:j/k*k+j%k=j:=by rw[Nat.mul_comm];exact Nat.div_add_mod j k
 rw[e,hu]at hf;injection hf with hf
 subst hf;obtain⟨b',off',eA,_,hc⟩:=hR _ x hx;injection eA with eA
 injection eA with e1 e2
 subst e1 e2;have:=hc _ _ hv
 rwa [Nat.add_assoc,e]at this
structure RowR{α:Type}(lo k:Nat)(enc:α→List Value)(w:World)(A:Option Addr)(cap:Nat)(xs:List α):Prop where
 le:xs.length≤cap
 max:cap≤maxLen
 rd:RdN k enc w w.heap.size A xs
 nil0:A=none→xs=[]∧cap=0
 here:∀a,A=some a→a.spot=none∧lo≤a.block∧a.block<w.heap.size
section
variable {α:Type} {lo k:Nat} {enc:α→List Value} {w w':World} {A:Option Addr} {cap:Nat} {xs:List α}
theorem RowR.nil:RowR lo k enc w none 0 []:=⟨lr _,Nat.zero_le _,RdN.nil,fun _=>⟨rfl,rfl⟩,fun _ h=>by cases h⟩
theorem RowR.below(h:RowR lo k enc w A cap xs)(hb:BW w w'):RowR lo k enc w' A cap xs :=
 ⟨h.le,h.max,(h.rd.below hb (lr _)).more hb.size,h.nil0,fun a ha=>⟨(h.here a ha).1,(h.here a ha).2.1,lz (h.here a ha).2.2 hb.size⟩⟩
theorem RowR.set(h:RowR lo k enc w A cap xs){o:Nat}(hg:g<lo)(u:Value):RowR lo k enc (w.setCell ⟨g,o,none⟩ u) A cap xs:=by
 refine⟨h.le,h.max,fun i x hx=>?_,h.nil0,fun a ha=>?_⟩
 ·obtain⟨b,off,e,hb,hc⟩:=h.rd i x hx;have:=(h.here _ e).2.1;refine⟨b,off,e,by simpa using hb,fun j v hv=>?_⟩
  exact keepSet (hc j v hv) (by simp only at this;omega)
 ·obtain⟨h1,h2,h3⟩:=h.here a ha;exact⟨h1,h2,by simpa using h3⟩
theorem RowR.of_own(he:∀x,(enc x).length=k){e:TypeId}{ys:List Value}(h:w.ownsRow lo e k v n ys)(hn:n=xs.length)(hys:ys=xs.flatMap enc)(h0:0<xs.length):∃A cap,v=.slice A xs.length cap∧RowR lo k enc w A cap xs:=by
 subst hn hys;obtain⟨A,cap,e1,h2,h3,h4,h5⟩:=own_rdN he h;obtain⟨x,hx⟩:=gX (l:=xs) (i:=0) h0;obtain⟨b,off,rfl,hb,hc⟩:=h2 0 x hx;refine⟨_,cap,e1,h4,h5,h2,fun h=>(by cases h),fun a ha=>?_⟩
 injection ha with ha
 subst ha;exact⟨rfl,(h3 b off rfl).1,hb⟩
theorem RowR.low(he:∀x,(enc x).length=k)(h1:∀x,∀u∈enc x,u.oneCell'=true)(h:RowR lo k enc w A cap xs)(hp:p≤xs.length):Srcs w k (.slice A p cap) p ((xs.take p).flatMap enc):=by
 cases A with
 | none =>
  obtain⟨rfl,rfl⟩:=h.nil0 rfl;have:p=0:=by simpa using hp
  subst this;exact .inl ⟨rfl,rfl,rfl⟩
 | some a =>
  refine .inr ⟨a,cap,rfl,by rw[flat_len he];simp[Nat.min_eq_left hp],fun j u hu=>?_,fun u hu=>?_⟩
  ·by_cases hk:0<k
   ·have h0:0<(xs.take p).length:=by
     rcases Nat.eq_zero_or_pos (xs.take p).length with h0 | h0
     ·rw[List.length_eq_zero_iff.1 h0]at hu;simp at hu
     ·exact h0
    have hrt:=h.rd.take p;obtain⟨b,off,e,_,_⟩:=hrt 0 _ (gE h0);injection e with e
    subst e;rw[add_off];exact flat_cells hk he hrt j u hu
   ·have hl:=flat_len he (xs.take p);have:k=0:=by omega
    rw[this,Nat.mul_zero]at hl;rw[List.length_eq_zero_iff.1 hl]at hu;simp at hu
  ·obtain⟨c,_,hc⟩:=List.mem_flatMap.1 hu;exact h1 c u hc
theorem RdN.drop(h:RdN k enc w B (some ⟨b,off,none⟩) xs)(p:Nat):RdN k enc w B (some ⟨b,off+p*k,none⟩) (xs.drop p):=by
 intro i x hx;rw[List.getElem?_drop]at hx;obtain⟨b',off',e,hb,hc⟩:=h (p+i) x hx;injection e with e
 injection e with e1 e2
 subst e1 e2;refine⟨b,_,rfl,hb,fun j u hu=>?_⟩
 have:=hc j u hu;rw[Nat.add_mul,←Nat.add_assoc]at this;exact this
theorem RowR.high(hk:0<k)(he:∀x,(enc x).length=k)(h1:∀x,∀u∈enc x,u.oneCell'=true)(h:RowR lo k enc w A cap xs)(hn:n=xs.length)(hp:p≤n):Srcs w k (.slice (if cap=p then A else A.map fun x=>x.add (p*k)) (n-p) (cap-p)) (n-p) ((xs.drop p).flatMap enc):=by
 subst hn;cases A with
 | none =>
  obtain⟨rfl,rfl⟩:=h.nil0 rfl;have:p=0:=by simpa using hp
  subst this;exact .inl ⟨by simp,rfl,rfl⟩
 | some a =>
  by_cases hc:cap=p
  ·have hle:=h.le;have hpl:p=xs.length:=by omega
   rw[if_pos hc];refine .inr ⟨a,cap-p,by simp, ?_, ?_, ?_⟩
   ·rw[flat_len he];simp
   ·intro j u hu;rw[hpl,List.drop_length]at hu;simp at hu
   ·intro u hu;rw[hpl,List.drop_length]at hu;simp at hu
  ·rw[if_neg hc];obtain⟨hs,_,_⟩:=h.here a rfl;obtain⟨b,off,sub⟩:=a;simp only at hs;subst hs;refine .inr ⟨⟨b,off+p*k,none⟩,cap-p,by simp[add_off],by rw[flat_len he];simp,fun j u hu=>?_,fun u hu=>?_⟩
   ·rw[add_off];exact flat_cells hk he (h.rd.drop p) j u hu
   ·obtain⟨c,_,hc⟩:=List.mem_flatMap.1 hu;exact h1 c u hc
end
theorem wpList_append_srcs{P:Program}{ops:Array Oper}{rest:List Oper}{o:Oper}{a:Act}{Q:Exit→Act→World→Prop}(hgd:o.guard=none)(s x:Operand)(t:TypeId)(ho:o.op=.call { callee:=.builtin .append,args:=#[s,x],argTypes:=#[t,t] })(base:Nat)(e:TypeId)(i:TypeInfo)(z:Value)(size bytes:Nat)(ht:P.underlying t=some (.slice e))(hi:P.info? e=some i)(hz:i.zero=some z)(hsize:i.size=size)(hby:i.bytes=bytes)(hzs:z.cells.size=size)(hsz:0<size)(v:Value)(n:Nat)(xs:List Value)(hs:a.eval s=v)(hown:w.ownsRow base e size v n xs)(src:Value)(m:Nat)(news:List Value)(hx:a.eval x=src)(hsrc:Srcs w size src m news)(h63:n+m≤maxLen)(hbytes:(n+m)*bytes≤140737488355328)(hbase:base≤w.heap.size)(h:∀v' w',w'.ownsRow base e size v' (n+m) (xs++news)→w.grownBy w' v.ownBlock→(v'.ownBlock=v.ownBlock∨v'.ownBlock=some w.heap.size)→wpList P ops Q rest (a.put o.dst v') w') :
  wpList P ops Q (o::rest) a w:=by
 rcases hsrc with⟨rfl,rfl,rfl⟩ | ⟨ad,c,rfl,hl,hnews,h1⟩
 ·refine wpList_plain hgd fun K hK=>?_
  have hr:=run_append_owned_none (P:=P) w base t o.type e i size ht hi v n xs hown;unfold Oper.wp execOp;simp only[ho,resolve,invoke,builtin,Sem.run_bind,Sem.run_pure,Result.andThen_ok,List.map_toArray,List.map_cons,List.map_nil,hs,hx,hr];exact hK _ _ (h v w (by simpa using hown) (grownBy_refl _ _) (.inl rfl))
 ·exact wpList_append_own_at w hgd s x t ho base e i z size bytes ht hi hz hsize hby hzs hsz v n xs hs hown ad m c news hx hl hnews h1 h63 hbytes hbase fun v' w' a b _ d=>h v' w' a b d
section
variable {w w':World} {base:Nat} {e:TypeId} {size n:Nat} {v:Value} {xs:List Value}
theorem own_apart{e':TypeId}{xs':List Value}(h:w.ownsRow base e size v n xs)(h':w.ownsRow base' e' size' v' n' xs')(he:e≠e')(hg:v.ownBlock=some g):v'.ownBlock≠some g:=by
 intro hg';rcases h.2 with⟨rfl,_⟩ | ⟨g1,cap,cur,rfl,_,h1,_⟩
 ·cases hg
 rcases h'.2 with⟨rfl,_⟩ | ⟨g2,cap2,cur2,rfl,_,h2,_⟩
 ·cases hg'
 simp only[Value.ownBlock,Option.some.injEq]at hg hg';subst hg hg';rw[h1]at h2;injection h2 with h2
 injection h2 with _ h2
 exact he h2
theorem own_grown{e':TypeId}{xs':List Value}(h:w.ownsRow base e size v n xs)(h':w.ownsRow base' e' size' v' n' xs')(he:e≠e')(hg:w.grownBy w' v'.ownBlock):w'.ownsRow base e size v n xs :=
 ownKeep h fun k hk=>hg.block k (h.lt k hk).2 fun e2=>own_apart h h' he hk e2.symm
theorem own_slice(h:w.ownsRow base e size v n xs):∃A c,v=.slice A n c:=by
 rcases h.2 with⟨rfl,rfl⟩ | ⟨g,cap,cur,rfl,_⟩
 ·exact⟨none,0,rfl⟩
 ·exact⟨_,_,rfl⟩
theorem own_zero(h:w.ownsRow base e size v n xs):w.ownsRow 0 e size v n xs:=own_base h (Nat.zero_le _)
end
end
end Go.Proofs.YtigcophcpboanaaGreatDoor
namespace Go.Proofs.YtigcophcpboanaaGreatDoor
def regionNo(n:Nat):Code→Option Code
 | .region id ops d=>if id=n then some (.region id ops d)else none
 | .seq a b=>match regionNo n a with
  | some c=>some c
  | none=>regionNo n b
 | .cond _ a b=>match regionNo n a with
  | some c=>some c
  | none=>regionNo n b
 | .block _ c=>regionNo n c
 | .loop c=>regionNo n c
 | .scope c=>regionNo n c
 | _=>none
noncomputable def regionOf(f:Func)(n:Nat):Code:=(f.body.bind (regionNo n)).getD .skip
noncomputable def opsOf:Code→Array Oper
 | .region _ ops _=>ops
 | _=>#[]
noncomputable def opN(ops:Array Oper)(i:Nat):Oper:=(ops[i]?).getD default
end Go.Proofs.YtigcophcpboanaaGreatDoor
namespace Go.Proofs.YtigcophcpboanaaGreatDoor
open Go
section
variable{fuel i:Nat}{v:Value}{w:World}
section
variable {P:Program} {ops:Array Oper} {Q:Exit→Act→World→Prop} {md:Region.Mode} {S:World→Prop} {late:Nat→Bool}
def wpAnyL(P:Program)(md:Region.Mode)(ops:Array Oper)(Q:Exit→Act→World→Prop)(S:World→Prop)(late:Nat→Bool):Nat→Array Bool→Act→World→Prop
 | 0,listed,a,w=>Region.ready md ops listed=[]∧Q .normal a w
 | fuel+1,listed,a,w =>
  (Region.ready md ops listed=[]→Q .normal a w) ∧
  ∀i∈Region.ready md ops listed,wpOp P ops Q i (fun a' w'=>(late i=true→wpAny P md ops Q fuel (listed.setIfInBounds i true) a' w')∧(late i=false→S w'∧wpAnyL P md ops Q S late fuel (listed.setIfInBounds i true) a' w')) a w
theorem wpAny_of_late:∀(fuel:Nat) (listed:Array Bool) (a:Act) (w:World),wpAnyL P md ops Q S late fuel listed a w→wpAny P md ops Q fuel listed a w
 | 0,_,_,_,h=>h
 | fuel+1,_,_,_,h=>⟨h.1,fun i hi=>wpOp_mono (fun a' w' h'=>by
   cases hl:late i with
   | true=>exact h'.1 hl
   | false=>exact wpAny_of_late fuel _ a' w' (h'.2 hl).2) (h.2 i hi)⟩
def waitsN(md:Region.Mode)(ops:Array Oper)(i:Nat):Nat→Nat→Bool
 | 0,_=>false
 | f+1,j=>match ops[j]? with
  | some o=>o.after.any fun e=>Region.binds md e&&(e.on==i||waitsN md ops i f e.on)
  | none=>false
def waitsAll(md:Region.Mode)(ops:Array Oper)(late:Nat→Bool)(i:Nat):Bool :=
 (List.range ops.size).all fun j=>!late j||waitsN md ops i ops.size j
def Closed(md:Region.Mode)(ops:Array Oper)(listed:Array Bool):Prop:=∀j oj,ops[j]?=some oj→listed.getD j false=true→∀e∈oj.after,Region.binds md e=true→listed.getD e.on false=true
def closedB(md:Region.Mode)(ops:Array Oper)(listed:Array Bool):Bool :=
 (List.range ops.size).all fun j=>!listed.getD j false||(match ops[j]? with | some o=>o.after.all fun e=>!Region.binds md e||listed.getD e.on false | none=>true)
theorem closedB_spec{listed:Array Bool}(h:closedB md ops listed=true):Closed md ops listed:=fun j oj ho hl e he hb=>by
 unfold closedB at h;rw[List.all_eq_true]at h;have:=h j (List.mem_range.2 (Array.getElem?_eq_some_iff.1 ho).1);rw[hl,ho]at this;simp only[Bool.not_true,Bool.false_or,Array.all_eq_true,Bool.or_eq_true,Bool.not_eq_true']at this;obtain⟨k,hk,rfl⟩:=Array.mem_iff_getElem.1 he;rcases this k hk with h1 | h1
 ·rw[hb]at h1;cases h1
 ·exact h1
theorem waitsN_listed{listed:Array Bool}(hc:Closed md ops listed):∀(f j:Nat) (oj:Oper),ops[j]?=some oj→(∀e∈oj.after,Region.binds md e=true→listed.getD e.on false=true)→waitsN md ops i f j=true→listed.getD i false=true:=by
 intro f;induction f with
 | zero=>intro j oj _ _ h;cases h
 | succ f ih =>
  intro j oj ho hall h;rw[waitsN,ho]at h;simp only[Array.any_eq_true,Bool.and_eq_true,Bool.or_eq_true,beq_iff_eq]at h;obtain⟨k,hk,h1,h2⟩:=h;have hl:=hall _ (Array.getElem_mem hk) h1;rcases h2 with h2 | h2
  ·rw[←h2];exact hl
  ·cases hk2:ops[(oj.after[k]).on]? with
   | none =>
    cases f with
    | zero=>cases h2
    | succ f=>rw[waitsN,hk2]at h2;cases h2
   | some ok=>exact ih _ ok hk2 (fun e he hb=>hc _ ok hk2 hl e he hb) h2
theorem Closed.set{listed:Array Bool}{j:Nat}(hc:Closed md ops listed)(hr:j∈Region.ready md ops listed):Closed md ops (listed.setIfInBounds j true):=fun k ok hk hl e he hb=>by
 by_cases hjk:j=k
 ·subst hjk;obtain⟨_,oj,hoj,hall⟩:=mem_ready.1 hr;rw[hk]at hoj;injection hoj with hoj
  subst hoj;exact getD_set_true (hall e he hb)
 ·rw[getD_set_ne false hjk]at hl;exact getD_set_true (hc k ok hk hl e he hb)
theorem wpAnyL_first{oi:Oper}(hi:ops[i]?=some oi)(hsel:∀(j:Nat) (o:Oper) cs b,ops[j]?=some o→o.op≠.select cs b)(hQ:∀c a w,Q (.panic c) (a.put oi.dst v) w→Q (.panic c) a w)(hli:late i=false)(hw:∀j,j<ops.size→late j=true→waitsN md ops i ops.size j=true) :
  ∀(fuel:Nat) (listed:Array Bool) (a:Act) (w:World),
   (∀j oj,ops[j]?=some oj→j≠i→listed.getD j true=false→(∀e∈oj.after,Region.binds md e=true→e.on≠i)→oi.apart ops oj=true) →
   Closed md ops listed→i∈Region.ready md ops listed→YieldsIf P ops S oi v a→S w →
   wpAnyL P md ops Q S late fuel (listed.setIfInBounds i true) (a.put oi.dst v) w→wpAnyL P md ops Q S late (fuel+1) listed a w:=by
 intro fuel;induction fuel with
 | zero =>
  intro listed a w _ _ hr hy hS H;refine⟨fun h=>(by rw[h]at hr;cases hr),fun j hj=>?_⟩
  by_cases hji:j=i
  ·subst hji;exact hy.wpOp hi hS ⟨fun h=>(by rw[hli]at h;cases h),fun _=>⟨hS,H⟩⟩
  ·have:=ready_mono hj hji;rw[H.1]at this;cases this
 | succ fuel ih =>
  intro listed a w hfree hcl hr hy hS H;refine⟨fun h=>(by rw[h]at hr;cases hr),fun j hj=>?_⟩
  by_cases hji:j=i
  ·subst hji;exact hy.wpOp hi hS ⟨fun h=>(by rw[hli]at h;cases h),fun _=>⟨hS,H⟩⟩
  ·have h1:=H.2 j (ready_mono hj hji);obtain⟨hjun,oj,hoj,hall⟩:=mem_ready.1 hj;have hnot:∀e∈oj.after,Region.binds md e=true→e.on≠i:=fun e he hb heq=>by
    have h1:=hall e he hb;have h0:=(mem_ready.1 hr).1;rw[heq]at h1;rcases Nat.lt_or_ge i listed.size with h' | h'
    ·simp[h']at h0 h1;rw[h0]at h1;cases h1
    ·simp[Array.getElem?_eq_none h']at h1
   have hlj:late j=false:=by
    cases hl:late j with
    | false=>rfl
    | true =>
     have h9:=waitsN_listed hcl _ j oj hoj hall (hw j (Array.getElem?_eq_some_iff.1 hoj).1 hl);have h0:=(mem_ready.1 hr).1;rcases Nat.lt_or_ge i listed.size with h' | h'
     ·simp[h']at h0 h9;rw[h0]at h9;cases h9
     ·simp[Array.getElem?_eq_none h']at h9
   have h1':wpOp P ops Q j (fun a' w'=>S w'∧wpAnyL P md ops Q S late fuel ((listed.setIfInBounds i true).setIfInBounds j true) a' w') (a.put oi.dst v) w:=wpOp_mono (fun a' w' h=>h.2 hlj) h1
   have h2:=wpOp_putIf hoj (hfree j oj hoj hji hjun hnot) (fun cs b=>hsel i oi cs b hi) (fun cs b=>hsel j oj cs b hoj) hQ hy h1'
   have hfree':∀k ok,ops[k]?=some ok→k≠i→(listed.setIfInBounds j true).getD k true=false →
     (∀e∈ok.after,Region.binds md e=true→e.on≠i)→oi.apart ops ok=true:=fun k ok hk hki hun hno=>by
    refine hfree k ok hk hki ?_ hno;by_cases hjk:j=k
    ·subst hjk;exact hjun
    ·rw[getD_set_ne true hjk]at hun;exact hun
   refine wpOp_mono (fun a' w' h3=>⟨fun h=>(by rw[hlj]at h;cases h),fun _=>⟨h3.2.1,ih (listed.setIfInBounds j true) a' w' hfree' (hcl.set hj) (ready_mono hr (Ne.symm hji)) h3.1 h3.2.1 ?_⟩⟩) h2
   rw[Array.setIfInBounds_comm _ _ hji];exact h3.2.2
theorem wpAnyL_take{oi:Oper}{listed:Array Bool}{a:Act}(hi:ops[i]?=some oi)(hs:Region.noSelect ops=true)(hf:Region.free md ops listed i=true)(hr:(Region.ready md ops listed).contains i=true)(hQ:∀c a w,Q (.panic c) (a.put oi.dst v) w→Q (.panic c) a w)(hli:late i=false)(hw:waitsAll md ops late i=true)(hcl:closedB md ops listed=true)(hy:YieldsIf P ops S oi v a)(hS:S w)(h:wpAnyL P md ops Q S late fuel (listed.setIfInBounds i true) (a.put oi.dst v) w):wpAnyL P md ops Q S late (fuel+1) listed a w :=
 wpAnyL_first hi (Region.noSelect_spec hs) hQ hli (fun j hj hl=>by unfold waitsAll at hw;rw[List.all_eq_true]at hw;have:=hw j (List.mem_range.2 hj);rw[hl]at this;simpa using this) fuel listed a w (Region.free_spec hi hf) (closedB_spec hcl) (by simpa using hr) hy hS h
def AllReadyL(P:Program)(md:Region.Mode)(ops:Array Oper)(Q:Exit→Act→World→Prop)(S:World→Prop)(late:Nat→Bool)(fuel:Nat)(listed:Array Bool)(a:Act)(w:World)(rs:List Nat):Prop :=
 ∀i∈rs,wpOp P ops Q i (fun a' w'=>(late i=true→wpAny P md ops Q fuel (listed.setIfInBounds i true) a' w')∧(late i=false→S w'∧wpAnyL P md ops Q S late fuel (listed.setIfInBounds i true) a' w')) a w
theorem AllReadyL.nil{listed:Array Bool}{a:Act}:AllReadyL P md ops Q S late fuel listed a w []:=fun _ h=>by cases h
theorem AllReadyL.cons{listed:Array Bool}{a:Act}{o:Oper}{rs:List Nat}(ho:ops[i]?=some o)(hl:late i=false)(h:∀K':Act→World→Prop,Shut (∀a w,S w→(S w→wpAnyL P md ops Q S late fuel (listed.setIfInBounds i true) a w)→K' a w)→if Region.wanted o (yielded ops a.tmps)=true then Oper.wp P o a w K' Q else K' (a.put o.dst undef) w)(hs:AllReadyL P md ops Q S late fuel listed a w rs):AllReadyL P md ops Q S late fuel listed a w (i::rs):=fun j hj=>by
 rcases List.mem_cons.1 hj with rfl | hj
 ·exact wpOp_step ho (fun K' hK=>h K' (fun a w hS hW=>hK a w ⟨fun h=>(by rw[hl]at h;cases h),fun _=>⟨hS,hW hS⟩⟩))
 ·exact hs j hj
theorem AllReadyL.last{listed:Array Bool}{a:Act}{o:Oper}{rs:List Nat}(ho:ops[i]?=some o)(hl:late i=true)(h:∀K':Act→World→Prop,Shut (∀a w,wpAny P md ops Q fuel (listed.setIfInBounds i true) a w→K' a w)→if Region.wanted o (yielded ops a.tmps)=true then Oper.wp P o a w K' Q else K' (a.put o.dst undef) w)(hs:AllReadyL P md ops Q S late fuel listed a w rs):AllReadyL P md ops Q S late fuel listed a w (i::rs):=fun j hj=>by
 rcases List.mem_cons.1 hj with rfl | hj
 ·exact wpOp_step ho (fun K' hK=>h K' (fun a w hW=>hK a w ⟨fun _=>hW,fun h=>(by rw[hl]at h;cases h)⟩))
 ·exact hs j hj
theorem wpAnyL_ready{rs:List Nat}{listed:Array Bool}{a:Act}(hr:Region.ready md ops listed=rs)(hne:rs≠[])(h:AllReadyL P md ops Q S late fuel listed a w rs):wpAnyL P md ops Q S late (fuel+1) listed a w :=
 ⟨fun h0=>absurd (hr▸h0) hne,hr▸h⟩
theorem wp_region_late{id:Nat}{a:Act}(hm:P.follows .mixedOrders=true)(h:wpAnyL P .any ops Q S late ops.size (Array.replicate ops.size false) a w.drew):(Code.region id ops true).wp P Q a w :=
 wp_region_any hm (wpAny_of_late _ _ _ _ h)
end
end
end Go.Proofs.YtigcophcpboanaaGreatDoor
namespace Go.Proofs.YtigcophcpboanaaGreatDoor
open Go Go.RowKit
section
variable {P:Program} {ops:Array Oper} {Q:Exit→Act→World→Prop} {md:Region.Mode} {S:World→Prop} {late:Nat→Bool} {fuel:Nat} {listed l' l2 l3:Array Bool} {a a':Act} {w:World}
noncomputable def takeB(md:Region.Mode)(ops:Array Oper)(listed:Array Bool)(i:Nat):Bool:=Region.noSelect ops&&Region.free md ops listed i&&(Region.ready md ops listed).contains i
theorem tk(i:Nat)(v:Value)(h:wpAnyH P md ops Q S fuel l' a' w)(hi:ops[i]?=some (opN ops i):=by kernel_rfl)(hb:takeB md ops listed i=true:=by kernel_rfl)(hy:YieldsIf P ops S (opN ops i) v a:=by
   generalize e:opN _ _=o;conv at e=>lhs;whnf
   subst e;refine Or.inl ⟨by first | rfl | kernel_rfl, ?_⟩
   intro w hSw
   (repeat(have hx:=hSw.1;replace hSw:=hSw.2))
   go_simp)(hS:S w:=by first | assumption | trivial)(hl:listed.setIfInBounds i true=l':=by
   simp only[List.setIfInBounds_toArray,List.set_cons_zero,List.set_cons_succ];rfl)(ha:a.put (opN ops i).dst v=a':=by
   generalize e:opN _ _=o;conv at e=>lhs;whnf
   subst e
   (try simp only[Act.put,List.setIfInBounds_toArray,List.set_cons_zero,List.set_cons_succ])
   rfl)(hQ:∀c a w,Q (.panic c) (a.put (opN ops i).dst v) w→Q (.panic c) a w:=by exact fun _ _ _ h=>h):wpAnyH P md ops Q S (fuel+1) listed a w:=by
 subst hl ha;simp only[takeB,Bool.and_eq_true]at hb;exact wpAnyH_take hi hb.1.1 hb.1.2 hb.2 hQ hy hS h
noncomputable def takeLB(md:Region.Mode)(ops:Array Oper)(late:Nat→Bool)(listed:Array Bool)(i:Nat):Bool:=takeB md ops listed i&&!late i&&waitsAll md ops late i&&closedB md ops listed
theorem tkL(i:Nat)(v:Value)(h:wpAnyL P md ops Q S late fuel l' a' w)(hi:ops[i]?=some (opN ops i):=by kernel_rfl)(hb:takeLB md ops late listed i=true:=by kernel_rfl)(hy:YieldsIf P ops S (opN ops i) v a:=by
   generalize e:opN _ _=o;conv at e=>lhs;whnf
   subst e;refine Or.inl ⟨by first | rfl | kernel_rfl, ?_⟩
   intro w hSw
   (repeat(have hx:=hSw.1;replace hSw:=hSw.2))
   go_simp)(hS:S w:=by first | assumption | trivial)(hl:listed.setIfInBounds i true=l':=by
   simp only[List.setIfInBounds_toArray,List.set_cons_zero,List.set_cons_succ];rfl)(ha:a.put (opN ops i).dst v=a':=by
   generalize e:opN _ _=o;conv at e=>lhs;whnf
   subst e
   (try simp only[Act.put,List.setIfInBounds_toArray,List.set_cons_zero,List.set_cons_succ])
   rfl)(hQ:∀c a w,Q (.panic c) (a.put (opN ops i).dst v) w→Q (.panic c) a w:=by exact fun _ _ _ h=>h):wpAnyL P md ops Q S late (fuel+1) listed a w:=by
 subst hl ha;simp only[takeLB,takeB,Bool.and_eq_true,Bool.not_eq_true']at hb;exact wpAnyL_take hi hb.1.1.1.1.1 hb.1.1.1.1.2 hb.1.1.1.2 hQ hb.1.1.2 hb.1.2 hb.2 hy hS h
theorem rd1(i:Nat){o:Oper}(h:∀K':Act→World→Prop,Shut (∀a w,S w→(S w→wpAnyH P md ops Q S fuel l' a w)→K' a w)→if Region.wanted o (yielded ops a.tmps)=true then Oper.wp P o a w K' Q else K' (a.put o.dst undef) w)(ho:opN ops i=o:=by
   (conv=>lhs;whnf)<;>rfl)(hi:ops[i]?=some (opN ops i):=by kernel_rfl)(hr:Region.ready md ops listed=[i]:=by kernel_rfl)(hl:listed.setIfInBounds i true=l':=by
   simp only[List.setIfInBounds_toArray,List.set_cons_zero,List.set_cons_succ];rfl):wpAnyH P md ops Q S (fuel+1) listed a w:=by
 subst hl ho;exact wpAnyH_ready hr (by simp) (AllReadyH.cons hi h AllReadyH.nil)
theorem rd2(i j:Nat){o p:Oper}(h:∀K':Act→World→Prop,Shut (∀a w,S w→(S w→wpAnyH P md ops Q S fuel l' a w)→K' a w)→if Region.wanted o (yielded ops a.tmps)=true then Oper.wp P o a w K' Q else K' (a.put o.dst undef) w)(h2:∀K':Act→World→Prop,Shut (∀a w,S w→(S w→wpAnyH P md ops Q S fuel l2 a w)→K' a w)→if Region.wanted p (yielded ops a.tmps)=true then Oper.wp P p a w K' Q else K' (a.put p.dst undef) w)(ho:opN ops i=o:=by
   (conv=>lhs;whnf)<;>rfl)(hp:opN ops j=p:=by
   (conv=>lhs;whnf)<;>rfl)(hi:ops[i]?=some (opN ops i):=by kernel_rfl)(hj:ops[j]?=some (opN ops j):=by kernel_rfl)(hr:Region.ready md ops listed=[i,j]:=by kernel_rfl)(hl:listed.setIfInBounds i true=l':=by
   simp only[List.setIfInBounds_toArray,List.set_cons_zero,List.set_cons_succ];rfl)(hl2:listed.setIfInBounds j true=l2:=by
   simp only[List.setIfInBounds_toArray,List.set_cons_zero,List.set_cons_succ];rfl):wpAnyH P md ops Q S (fuel+1) listed a w:=by
 subst hl hl2 ho hp;exact wpAnyH_ready hr (by simp) (AllReadyH.cons hi h (AllReadyH.cons hj h2 AllReadyH.nil))
theorem rdL1(i:Nat){o:Oper}(h:∀K':Act→World→Prop,Shut (∀a w,S w→(S w→wpAnyL P md ops Q S late fuel l' a w)→K' a w)→if Region.wanted o (yielded ops a.tmps)=true then Oper.wp P o a w K' Q else K' (a.put o.dst undef) w)(ho:opN ops i=o:=by
   (conv=>lhs;whnf)<;>rfl)(hi:ops[i]?=some (opN ops i):=by kernel_rfl)(hr:Region.ready md ops listed=[i]:=by kernel_rfl)(hla:late i=false:=by rfl)(hl:listed.setIfInBounds i true=l':=by
   simp only[List.setIfInBounds_toArray,List.set_cons_zero,List.set_cons_succ];rfl):wpAnyL P md ops Q S late (fuel+1) listed a w:=by
 subst hl ho;exact wpAnyL_ready hr (by simp) (AllReadyL.cons hi hla h AllReadyL.nil)
theorem rdL2(i j:Nat){o p:Oper}(h:∀K':Act→World→Prop,Shut (∀a w,S w→(S w→wpAnyL P md ops Q S late fuel l' a w)→K' a w)→if Region.wanted o (yielded ops a.tmps)=true then Oper.wp P o a w K' Q else K' (a.put o.dst undef) w)(h2:∀K':Act→World→Prop,Shut (∀a w,S w→(S w→wpAnyL P md ops Q S late fuel l2 a w)→K' a w)→if Region.wanted p (yielded ops a.tmps)=true then Oper.wp P p a w K' Q else K' (a.put p.dst undef) w)(ho:opN ops i=o:=by
   (conv=>lhs;whnf)<;>rfl)(hp:opN ops j=p:=by
   (conv=>lhs;whnf)<;>rfl)(hi:ops[i]?=some (opN ops i):=by kernel_rfl)(hj:ops[j]?=some (opN ops j):=by kernel_rfl)(hr:Region.ready md ops listed=[i,j]:=by kernel_rfl)(hla:late i=false:=by rfl)(hlb:late j=false:=by rfl)(hl:listed.setIfInBounds i true=l':=by
   simp only[List.setIfInBounds_toArray,List.set_cons_zero,List.set_cons_succ];rfl)(hl2:listed.setIfInBounds j true=l2:=by
   simp only[List.setIfInBounds_toArray,List.set_cons_zero,List.set_cons_succ];rfl):wpAnyL P md ops Q S late (fuel+1) listed a w:=by
 subst hl hl2 ho hp;exact wpAnyL_ready hr (by simp) (AllReadyL.cons hi hla h (AllReadyL.cons hj hlb h2 AllReadyL.nil))
theorem rdT(i:Nat){o:Oper}(h:∀K':Act→World→Prop,Shut (∀a w,wpAny P md ops Q fuel l' a w→K' a w)→if Region.wanted o (yielded ops a.tmps)=true then Oper.wp P o a w K' Q else K' (a.put o.dst undef) w)(ho:opN ops i=o:=by
   (conv=>lhs;whnf)<;>rfl)(hi:ops[i]?=some (opN ops i):=by kernel_rfl)(hr:Region.ready md ops listed=[i]:=by kernel_rfl)(hla:late i=true:=by rfl)(hl:listed.setIfInBounds i true=l':=by
   simp only[List.setIfInBounds_toArray,List.set_cons_zero,List.set_cons_succ];rfl):wpAnyL P md ops Q S late (fuel+1) listed a w:=by
 subst hl ho;exact wpAnyL_ready hr (by simp) (AllReadyL.last hi hla h AllReadyL.nil)
theorem go0{c:Code}{n r:Nat}{V:World}(hS:∀W,BW V W→S W)(h:∀V0,Hid (BW V V0)→S V0→wpAnyH P .any ops (NoPanic Q) S n listed a V0)(hm:P.follows .mixedOrders=true:=by kernel_rfl)(hc:c=Code.region r ops true:=by kernel_rfl)(hn:ops.size=n:=by kernel_rfl)(hl:Array.replicate n false=listed:=by
   simp only[Array.replicate_succ,Array.replicate_zero,List.push_toArray,List.nil_append,List.cons_append];rfl):c.wp P Q a V:=by
 subst hc hl hn;have hb:=belowDq (bR V);exact wp_region_noPanic (wp_region_held_drew hm (hS _ hb) fun hh=>h _ (Lq hb) hh)
end
end Go.Proofs.YtigcophcpboanaaGreatDoor
namespace Go.Proofs.YtigcophcpboanaaGreatDoor
open Go.RowKit
section
variable{n:Nat}
theorem Tryz.info43:(Tryz.prog.info? 43).map (fun i=>(i.zero,i.size,i.bytes))=some (some (.agg #[.string ⟨#[]⟩,iv 0,iv 0,iv 0,.slice none 0 0,iv 0,iv 0]),7,80):=by kernel_rfl
theorem encM_one:∀m,∀u∈encM m,u.oneCell'=true:=by intro m u hu;simp[encM]at hu;rcases hu with rfl | rfl | rfl | rfl | rfl | rfl | rfl<;>rfl
structure SlM(w:World)(B:Nat)(A:Option Addr)(cap:Nat)(ms:List HuM):Prop where
 rd:MsRd w B A ms
 le:ms.length≤cap
 max:cap≤maxLen
 nil0:A=none→cap=0
 off:∀a,A=some a→a.spot=none∧a.block<B
section
variable {w w':World} {B B':Nat} {A:Option Addr} {cap:Nat} {ms:List HuM}
theorem SlM.below(h:SlM w B A cap ms)(hb:Below B' w w')(hB:B≤B'):SlM w' B A cap ms:=⟨h.rd.below hb hB,h.le,h.max,h.nil0,h.off⟩
theorem SlM.more(h:SlM w B A cap ms)(hB:B≤B'):SlM w B' A cap ms:=⟨h.rd.more hB,h.le,h.max,h.nil0,fun a e=>⟨(h.off a e).1,lz (h.off a e).2 hB⟩⟩
theorem SlM.take(h:SlM w B A cap ms)(n:Nat):SlM w B A cap (ms.take n):=⟨h.rd.take n,lT (List.length_take_le' ..) h.le,h.max,h.nil0,h.off⟩
theorem SlM.row(h:SlM w B A cap ms)(hB:B≤w.heap.size):RowR 0 7 encM w A cap ms :=
 ⟨h.le,h.max,h.rd.rd.more hB,fun e=>⟨List.length_eq_zero_iff.1 (by have:=h.le;have:=h.nil0 e;omega),h.nil0 e⟩,fun a e=>⟨(h.off a e).1,Nat.zero_le _,lz (h.off a e).2 hB⟩⟩
theorem SlM.of_own{base:Nat}{v:Value}(h:w.ownsRow base 43 7 v n (ms.flatMap encM))(hn:n=ms.length)(hok:∀m∈ms,MOk w w.heap.size m):∃A cap,v=.slice A ms.length cap∧SlM w w.heap.size A cap ms:=by
 subst hn;have h':=h;obtain⟨A,cap,e1,h2,h3,h4,h5⟩:=own_rdN encM_len h;refine⟨A,cap,e1,⟨h2,hok⟩,h4,h5, ?_, ?_⟩
 ·intro e;subst e;obtain⟨_,h2⟩:=h';rcases h2 with⟨hv,_⟩ | ⟨g,c2,cur,hv,_⟩
  ·rw[e1]at hv;injection hv
  ·rw[e1]at hv;injection hv with hv _
   cases hv
 ·intro a e;subst e;obtain⟨_,h2⟩:=h';rcases h2 with⟨hv,_⟩ | ⟨g,c2,cur,hv,_,hg,_⟩
  ·rw[e1]at hv;injection hv with hv _
   cases hv
  ·rw[e1]at hv;injection hv with hv _
   injection hv with hv
   subst hv;refine⟨rfl, ?_⟩;rcases Nat.lt_or_ge g w.heap.size with hlt | hge
   ·exact hlt
   ·rw[Array.getElem?_eq_none hge]at hg;cases hg
end
noncomputable def ops65_1:Array Oper:=opsOf (regionOf Tryz.f64 1)
theorem reg65_1{Q:Exit→Act→World→Prop}{V:World}{A:Option Addr}{cap i:Nat}{C1 C2:List Value}{zC zD zE zF zG zH zI zJ zK zL zM zN zO:Value}(hi:i<n)(hn:n≤12)(hnc:n≤cap)(hcap:cap≤maxLen)(hC1:Srcs V 7 (.slice A i cap) i C1)(hC2:Srcs V 7 (.slice (if cap=i+1 then A else A.map fun x=>x.add ((i+1)*7)) (n-(i+1)) (cap-(i+1))) (n-(i+1)) C2)(hQ:∀u5 u6 u7 u8 u9 u10 u11 u12 u13 u14 v' W',LiveB V W' [some ⟨v',43,7,0+i+(n-(i+1)),[]++C1++C2⟩,none,none,none]→Q .normal ⟨#[.slice A n cap,iv i,zC,zD,v',u5,u6,u7,u8,u9,u10,u11,u12,u13,u14],[]⟩ W') :
  (regionOf Tryz.f64 1).wp Tryz.prog Q ⟨#[.slice A n cap,iv i,zC,zD,zE,zF,zG,zH,zI,zJ,zK,zL,zM,zN,zO],[]⟩ V:=by
 obtain⟨i47,hi47,hz470,hz471,hz472⟩:=info_parts Tryz.info43;have H1:=Lq hC1;have H2:=Lq hC2;have HQ:=Lq hQ;have _u:=hcap;have h0:(0:Int)≤(i:Int):=by omega
 have hi2:(i:Int)≤(cap:Int):=by omega
 have hi3:(i:Int)+1≤(n:Int):=by omega
 have hi4:(i:Int)+1≤(cap:Int):=by omega
 have hw:IntKind.i64.wrap ((i:Int)+1)=(i:Int)+1:=by rw[IntKind.wrap_i64];simp only[maxLen]at hcap;omega
 have hng:¬((i:Int)+1<0):=by omega
 have htn:((i:Int)+1).toNat=i+1:=by omega
 have hL:Hid (LiveB V V.drew [none,none,none,none]):=Lq liveB_start;clear hC1 hC2 hQ;refine go0 (ops:=ops65_1) (r:=1) (n:=11) (S:=fun W=>BW V W) (fun W hb=>hb) fun V0 HB0 hHeld=>?_
 refine tk 1 (.slice A n cap) ?_;refine tk 2 (iv i) ?_;refine tk 3 (.slice A i cap) ?_;refine tk 5 (.slice A n cap) ?_;refine tk 6 (iv i) ?_;refine tk 7 (iv (i+1)) ?_;refine tk 8 (.slice (if cap=i+1 then A else A.map fun x=>x.add ((i+1)*7)) (n-(i+1)) (cap-(i+1))) ?_
 refine rd1 0 fun K' hK=>?_
 go_simp;have L1:Hid (LiveB V (V0.alloc (.cells #[] 43)) [some ⟨.slice (some ⟨V0.heap.size,0,none⟩) 0 0,43,7,0,[]⟩,none,none,none]):=Lq (liveB_lit (L:=[none,none,none,none]) ⟨HB0.out,live_nil HB0.out.size⟩ 0 #[] 43 7 0 (by simp[maxLen]) rfl)
 obtain⟨V1,hV1⟩:=ex (V0.alloc (.cells #[] 43));obtain⟨g1,hg1⟩:=ex V0.heap.size;rw[hV1,hg1]at L1;rw[hV1,hg1];refine hK.out _ _ L1.out.1 (fun hHeld=>?_)
 clear hK hV1 hg1;refine rd1 4 fun K' hK=>?_
 refine step_append_live (by rfl) _ _ 22 (by rfl) L1.out 0 _ rfl i47 _ 80 Tryz.underlying22 hi47 hz470 hz471 hz472 rfl (Nat.succ_pos _) (by rfl) (.slice A i cap) i _ (by rfl) (srcs_keep L1.out H1.out) (by simp only[];unfold maxLen;omega) (by simp only[];omega) ?_
 intro v2 V2 hL2;have L2:=Lq hL2;refine hK.out _ _ hL2.1 (fun hHeld=>?_)
 clear hK hL2 L1;refine rd1 9 fun K' hK=>?_
 refine step_append_live (by rfl) _ _ 22 (by rfl) L2.out 0 _ rfl i47 _ 80 Tryz.underlying22 hi47 hz470 hz471 hz472 rfl (Nat.succ_pos _) (by rfl) (.slice (if cap=i+1 then A else A.map fun x=>x.add ((i+1)*7)) (n-(i+1)) (cap-(i+1))) (n-(i+1)) _ (by rfl) (srcs_keep L2.out H2.out) (by simp only[];unfold maxLen;omega) (by simp only[];omega) ?_
 intro v3 V3 hL3;have L3:=Lq hL3;refine hK.out _ _ hL3.1 (fun hHeld=>?_)
 clear hK hL3 L2;refine tk 10 v3 ?_;refine wpAnyH_done (by kernel_rfl) ?_ _
 exact NoPanic.normal (HQ.out _ _ _ _ _ _ _ _ _ _ _ _ L3.out)
def OwnMs(l:List HuM)(w:World)(e:Ending)(w':World):Prop:=∃v,e=.returned v∧w'.ownsRow w.heap.size 43 7 v l.length (l.flatMap encM)∧BW w w'
theorem without65_any(A:Option Addr)(ms:List HuM)(B cap i:Nat)(w:World)(hB:B≤w.heap.size)(H:SlM w B A cap ms)(hn:ms.length≤12)(hi:i<ms.length) :
  Cs 64 #[.slice A ms.length cap,iv i] w (OwnMs (ms.eraseIdx i) w):=by
 have HR:=H.row hB;have H1:=Lq (HR.low encM_len encM_one (p:=i) (Nat.le_of_lt hi));have H2:=Lq (HR.high (by omega) encM_len encM_one (n:=ms.length) (p:=i+1) rfl hi)
 have hle:=H.le;have hmx:=H.max;clear H HR;go_enter Tryz.func64,Tryz.ntmps64
 go_wp2_with fail;go_upto_region 1 with fail
 refine reg65_1 hi hn hle hmx H1.out H2.out ?_;intro u5 u6 u7 u8 u9 u10 u11 u12 u13 u14 v' W' hL;have L:=Lq hL;clear hL H1 H2;go_wp2_with fail;go_ret
 refine⟨v',rfl, ?_,L.out.1⟩;have ho:=live_own L.out.2 (i:=0) rfl;have hl:(ms.eraseIdx i).length=0+i+(ms.length-(i+1)):=by rw[List.length_eraseIdx_of_lt hi];omega
 rw[hl,List.eraseIdx_eq_take_drop_succ]
 simpa[List.flatMap_append]using ho
end
end Go.Proofs.YtigcophcpboanaaGreatDoor
