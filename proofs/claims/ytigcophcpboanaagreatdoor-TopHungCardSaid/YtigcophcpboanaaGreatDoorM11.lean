/- hull: check (printed by mkHP4.py). hull: slices.Clone of parts and of names. hull: .. -/
import Derived.Lib.SliceRun
import Derived.Deep.RegionLaw
import Derived.Laws.IdiomCopy
import Derived.Maps.Own
import Derived.Laws.OwnMore
import Derived.Test.YtigcophcpboanaaGreatDoorM10
set_option maxRecDepth 1000000
set_option maxHeartbeats 0
namespace Go.Proofs.YtigcophcpboanaaGreatDoor
open Go.RowKit
section
variable{k:Nat}
theorem pos_take{l:List HuP}{s:ByteArray}:hasP (l.take k) s=true↔0≤posP l s∧posP l s<k:=by
 have hi:hasP l s=true→(hasP (l.take k) s=true↔idxP l s<k):=by
  intro hh;obtain⟨_,hl,p,hp,e⟩:=posP_at hh;constructor
  ·intro h;obtain⟨q,hq,e2⟩:=hasP_iff.1 h;obtain⟨j,hj⟩:=List.mem_iff_getElem?.1 hq;rw[List.getElem?_take]at hj;split at hj
   ·rename_i hjk;obtain⟨hjl,ej⟩:=List.getElem?_eq_some_iff.1 hj;unfold idxP;rcases Nat.lt_or_ge (l.findIdx (nmB s)) k with h2 | h2
    ·exact h2
    ·exfalso;have:=List.not_of_lt_findIdx (p:=nmB s) (xs:=l) (i:=j) (by omega)
     rw[ej]at this;rw[nmB_iff.2 e2]at this;cases this
   ·cases hj
  ·intro h;exact hasP_iff.2 ⟨p,mG ⟨_,by rw[List.getElem?_take_of_lt h];exact hp⟩,e⟩
 cases hh:hasP l s with
 | false =>
  rw[posP_none hh];constructor
  ·intro h;obtain⟨q,hq,e⟩:=hasP_iff.1 h;exact absurd e (hasP_false.1 hh q (List.mem_of_mem_take hq))
  ·intro h;omega
 | true =>
  rw[hi hh,(posP_at hh).1];omega
theorem anyP_no{α:Type}{P:α→Bool}{l:List α}:anyP P l=false↔∀x∈l,P x=false:=by unfold anyP;rw[List.any_eq_false];exact⟨fun h x hx=>by simpa using h x hx,fun h x hx=>by simp[h x hx]⟩
theorem check_parts{name:ByteArray}{kind first last wlo whi r:Int}{on:List ByteArray}{ps bs:List HuP}(k1:nameB name=true)(k2:posP ps name=r)(hr:¬(0≤r∧r<k))(k3:anyP (nmB name) bs=false)(k4:inB 1 5 kind=true)(k5:(inB 0 40 first&&inB 0 40 last)=true)(k6:(inB 1 1000000 wlo&&inB 1 1000000 whi)=true)(h7:first≤last)(h8:wlo≤whi)(k9:anyP (fun o=>!hasP (ps.take k) o) on=false) :
  PartOk ⟨name,kind,first,last,on,wlo,whi⟩ (ps.take k) (ps.take k++bs)↔(on.map ByteArray.toList).Nodup∧anyP (fun o=>!metB ⟨name,kind,first,last,on,wlo,whi⟩ (ps.take k) o) on=false:=by
 rw[Bool.and_eq_true]at k5 k6;have hn:hasP (ps.take k) name=false:=by
  cases h:hasP (ps.take k) name with
  | false=>rfl
  | true =>
   have:=pos_take.1 h;rw[k2]at this;exact absurd this hr
 have hhas:∀o∈on,hasP (ps.take k) o=true:=fun o ho=>by simpa using anyP_no.1 k9 o ho
 have hmet:∀o∈on,(metB ⟨name,kind,first,last,on,wlo,whi⟩ (ps.take k) o=true↔∃y,(ps.take k).find? (nmB o)=some y∧meetB ⟨name,kind,first,last,on,wlo,whi⟩ y=true):=by intro o ho;obtain⟨y,hy,_⟩:=find_none_of (hhas o ho);unfold metB;rw[hy];simp
 constructor
 ·intro h;refine⟨h.dup,anyP_no.2 fun o ho=>?_⟩
  have:=(hmet o ho).2 (h.on o ho);rw[this];rfl
 ·rintro⟨h1,h2⟩;refine⟨k1,fun p hp=>?_,inB_t k4,⟨(inB_t k5.1).1,h7,(inB_t k5.2).2⟩,⟨(inB_t k6.1).1,h8,(inB_t k6.2).2⟩,fun o ho=>(hmet o ho).1 (by have:=anyP_no.1 h2 o ho;simpa using this),h1⟩
  rcases List.mem_append.1 hp with hp | hp
  ·exact hasP_false.1 hn p hp
  ·intro e;have:=anyP_no.1 k3 p hp;rw[nmB_iff.2 e]at this;cases this
theorem check126_any(A A2:Option Addr)(ms bs:List HuM)(x:HuM)(B cap cap2 gs k:Nat)(w:World)(hB:B≤w.heap.size)(H:MsRd w B A ms)(H2:MsRd w B A2 bs)(hM:MOk w B x)(hle:ms.length≤cap)(hcap:cap≤maxLen)(hbl:bs.length≤maxLen)(hk:k≤ms.length)(hs:w.cell? ⟨gs,0,none⟩=some (.slice A ms.length cap)) :
  Cs 136 #[pT gs 0,mV x,iv k,.slice A2 bs.length cap2] w (ErrIff (PartOk x.p ((psOf ms).take k) ((psOf ms).take k++psOf bs)) w):=by
 obtain⟨W1,hW1,hb1,hz1,hq⟩:=mBox w x;have HM1:=Lq (hM.below hb1 hB);have HH1:=Lq (H.below hb1 hB);have HO1:=Lq (H2.below hb1 hB);have hBW1:B≤W1.heap.size:=by omega
 have hsl:=lt_of_cell hs;clear hM H H2;obtain⟨⟨name,kind,first,last,on,wlo,whi⟩,Ao,ca⟩:=x;obtain⟨gx,hgx⟩:=ex w.heap.size;rw[hgx]at hq;have HB1:=Lq hb1;have HBX:Hid (∀W,BW W1 W→Blk W gx 43 #[.string name,iv kind,iv first,iv last,.slice Ao on.length ca,iv wlo,iv whi]):=Lq fun W hb=>hq.keep hb
 have HC:Hid (∀W,BW W1 W→W.cell? ⟨gx,0,none⟩=some (.string name)∧W.cell? ⟨gx,1,none⟩=some (iv kind)∧W.cell? ⟨gx,2,none⟩=some (iv first)∧W.cell? ⟨gx,3,none⟩=some (iv last)∧W.cell? ⟨gx,4,none⟩=some (.slice Ao on.length ca)∧W.cell? ⟨gx,5,none⟩=some (iv wlo)∧W.cell? ⟨gx,6,none⟩=some (iv whi)∧gx<W.heap.size∧W.cell? ⟨gs,0,none⟩=some (.slice A ms.length cap)):=Lq fun W hb=>have k:=hq.keep hb;⟨k.c 0,k.c 1,k.c 2,k.c 3,k.c 4,k.c 5,k.c 6,k.lt,kC (bT hb1 hb) hs⟩
 have hm9:ms.length≤maxLen:=lT hle hcap;have hk0:(0:Int)≤(k:Int):=by omega
 have hkc:(k:Int)≤(cap:Int):=by omega
 have hca9:cap≤9223372036854775807:=by simp only[maxLen]at hcap;omega
 obtain⟨b1,h1⟩:=ex (nameB name);have HN:Hid (∀W,Cs 29 #[.string name] W (Rt W (.bool b1))):=Lq fun W=>h1▸name_any name W HM1.out.nm
 obtain⟨r,h2⟩:=ex (posP (psOf ms) name);have HF:Hid (∀W,BW W1 W→Cs 50 #[pT gs 0,.string name] W (Rt W (iv r))):=Lq fun W hb=>h2▸find49_any A ms B cap gs name W (lT hBW1 hb.size) hm9 (HH1.out.below hb hBW1) (HC.out W hb).2.2.2.2.2.2.2.2
 obtain⟨b3,h3⟩:=ex (anyP (nmB name) (psOf bs));have HB:Hid (∀W,BW W1 W→Cs 159 #[.slice A2 bs.length cap2,.func (.func 160) #[] #[pT gx 0]] W (Rt W (.bool b3))):=Lq fun W hb=>h3▸con_behind (nmB name) A2 bs B cap2 (pT gx 0) W hbl (lT hBW1 hb.size) (HO1.out.below hb hBW1) (fun W2 m hb2 _=>behind142_any m name gx W2 (HC.out W2 (bT hb hb2)).1)
 obtain⟨b4,h4⟩:=ex (inB 1 5 kind);obtain⟨b5,h5⟩:=ex (inB 0 40 first&&inB 0 40 last);obtain⟨b6,h6⟩:=ex (inB 1 1000000 wlo&&inB 1 1000000 whi);have O4:Hid (∀g W,W.cell? ⟨g,0,none⟩=some (iv kind)→Cs 59 #[iv 1,iv 5,.slice (some ⟨g,0,none⟩) 1 1] W (Rt W (.bool (!b4)))):=Lq fun g W hc=>h4▸out_oneH 1 5 kind g W hc (lt_of_cell hc)
 have O5:Hid (∀g W,W.cell? ⟨g,0,none⟩=some (iv first)→W.cell? ⟨g,1,none⟩=some (iv last)→Cs 59 #[iv 0,iv 40,.slice (some ⟨g,0,none⟩) 2 2] W (Rt W (.bool (!b5)))):=Lq fun g W hc hd=>h5▸out_twoH 0 40 first last g W hc hd (lt_of_cell hc)
 have O6:Hid (∀g W,W.cell? ⟨g,0,none⟩=some (iv wlo)→W.cell? ⟨g,1,none⟩=some (iv whi)→Cs 59 #[iv 1,iv 1000000,.slice (some ⟨g,0,none⟩) 2 2] W (Rt W (.bool (!b6)))):=Lq fun g W hc hd=>h6▸out_twoH 1 1000000 wlo whi g W hc hd (lt_of_cell hc)
 have K1:=Lq h1;have K2:=Lq h2;have K3:=Lq h3;have K4:=Lq h4;have K5:=Lq h5;have K6:=Lq h6;clear h1 h2 h3 h4 h5 h6 hq hb1 hs;obtain⟨p0,p1,p2,p3,p4,p5,p6,hxl,ps⟩:=HC.out _ (bR W1);go_enter Tryz.func136,Tryz.ntmps136
 go_wp2_with fail;refine(HN.out _).mono ?_;rintro e w1 ⟨rfl,hb⟩;have HB2:=Lq hb;clear p0 p1 p2 p3 p4 p5 p6 hxl ps hb hW1 HN;obtain⟨p0,p1,p2,p3,p4,p5,p6,hxl,ps⟩:=HC.out _ HB2.out;cases b1 with
 | false =>
  go_wp2_with fail;go_ret
  exact errNo (by decide) (fun h=>by have:=h.nm;rw[K1.out]at this;cases this) (bT HB1.out HB2.out)
 | true =>
  go_wp2_with fail;refine(HF.out _ HB2.out).mono ?_;rintro e w2 ⟨rfl,hb⟩;have HB3:=Lq (bT HB2.out hb);clear p0 p1 p2 p3 p4 p5 p6 hxl ps hb;obtain⟨p0,p1,p2,p3,p4,p5,p6,hxl,ps⟩:=HC.out _ HB3.out;by_cases hr0:0≤r
  ·go_wp2_with fail;refine(HF.out _ HB3.out).mono ?_;rintro e w3 ⟨rfl,hb⟩;have HB3b:=Lq (bT HB3.out hb);clear p0 p1 p2 p3 p4 p5 p6 hxl ps hb;obtain⟨p0,p1,p2,p3,p4,p5,p6,hxl,ps⟩:=HC.out _ HB3b.out;by_cases hrk:r<(k:Int)
   ·go_wp2_with fail;go_ret
    refine errNo (by decide) (fun h=>?_) (bT HB1.out HB3b.out)
    have h5:=(pos_take (l:=psOf ms) (s:=name) (k:=k)).2 (by rw[K2.out];exact⟨hr0,hrk⟩)
    obtain⟨p,hp,e⟩:=hasP_iff.1 h5;exact h.new p (List.mem_append_left _ hp) e
   ·have HNR:Hid (¬(0≤r∧r<(k:Int))):=Lq (fun h=>hrk h.2)
    go_wp2_with fail;refine(HB.out _ HB3b.out).mono ?_;rintro e w4 ⟨rfl,hb⟩;have HB4:=Lq (bT (HB3b.out) hb);clear p0 p1 p2 p3 p4 p5 p6 hxl ps hb;obtain⟨p0,p1,p2,p3,p4,p5,p6,hxl,ps⟩:=HC.out _ HB4.out;cases b3 with
    | true =>
     go_wp2_with fail;go_ret
     refine errNo (by decide) (fun h=>?_) (bT HB1.out HB4.out)
     have:anyP (nmB name) (psOf bs)=false:=anyP_no.2 fun p hp=>by
      cases hn:nmB name p with
      | false=>rfl
      | true=>exact absurd (nmB_iff.1 hn) (h.new p (List.mem_append_right _ hp))
     rw[K3.out]at this;cases this
    | false =>
     go_wp2_with fail;refine(O4.out _ _ (by go_simp)).mono ?_
     rintro e w5 ⟨rfl,hb⟩;have HB5:=Lq (bT (bA (HB4.out) _) hb);clear p0 p1 p2 p3 p4 p5 p6 hxl ps hb;obtain⟨p0,p1,p2,p3,p4,p5,p6,hxl,ps⟩:=HC.out _ HB5.out;cases b4 with
     | false =>
      go_wp2_with fail;go_ret
      exact errNo (by decide) (fun h=>by have h9:=inB_mk h.kind.1 h.kind.2;(try simp only at h9);rw[K4.out]at h9;cases h9) (bT HB1.out HB5.out)
     | true =>
      go_wp2_with fail;refine(O5.out _ _ (by go_simp) (by go_simp)).mono ?_
      rintro e w6 ⟨rfl,hb⟩;have HB6:=Lq (bT (bA (HB5.out) _) hb);clear p0 p1 p2 p3 p4 p5 p6 hxl ps hb;obtain⟨p0,p1,p2,p3,p4,p5,p6,hxl,ps⟩:=HC.out _ HB6.out;cases b5 with
      | false =>
       go_wp2_with fail;go_ret
       exact errNo (by decide) (fun h=>by have h9:(inB 0 40 first&&inB 0 40 last)=true:=(by rw[inB_mk h.fr.1 (Int.le_trans h.fr.2.1 h.fr.2.2),inB_mk (Int.le_trans h.fr.1 h.fr.2.1) h.fr.2.2];rfl);(try simp only at h9);rw[K5.out]at h9;cases h9) (bT HB1.out HB6.out)
      | true =>
       go_wp2_with fail;refine(O6.out _ _ (by go_simp) (by go_simp)).mono ?_
       rintro e w7 ⟨rfl,hb⟩;have HB7:=Lq (bT (bA (HB6.out) _) hb);clear p0 p1 p2 p3 p4 p5 p6 hxl ps hb;obtain⟨p0,p1,p2,p3,p4,p5,p6,hxl,ps⟩:=HC.out _ HB7.out;cases b6 with
       | false =>
        go_wp2_with fail;go_ret
        exact errNo (by decide) (fun h=>by have h9:(inB 1 1000000 wlo&&inB 1 1000000 whi)=true:=(by rw[inB_mk h.wt.1 (Int.le_trans h.wt.2.1 h.wt.2.2),inB_mk (Int.le_trans h.wt.1 h.wt.2.1) h.wt.2.2];rfl);(try simp only at h9);rw[K6.out]at h9;cases h9) (bT HB1.out HB7.out)
       | true =>
        by_cases h7:last<first
        ·go_wp2_with fail;go_ret
         exact errNo (by decide) (fun h=>by have:=h.fr.2.1;simp only at this;omega) (bT HB1.out HB7.out)
        ·by_cases h8:whi<wlo
         ·go_wp2_with fail;go_ret
          exact errNo (by decide) (fun h=>by have:=h.wt.2.1;simp only at this;omega) (bT HB1.out HB7.out)
         ·have h7b:¬first>last:=by omega
          have h8b:¬wlo>whi:=by omega
          obtain⟨W8,hW8⟩:=ex (w7.alloc (.cells #[.slice A k cap] 102));have hb8:BW w7 W8:=by rw[←hW8];exact bA (bR _) _
          have kb8:Blk W8 w7.heap.size 102 #[.slice A k cap]:=by rw[←hW8];exact Blk.new w7 102 _
          have HB8:=Lq (bT HB7.out hb8);obtain⟨gb,hgb⟩:=ex w7.heap.size;rw[hgb]at kb8;have hlt:(ms.take k).length=k:=by rw[List.length_take];omega
          have hlk:∀W o,BW W8 W→Cs 161 #[.string o,pT gb 0] W (Rt W (.bool (!hasP ((psOf ms).take k) o))):=fun W o hb=>by
           have hc:=lacks143_any A (ms.take k) B cap gb o W (lT hBW1 (bT HB8.out hb).size) (by rw[hlt];omega) ((HH1.out.below (bT HB8.out hb) hBW1).take k) (by rw[hlt];exact(kb8.keep hb).c 0)
           rw[take_map]at hc;exact hc
          obtain⟨b9,h9⟩:=ex (anyP (fun o=>!hasP ((psOf ms).take k) o) on)
          have HL8:Hid (Cs 53 #[.slice Ao on.length ca,.func (.func 161) #[] #[pT gb 0]] W8 (Rt W8 (.bool b9))):=Lq (h9▸con_lacks (fun o=>!hasP ((psOf ms).take k) o) Ao on B ca (pT gb 0) W8 (lT HM1.out.le HM1.out.cm) (lT hBW1 HB8.out.size) (HM1.out.on.below HB8.out hBW1) (fun W o hb _=>hlk W o hb))
          have K9:=Lq h9;have KB8:=Lq kb8;clear h9 hlk hb8 kb8;obtain⟨q0,q1,q2,q3,q4,q5,q6,qxl,qs⟩:=HC.out _ HB8.out;go_wp2_with fail;refine HL8.out.mono ?_;rintro e w9 ⟨rfl,hb⟩;have HB98:=Lq hb;have HB9:=Lq (bT HB8.out hb);clear p0 p1 p2 p3 p4 p5 p6 hxl ps hb hW8 q0 q1 q2 q3 q4 q5 q6 qxl qs;obtain⟨p0,p1,p2,p3,p4,p5,p6,hxl,ps⟩:=HC.out _ HB9.out;cases b9 with
          | true =>
           go_wp2_with fail;go_ret
           refine errNo (by decide) (fun h=>?_) (bT HB1.out HB9.out)
           have:anyP (fun o=>!hasP ((psOf ms).take k) o) on=false:=anyP_no.2 fun o ho=>by obtain⟨y,hy,_⟩:=h.on o ho;have:=hasP_iff.2 ⟨y,List.mem_of_find?_eq_some hy,nmB_iff.1 (List.find?_some hy)⟩;rw[this];rfl
           rw[K9.out]at this;cases this
          | false =>
           have HPARTS:=Lq (check_parts (bs:=psOf bs) K1.out K2.out HNR.out K3.out K4.out K5.out K6.out (by omega) (by omega) K9.out)
           have HRP:Hid (Cs 162 #[.slice Ao on.length ca] w9 (DupPost on w9)):=Lq (repeated144_any Ao on B ca w9 HM1.out.le HM1.out.cm (HM1.out.on.below HB9.out hBW1));obtain⟨ba,ha⟩:=ex (anyP (fun o=>!metB (HuP.mk name kind first last on wlo whi) ((psOf ms).take k) o) on)
           have hap:Cs 53 #[.slice Ao on.length ca,.func (.func 163) #[] #[pT gx 0,pT gb 0]] w9 (Rt w9 (.bool ba)):=ha▸con_apart (fun o=>!metB (HuP.mk name kind first last on wlo whi) ((psOf ms).take k) o) Ao on B ca (pT gx 0) (pT gb 0) w9 (lT HM1.out.le HM1.out.cm) (lT hBW1 HB9.out.size) (HM1.out.on.below HB9.out hBW1) (fun W o hb ho=>by
            have hb2:=bT HB9.out hb;have hc:=apart145_any A (ms.take k) ⟨(HuP.mk name kind first last on wlo whi),Ao,ca⟩ B cap gx gb o W (lT hBW1 hb2.size) (by rw[hlt];omega) ((HH1.out.below hb2 hBW1).take k) (HBX.out W hb2) (by rw[hlt];exact(KB8.out.keep (bT HB98.out hb)).c 0) (by rw[take_map];have:=anyP_no.1 K9.out o ho;simpa using this)
            rw[take_map]at hc;exact hc)
           have HAP:=Lq hap;have KA:=Lq ha;clear hap ha;go_wp2_with fail;refine HRP.out.mono ?_;rintro e w' ⟨bd,rfl,hbd,rfl⟩;have HBD:=Lq hbd;clear hbd;cases bd with
           | true =>
            go_wp2_with fail;go_ret
            exact errNo (by decide) (fun h=>by have:=HBD.out.2 (HPARTS.out.1 h).1;cases this) (bT HB1.out HB9.out)
           | false =>
            go_wp2_with fail;refine HAP.out.mono ?_;rintro e wa ⟨rfl,hb⟩;have HBa:=Lq (bT HB9.out hb);clear p0 p1 p2 p3 p4 p5 p6 hxl ps hb;cases ba with
            | true =>
             go_wp2_with fail;go_ret
             exact errNo (by decide) (fun h=>by have:=(HPARTS.out.1 h).2;rw[KA.out]at this;cases this) (bT HB1.out HBa.out)
            | false =>
             go_wp2_with fail;go_ret
             exact errOk (HPARTS.out.2 ⟨HBD.out.1 (by simp),KA.out⟩) (bT HB1.out HBa.out)
  ·have HNR:Hid (¬(0≤r∧r<(k:Int))):=Lq (fun h=>hr0 h.1)
   go_wp2_with fail;refine(HB.out _ HB3.out).mono ?_;rintro e w4 ⟨rfl,hb⟩;have HB4:=Lq (bT (HB3.out) hb);clear p0 p1 p2 p3 p4 p5 p6 hxl ps hb;obtain⟨p0,p1,p2,p3,p4,p5,p6,hxl,ps⟩:=HC.out _ HB4.out;cases b3 with
   | true =>
    go_wp2_with fail;go_ret
    refine errNo (by decide) (fun h=>?_) (bT HB1.out HB4.out)
    have:anyP (nmB name) (psOf bs)=false:=anyP_no.2 fun p hp=>by
     cases hn:nmB name p with
     | false=>rfl
     | true=>exact absurd (nmB_iff.1 hn) (h.new p (List.mem_append_right _ hp))
    rw[K3.out]at this;cases this
   | false =>
    go_wp2_with fail;refine(O4.out _ _ (by go_simp)).mono ?_
    rintro e w5 ⟨rfl,hb⟩;have HB5:=Lq (bT (bA (HB4.out) _) hb);clear p0 p1 p2 p3 p4 p5 p6 hxl ps hb;obtain⟨p0,p1,p2,p3,p4,p5,p6,hxl,ps⟩:=HC.out _ HB5.out;cases b4 with
    | false =>
     go_wp2_with fail;go_ret
     exact errNo (by decide) (fun h=>by have h9:=inB_mk h.kind.1 h.kind.2;(try simp only at h9);rw[K4.out]at h9;cases h9) (bT HB1.out HB5.out)
    | true =>
     go_wp2_with fail;refine(O5.out _ _ (by go_simp) (by go_simp)).mono ?_
     rintro e w6 ⟨rfl,hb⟩;have HB6:=Lq (bT (bA (HB5.out) _) hb);clear p0 p1 p2 p3 p4 p5 p6 hxl ps hb;obtain⟨p0,p1,p2,p3,p4,p5,p6,hxl,ps⟩:=HC.out _ HB6.out;cases b5 with
     | false =>
      go_wp2_with fail;go_ret
      exact errNo (by decide) (fun h=>by have h9:(inB 0 40 first&&inB 0 40 last)=true:=(by rw[inB_mk h.fr.1 (Int.le_trans h.fr.2.1 h.fr.2.2),inB_mk (Int.le_trans h.fr.1 h.fr.2.1) h.fr.2.2];rfl);(try simp only at h9);rw[K5.out]at h9;cases h9) (bT HB1.out HB6.out)
     | true =>
      go_wp2_with fail;refine(O6.out _ _ (by go_simp) (by go_simp)).mono ?_
      rintro e w7 ⟨rfl,hb⟩;have HB7:=Lq (bT (bA (HB6.out) _) hb);clear p0 p1 p2 p3 p4 p5 p6 hxl ps hb;obtain⟨p0,p1,p2,p3,p4,p5,p6,hxl,ps⟩:=HC.out _ HB7.out;cases b6 with
      | false =>
       go_wp2_with fail;go_ret
       exact errNo (by decide) (fun h=>by have h9:(inB 1 1000000 wlo&&inB 1 1000000 whi)=true:=(by rw[inB_mk h.wt.1 (Int.le_trans h.wt.2.1 h.wt.2.2),inB_mk (Int.le_trans h.wt.1 h.wt.2.1) h.wt.2.2];rfl);(try simp only at h9);rw[K6.out]at h9;cases h9) (bT HB1.out HB7.out)
      | true =>
       by_cases h7:last<first
       ·go_wp2_with fail;go_ret
        exact errNo (by decide) (fun h=>by have:=h.fr.2.1;simp only at this;omega) (bT HB1.out HB7.out)
       ·by_cases h8:whi<wlo
        ·go_wp2_with fail;go_ret
         exact errNo (by decide) (fun h=>by have:=h.wt.2.1;simp only at this;omega) (bT HB1.out HB7.out)
        ·have h7b:¬first>last:=by omega
         have h8b:¬wlo>whi:=by omega
         obtain⟨W8,hW8⟩:=ex (w7.alloc (.cells #[.slice A k cap] 102));have hb8:BW w7 W8:=by rw[←hW8];exact bA (bR _) _
         have kb8:Blk W8 w7.heap.size 102 #[.slice A k cap]:=by rw[←hW8];exact Blk.new w7 102 _
         have HB8:=Lq (bT HB7.out hb8);obtain⟨gb,hgb⟩:=ex w7.heap.size;rw[hgb]at kb8;have hlt:(ms.take k).length=k:=by rw[List.length_take];omega
         have hlk:∀W o,BW W8 W→Cs 161 #[.string o,pT gb 0] W (Rt W (.bool (!hasP ((psOf ms).take k) o))):=fun W o hb=>by
          have hc:=lacks143_any A (ms.take k) B cap gb o W (lT hBW1 (bT HB8.out hb).size) (by rw[hlt];omega) ((HH1.out.below (bT HB8.out hb) hBW1).take k) (by rw[hlt];exact(kb8.keep hb).c 0)
          rw[take_map]at hc;exact hc
         obtain⟨b9,h9⟩:=ex (anyP (fun o=>!hasP ((psOf ms).take k) o) on)
         have HL8:Hid (Cs 53 #[.slice Ao on.length ca,.func (.func 161) #[] #[pT gb 0]] W8 (Rt W8 (.bool b9))):=Lq (h9▸con_lacks (fun o=>!hasP ((psOf ms).take k) o) Ao on B ca (pT gb 0) W8 (lT HM1.out.le HM1.out.cm) (lT hBW1 HB8.out.size) (HM1.out.on.below HB8.out hBW1) (fun W o hb _=>hlk W o hb))
         have K9:=Lq h9;have KB8:=Lq kb8;clear h9 hlk hb8 kb8;obtain⟨q0,q1,q2,q3,q4,q5,q6,qxl,qs⟩:=HC.out _ HB8.out;go_wp2_with fail;refine HL8.out.mono ?_;rintro e w9 ⟨rfl,hb⟩;have HB98:=Lq hb;have HB9:=Lq (bT HB8.out hb);clear p0 p1 p2 p3 p4 p5 p6 hxl ps hb hW8 q0 q1 q2 q3 q4 q5 q6 qxl qs;obtain⟨p0,p1,p2,p3,p4,p5,p6,hxl,ps⟩:=HC.out _ HB9.out;cases b9 with
         | true =>
          go_wp2_with fail;go_ret
          refine errNo (by decide) (fun h=>?_) (bT HB1.out HB9.out)
          have:anyP (fun o=>!hasP ((psOf ms).take k) o) on=false:=anyP_no.2 fun o ho=>by obtain⟨y,hy,_⟩:=h.on o ho;have:=hasP_iff.2 ⟨y,List.mem_of_find?_eq_some hy,nmB_iff.1 (List.find?_some hy)⟩;rw[this];rfl
          rw[K9.out]at this;cases this
         | false =>
          have HPARTS:=Lq (check_parts (bs:=psOf bs) K1.out K2.out HNR.out K3.out K4.out K5.out K6.out (by omega) (by omega) K9.out)
          have HRP:Hid (Cs 162 #[.slice Ao on.length ca] w9 (DupPost on w9)):=Lq (repeated144_any Ao on B ca w9 HM1.out.le HM1.out.cm (HM1.out.on.below HB9.out hBW1));obtain⟨ba,ha⟩:=ex (anyP (fun o=>!metB (HuP.mk name kind first last on wlo whi) ((psOf ms).take k) o) on)
          have hap:Cs 53 #[.slice Ao on.length ca,.func (.func 163) #[] #[pT gx 0,pT gb 0]] w9 (Rt w9 (.bool ba)):=ha▸con_apart (fun o=>!metB (HuP.mk name kind first last on wlo whi) ((psOf ms).take k) o) Ao on B ca (pT gx 0) (pT gb 0) w9 (lT HM1.out.le HM1.out.cm) (lT hBW1 HB9.out.size) (HM1.out.on.below HB9.out hBW1) (fun W o hb ho=>by
           have hb2:=bT HB9.out hb;have hc:=apart145_any A (ms.take k) ⟨(HuP.mk name kind first last on wlo whi),Ao,ca⟩ B cap gx gb o W (lT hBW1 hb2.size) (by rw[hlt];omega) ((HH1.out.below hb2 hBW1).take k) (HBX.out W hb2) (by rw[hlt];exact(KB8.out.keep (bT HB98.out hb)).c 0) (by rw[take_map];have:=anyP_no.1 K9.out o ho;simpa using this)
           rw[take_map]at hc;exact hc)
          have HAP:=Lq hap;have KA:=Lq ha;clear hap ha;go_wp2_with fail;refine HRP.out.mono ?_;rintro e w' ⟨bd,rfl,hbd,rfl⟩;have HBD:=Lq hbd;clear hbd;cases bd with
          | true =>
           go_wp2_with fail;go_ret
           exact errNo (by decide) (fun h=>by have:=HBD.out.2 (HPARTS.out.1 h).1;cases this) (bT HB1.out HB9.out)
          | false =>
           go_wp2_with fail;refine HAP.out.mono ?_;rintro e wa ⟨rfl,hb⟩;have HBa:=Lq (bT HB9.out hb);clear p0 p1 p2 p3 p4 p5 p6 hxl ps hb;cases ba with
           | true =>
            go_wp2_with fail;go_ret
            exact errNo (by decide) (fun h=>by have:=(HPARTS.out.1 h).2;rw[KA.out]at this;cases this) (bT HB1.out HBa.out)
           | false =>
            go_wp2_with fail;go_ret
            exact errOk (HPARTS.out.2 ⟨HBD.out.1 (by simp),KA.out⟩) (bT HB1.out HBa.out)
end
section
variable{w:World}
theorem srcs_keepB{w':World}{size m:Nat}{src:Value}{news:List Value}(h:Srcs w size src m news)(hb:BW w w'):Srcs w' size src m news:=by
 rcases h with h | ⟨ad,c,h1,h2,h3,h4⟩
 ·exact .inl h
 ·refine .inr ⟨ad,c,h1,h2,fun j u hu=>?_,h4⟩
  exact keepCa hb (h3 j u hu)
theorem clone179_any(A:Option Addr)(ms:List HuM)(B cap:Nat)(w:World)(hB:B≤w.heap.size)(H:SlM w B A cap ms)(hn:ms.length≤12) :
  Cs 200 #[.slice A ms.length cap] w (OwnMs ms w):=by
 obtain⟨i47,hi47,hz470,hz471,hz472⟩:=info_parts Tryz.info43;have q28:∀(w:World) (a:Option Addr) (n c n' c':Nat),(binOp .eql 22 (.slice a n c) (.slice none n' c')).run Tryz.prog w=.ok (.bool a.isNone) w:=fun w a n c n' c'=>Lib.run_eql_slice_nil w _ _ a n c n' c' Tryz.underlying22
 cases A with
 | none =>
  have h0:ms=[]:=(H.row hB).nil0 rfl |>.1
  subst h0;clear H;go_enter Tryz.func200,Tryz.ntmps200
  go_wp2
  go_ret
  exact⟨_,rfl,World.ownsRow_nil _ _ _ _,bR _⟩
 | some ad =>
  have hsr:Srcs w 7 (.slice (some ad) ms.length cap) ms.length (ms.flatMap encM):=by
   have:=(H.row hB).low encM_len encM_one (p:=ms.length) (lr _)
   simpa using this
  have HSR:=Lq (srcs_keepB hsr (bA (bR w) (.cells #[] 43)));have HL:=Lq (World.ownsRow_lit (e:=43) (size:=7) (base:=w.heap.size) w #[] 0 (lr _) (by decide) (by simp))
  clear H hsr;go_enter Tryz.func200,Tryz.ntmps200
  go_wp2_with (at_builtin;refine wpList_append_srcs rfl _ _ 22 rfl w.heap.size 43 i47 _ 7 80 Tryz.underlying22 hi47 hz470 hz471 hz472 rfl (by decide) _ _ _ rfl HL.out (.slice (some ad) ms.length cap) ms.length _ rfl HSR.out (by unfold maxLen;omega) (by omega) (by simp only[World.size_alloc];omega) ?_)
  intro v' w3 hown hg _;have hb:=grownB HL.out hg (lr _) (bA (bR w) _);have HO:Hid (w3.ownsRow w.heap.size 43 7 v' ms.length (ms.flatMap encM)):=Lq (by simpa using hown)
  have HB:=Lq hb;clear hown hg hb HL;go_wp2
  go_ret
  exact⟨v',rfl,HO.out,HB.out⟩
def OwnSs(l:List ByteArray)(w:World)(e:Ending)(w':World):Prop:=∃v,e=.returned v∧w'.ownsRow w.heap.size 9 1 v l.length (l.map .string)∧BW w w'
theorem str_srcs{B cap:Nat}{ad:Addr}{l:List ByteArray}(h:Rd1 .string w B (some ad) l):Srcs w 1 (.slice (some ad) l.length cap) l.length (l.map .string):=by
 refine .inr ⟨ad,cap,rfl,by simp,fun j u hu=>?_,fun u hu=>?_⟩
 ·rw[List.getElem?_map]at hu;cases hx:l[j]? with
  | none=>rw[hx]at hu;cases hu
  | some x =>
   rw[hx]at hu;injection hu with hu
   subst hu;obtain⟨b,off,e,_,hc⟩:=h j x hx;injection e with e
   subst e;rw[add_off];exact hc
 ·obtain⟨x,_,rfl⟩:=List.mem_map.1 hu;rfl
theorem clone95_any(A:Option Addr)(l:List ByteArray)(B cap:Nat)(w:World)(hB:B≤w.heap.size)(H:Rd1 .string w B A l)(hn:l.length*16≤140737488351232) :
  Cs 98 #[.slice A l.length cap] w (OwnSs l w):=by
 obtain⟨i9,hi9,hz90,hz91,hz92⟩:=info_parts Tryz.info9;have _u:=hB;have q28:∀(w:World) (a:Option Addr) (n c n' c':Nat),(binOp .eql 41 (.slice a n c) (.slice none n' c')).run Tryz.prog w=.ok (.bool a.isNone) w:=fun w a n c n' c'=>Lib.run_eql_slice_nil w _ _ a n c n' c' Tryz.underlying41
 cases A with
 | none =>
  have h0:l=[]:=by
   cases l with
   | nil=>rfl
   | cons x t =>
    obtain⟨_,_,h,_⟩:=H 0 x rfl;cases h
  subst h0;clear H;go_enter Tryz.func98,Tryz.ntmps98
  go_wp2
  go_ret
  exact⟨_,rfl,World.ownsRow_nil _ _ _ _,bR _⟩
 | some ad =>
  have HSR:=Lq (srcs_keepB (str_srcs (cap:=cap) H) (bA (bR w) (.cells #[] 9)));have HL:=Lq (World.ownsRow_lit (e:=9) (size:=1) (base:=w.heap.size) w #[] 0 (lr _) (by decide) (by simp))
  clear H;go_enter Tryz.func98,Tryz.ntmps98
  go_wp2_with (at_builtin;refine wpList_append_srcs rfl _ _ 41 rfl w.heap.size 9 i9 _ 1 16 Tryz.underlying41 hi9 hz90 hz91 hz92 rfl (by decide) _ _ _ rfl HL.out (.slice (some ad) l.length cap) l.length _ rfl HSR.out (by unfold maxLen;omega) (by omega) (by simp only[World.size_alloc];omega) ?_)
  intro v' w3 hown hg _;have hb:=grownB HL.out hg (lr _) (bA (bR w) _);have HO:Hid (w3.ownsRow w.heap.size 9 1 v' l.length (l.map .string)):=Lq (by simpa using hown)
  have HB:=Lq hb;clear hown hg hb HL;go_wp2
  go_ret
  exact⟨v',rfl,HO.out,HB.out⟩
end
theorem run_clear_one{P:Program}(w:World)(t e ty:TypeId)(z:Value)(zs:List Value)(ht:P.underlying t=some (.slice e))(hv:∀w,(zeroValue e).run P w=.ok z w)(hz:z.cells=zs.toArray)(h1:∀u∈zs,u.oneCell'=true)(b o n c:Nat)(hn:n=1)(hc:∀j,j<zs.length→(w.cell? ⟨b,o+j,none⟩).isSome=true)(hf:∀j,j<zs.length→w.frozen? ⟨b,o+j,none⟩=false) :
  (Builtin.clear_ #[t] ty #[.slice (some ⟨b,o,none⟩) n c]).run P w=.ok (.tuple #[]) (w.setCells b o zs):=by
 subst hn;have hzc:(Builtin.zeroCells z.cells 1).toList=zs:=by
  rw[hz];simp[Builtin.zeroCells];apply List.ext_getElem
  ·simp
  ·intro i h1 h2;simp at h1;simp[Nat.mod_eq_of_lt h1];rw[gE h1];rfl
 have hst:=run_storeCells_cells (P:=P) b o zs 0 w (by simpa using hc) (by simpa using hf) h1
 simp only[Nat.add_zero]at hst;simp[Builtin.clear_,run_underlying ht,hv,hzc,hst]
theorem setCells_only(g:Nat):∀(vs:List Value) (o:Nat) (w wx:World),OnlyAt w wx g→OnlyAt w (wx.setCells g o vs) g:=by
 intro vs;induction vs with
 | nil=>intro o w wx h;exact h
 | cons v vs ih=>intro o w wx h;exact ih (o+1) w _ (h.set o v)
theorem some_setCells(g:Nat):∀(vs:List Value) (o:Nat) (w:World) (k:Nat),(w.cell? ⟨g,k,none⟩).isSome=true→((w.setCells g o vs).cell? ⟨g,k,none⟩).isSome=true:=by
 intro vs;induction vs with
 | nil=>intro o w k h;exact h
 | cons v vs ih =>
  intro o w k h;refine ih (o+1) _ k ?_;obtain⟨u,hu⟩:=Option.isSome_iff_exists.1 h;obtain⟨v',hv⟩:=cell?_setCell_some (p:=⟨g,o,none⟩) (x:=v) hu;rw[hv];rfl
theorem Tryz.zero43(w:World):(zeroValue 43).run Tryz.prog w=.ok (.agg #[.string ⟨#[]⟩,iv 0,iv 0,iv 0,.slice none 0 0,iv 0,iv 0]) w:=by kernel_rfl
def zeros47:List Value:=[.string ⟨#[]⟩,iv 0,iv 0,iv 0,.slice none 0 0,iv 0,iv 0]
theorem del181_any(ms:List HuM)(base g cap i:Nat)(w:World)(ho:w.ownsRow base 43 7 (.slice (some ⟨g,0,none⟩) ms.length cap) ms.length (ms.flatMap encM))(hi:i<ms.length)(hn:ms.length≤12) :
  Cs 202 #[.slice (some ⟨g,0,none⟩) ms.length cap,iv i,iv ((i:Int)+1)] w fun e w'=>e=.returned (.slice (some ⟨g,0,none⟩) (ms.length-1) cap)∧OnlyAt w w' g∧RdN 7 encM w' w'.heap.size (some ⟨g,0,none⟩) (ms.eraseIdx i):=by
 obtain⟨i47,hi47,hz470,hz471,hz472⟩:=info_parts Tryz.info43;obtain⟨hle,hcm⟩:ms.length≤cap∧cap≤maxLen:=by
  obtain⟨A,c,h1,_,_,h2,h3⟩:=own_rdN encM_len ho;injection h1 with _ _ h1
  subst h1;exact⟨h2,h3⟩
 have hcells:∀j u,(ms.flatMap encM)[j]?=some u→w.cell? ⟨g,j,none⟩=some u:=fun j u hu=>by
  have:=ho.cellAt j (by have:=(lG hu);rw[flat_len encM_len]at this;exact this)
  rw[this,hu]
 have hfl:(ms.flatMap encM).length=ms.length*7:=flat_len encM_len ms;have hsm:∀j,j<ms.length*7→(w.cell? ⟨g,j,none⟩).isSome=true:=fun j hj=>by rw[hcells j _ (gE (by rw[hfl];exact hj))];rfl
 have hfr:∀j,w.frozen? ⟨g,j,none⟩=false:=fun j=>ho.frozenAt j
 obtain⟨n,hn'⟩:=ex ms.length;obtain⟨news,hnews⟩:=ex ((ms.drop (i+1)).flatMap encM);have hnl:news.length=(n-(i+1))*7:=by rw[←hnews,flat_len encM_len,List.length_drop,hn']
 have hc9:cap≤9223372036854775807:=by simp only[maxLen]at hcm;omega
 rw[hn']at hle hi hn hfl hsm ⊢;obtain⟨AD,hAD,hsrc⟩:∃AD:Addr,(if cap=i+1 then some (⟨g,0,none⟩:Addr)else some ⟨g,(i+1)*7,none⟩)=some AD∧Hid (∀j u,news[j]?=some u→w.drew.cell? (AD.add j)=some u):=by
  by_cases h:cap=i+1
  ·refine⟨_,by rw[if_pos h],Lq fun j u hu=>?_⟩
   have:news.length=0:=by rw[hnl,show n-(i+1)=0 by omega]
   rw[List.length_eq_zero_iff.1 this]at hu;simp at hu
  ·refine⟨_,by rw[if_neg h],Lq fun j u hu=>?_⟩
   rw[add_off];have hj:j<(n-(i+1))*7:=by rw[←hnl];exact(lG hu)
   refine hcells ((i+1)*7+j) u ?_;have e:ms.flatMap encM=(ms.take (i+1)).flatMap encM++news:=by rw[←hnews,←List.flatMap_append,List.take_append_drop]
   rw[e,List.getElem?_append_right (by rw[flat_len encM_len,List.length_take];omega),flat_len encM_len,List.length_take]
   rw[show(i+1)*7+j-min (i+1) ms.length*7=j by rw[hn',Nat.min_eq_left (by omega)];omega]
   exact hu
 have s1:=Lq hnl;have s2:Hid (∀u∈news,u.oneCell'=true):=Lq fun u hu=>by rw[←hnews]at hu;obtain⟨c,_,hc⟩:=List.mem_flatMap.1 hu;exact encM_one c u hc
 have s3:Hid (∀j,j<news.length→(w.drew.cell? ⟨g,0+i*7+j,none⟩).isSome=true∧w.drew.frozen? ⟨g,0+i*7+j,none⟩=false):=Lq fun j hj=>by rw[hnl]at hj;exact⟨hsm _ (by omega),hfr _⟩
 obtain⟨W1,hW1⟩:=ex (w.drew.setCells g (0+i*7) news);have HW1:=Lq hW1;have h0:(0:Int)≤(i:Int):=by omega
 have hi2:(i:Int)≤(n:Int):=by omega
 have hi3:(i:Int)+1≤(n:Int):=by omega
 have hi4:(i:Int)+1≤(cap:Int):=by omega
 have hne:((i:Int)==(i:Int)+1)=false:=by simp;omega
 have hi5:(i:Int)≤(cap:Int):=by omega
 have hng:¬((i:Int)+1<0):=by omega
 have htn:((i:Int)+1).toNat=i+1:=by omega
 have HO:=Lq ho;have HC:=Lq hcells;have HS:=Lq hsm;have HF:=Lq hfr;have hs1:∀k,k<n*7→(W1.cell? ⟨g,k,none⟩).isSome=true:=fun k hk=>by rw[←hW1];exact some_setCells g _ _ _ _ (hsm k hk)
 have hf1:∀k,W1.frozen? ⟨g,k,none⟩=false:=fun k=>by rw[←hW1,World.frozen?_setCells];exact hfr k
 have hcl:∀ty,(Builtin.clear_ #[22] ty #[.slice (some ⟨g,(i+(n-(i+1)))*7,none⟩) (n-(i+(n-(i+1)))) (cap-(i+(n-(i+1))))]).run Tryz.prog W1=.ok (.tuple #[]) (W1.setCells g ((i+(n-(i+1)))*7) zeros47):=fun ty =>
  run_clear_one W1 22 43 ty _ zeros47 Tryz.underlying22 Tryz.zero43 rfl (by simp[zeros47,Value.oneCell']) g _ _ _ (by omega) (fun j hj=>hs1 _ (by simp only[zeros47,List.length_cons,List.length_nil]at hj;omega)) (fun j _=>hf1 _)
 have hcq:¬cap=i+(n-(i+1)):=by omega
 have HND:=Lq hnews;have HNN:=Lq hn';clear hcells hsm hfr ho hnl hnews hW1 hn' hs1 hf1;go_enter Tryz.func202,Tryz.ntmps202
 go_wp2_with fail
 go_region_law (refine step_append_room rfl (.tmp 22) (.tmp 25) 22 rfl 43 i47 7 Tryz.underlying22 hi47 hz471 g 0 i cap (by simp[Act.eval,Act.put]) AD (n-(i+1)) (cap-(i+1)) news (by simp[Act.eval,Act.put]) s1.out hsrc.out s2.out (by omega) s3.out ?_;rw[HW1.out])
 go_wp2
 go_ret
 refine⟨by show Ending.returned (Value.slice (some ⟨g,0,none⟩) (i+(n-(i+1))) cap)=_;rw[show i+(n-(i+1))=n-1 by omega], ?_, ?_⟩
 ·refine setCells_only g _ _ _ _ ?_;rw[←HW1.out];exact setCells_only g _ _ _ _ ((OnlyAt.of_below (bR w) g).drew)
 ·intro d x hx;have hlen:(ms.eraseIdx i).length=n-1:=by rw[List.length_eraseIdx_of_lt (by rw[HNN.out];exact hi),HNN.out]
  have hd:d<n-1:=by rw[←hlen];exact(lG hx)
  have hlt:g<(W1.setCells g ((i+(n-(i+1)))*7) zeros47).heap.size:=by
   have h1:=HS.out 0 (by omega)
   obtain⟨u,hu⟩:=Option.isSome_iff_exists.1 h1;have h2:=some_setCells g zeros47 ((i+(n-(i+1)))*7) W1 0 (by rw[←HW1.out];exact some_setCells g _ _ _ _ h1)
   obtain⟨u2,hu2⟩:=Option.isSome_iff_exists.1 h2;exact lt_of_cell hu2
  refine⟨g,0,rfl,hlt,fun j u hu=>?_⟩
  have hj:j<7:=by rw[←encM_len x];exact(lG hu)
  rw[World.cell?_setCells_out _ _ _ _ _ (by intro _ _;left;simp only;omega),←HW1.out]
  rw[List.getElem?_eraseIdx]at hx;split at hx
  ·rename_i hdi;rw[World.cell?_setCells_out _ _ _ _ _ (by intro _ _;left;simp only;omega),Nat.zero_add]
   exact HC.out _ _ (flat_get encM_len ms d x hx j u hu)
  ·rename_i hdi;have hnw:news[(d-i)*7+j]?=some u:=by
    rw[←HND.out];exact flat_get encM_len (ms.drop (i+1)) (d-i) x (by rw[List.getElem?_drop,show i+1+(d-i)=d+1 by omega];exact hx) j u hu
   have hnl:=(lG hnw);have hin:=World.cell?_setCells_in g news (0+i*7) w.drew (fun k hk=>(s3.out k hk).1) ((d-i)*7+j) hnl
   rw[show 0+d*7+j=0+i*7+((d-i)*7+j)by omega,hin,←hnw,gE hnl]
section
variable{name:ByteArray}{Q:Exit→Act→World→Prop}{first kind last whi wlo:Int}{ms:List HuM}{ca cap gc gs n:Nat}{A Ao:Option Addr}{zB zK zL zM zN zO zP zQ zR zS zT zC zU zV zW zX zY zZ zk zl zm zn zE zF zG zH zI zJ:Value}{V:World}
noncomputable def ops148_6:Array Oper:=opsOf (regionOf Tryz.f166 6)
abbrev hHP71(V:World)(A Ao:Option Addr)(n cap ca gs gc:Nat)(name:ByteArray)(kind first last wlo whi:Int)(on:List ByteArray):Prop:=∀W,BW V W→cA W gs 0 (.slice A n cap)∧cA W gc 3 (.string name)∧cA W gc 4 (iv kind)∧cA W gc 5 (iv first)∧cA W gc 6 (iv last)∧cA W gc 7 (.slice Ao on.length ca)∧cA W gc 8 (iv wlo)∧cA W gc 9 (iv whi)
theorem st148_6{on:List ByteArray}{v5:Value}{g1:Nat}(hn:n≤11)(hms:ms.length=n)(hg:Blk V gs 102 #[.slice A n cap])(hS:hHP71 V A Ao n cap ca gs gc name kind first last wlo whi on)(hQ:∀u26 u27 u28 u29 u30 u31 u32 u33 u34 u35 u36 u37 u38 u39 g c W',W'.ownsRow V.heap.size 43 7 (.slice (some ⟨g,0,none⟩) (n+1) c) (n+1) (ms.flatMap encM++[.string name,iv kind,iv first,iv last,.slice Ao on.length ca,iv wlo,iv whi])→BW V W'→Q .normal ⟨#[pT gs 0,zB,zC,pT gc 0,zE,zF,zG,zH,zI,zJ,zK,zL,zM,zN,zO,zP,zQ,zR,zS,zT,zU,zV,zW,zX,zY,zZ,u26,u27,u28,u29,u30,u31,u32,u33,u34,u35,u36,u37,u38,u39],[]⟩ (W'.setCell ⟨gs,0,none⟩ (.slice (some ⟨g,0,none⟩) (n+1) c))){w:World}(hO:w.ownsRow V.heap.size 43 7 v5 n (ms.flatMap encM))(hL:Blk w g1 43 #[.string name,iv kind,iv first,iv last,.slice Ao on.length ca,iv wlo,iv whi])(hB:BW V w) :
  wpAnyL Tryz.prog .any ops148_6 (NoPanic Q) (fun W=>cA W gs 0 (.slice A n cap)∧cA W gc 3 (.string name)∧cA W gc 4 (iv kind)∧cA W gc 5 (iv first)∧cA W gc 6 (iv last)∧cA W gc 7 (.slice Ao on.length ca)∧cA W gc 8 (iv wlo)∧cA W gc 9 (iv whi)) (fun k=>k==14) 5 #[true,true,true,true,true,true,true,true,true,true,false,false,false,false,false] ⟨#[pT gs 0,zB,zC,pT gc 0,zE,zF,zG,zH,zI,zJ,zK,zL,zM,zN,zO,zP,zQ,zR,zS,zT,zU,zV,zW,zX,zY,zZ,pT gs 0,pT gs 0,pT gs 0,pT gs 0,pT gs 0,.slice A n cap,v5,pT gc 3,.agg #[.string name,iv kind,iv first,iv last,.slice Ao on.length ca,iv wlo,iv whi],.slice (some ⟨g1,0,none⟩) 1 1,zk,zl,zm,zn],[]⟩ w:=by
 obtain⟨i47,hi47,hz470,hz471,hz472⟩:=info_parts Tryz.info43;have HS:=Lq hS;have HQ:=Lq hQ;have HG:=Lq hg;have HO:=Lq hO;have HL:=Lq hL;have HB:=Lq hB;have _u:=hms;clear hS hQ hg hO hL hB hms _u;refine rdL1 10 fun K' hK=>?_
 refine step_append_lies w (by rfl) _ _ 22 (by rfl) V.heap.size 43 i47 _ 7 80 Tryz.underlying22 hi47 hz470 hz471 hz472 rfl (by decide) v5 n _ (by rfl) HO.out ⟨g1,0,none⟩ 1 1 [.string name,iv kind,iv first,iv last,.slice Ao on.length ca,iv wlo,iv whi] (by rfl) (by rfl) (fun j u hu=>by rw[add_bk,HL.out.cell];simpa using hu) (by simp[Value.oneCell']) (by omega) (by unfold maxLen;omega) (by omega) HB.out.size _ rfl ?_
 intro g c w2 hown hgrow hat hlt;have HB2:Hid (BW V w2):=Lq (grownB HO.out hgrow (lr _) HB.out);have HO2:=Lq hown;refine hK.out _ _ (HS.out _ HB2.out) (fun hHeld=>?_)
 clear hown hgrow hat hlt HO HL HB;clear hK;refine tkL 11 (pT gs 0) ?_;refine tkL 12 (pT gs 0) ?_;refine tkL 13 (pT gs 0) ?_;refine rdT 14 fun K' hK=>?_
 have bg:=HG.out.keep HB2.out;have cg:=bg.c 0;have fg:=bg.frozen 0;have lg:=bg.lt;go_simp;refine hK.out _ _ ?_;clear bg cg fg lg;clear hK;refine wpAny_of_held (S:=fun _=>True) _ _ _ _ ?_
 refine wpAnyH_done (by kernel_rfl) ?_ _
 exact NoPanic.normal (HQ.out _ _ _ _ _ _ _ _ _ _ _ _ _ _ _ _ _ HO2.out HB2.out)
theorem reg148_6{on:List ByteArray}{za zb zc zd ze zf zg zh zi zj:Value}(hn:n≤11)(hms:ms.length=n)(hg:Blk V gs 102 #[.slice A n cap])(hS:hHP71 V A Ao n cap ca gs gc name kind first last wlo whi on)(hQ:∀u26 u27 u28 u29 u30 u31 u32 u33 u34 u35 u36 u37 u38 u39 g c W',W'.ownsRow V.heap.size 43 7 (.slice (some ⟨g,0,none⟩) (n+1) c) (n+1) (ms.flatMap encM++[.string name,iv kind,iv first,iv last,.slice Ao on.length ca,iv wlo,iv whi])→BW V W'→Q .normal ⟨#[pT gs 0,zB,zC,pT gc 0,zE,zF,zG,zH,zI,zJ,zK,zL,zM,zN,zO,zP,zQ,zR,zS,zT,zU,zV,zW,zX,zY,zZ,u26,u27,u28,u29,u30,u31,u32,u33,u34,u35,u36,u37,u38,u39],[]⟩ (W'.setCell ⟨gs,0,none⟩ (.slice (some ⟨g,0,none⟩) (n+1) c)))(hC:∀W,BW V W→Cs 200 #[.slice A n cap] W (OwnMs ms W)) :
  (regionOf Tryz.f166 6).wp Tryz.prog Q ⟨#[pT gs 0,zB,zC,pT gc 0,zE,zF,zG,zH,zI,zJ,zK,zL,zM,zN,zO,zP,zQ,zR,zS,zT,zU,zV,zW,zX,zY,zZ,za,zb,zc,zd,ze,zf,zg,zh,zi,zj,zk,zl,zm,zn],[]⟩ V:=by
 have HS:=Lq hS;have HC:=Lq hC;have HB0:=Lq (belowDq (bR V));have HQ:=Lq hQ;have HG:=Lq hg;clear hS hC hQ hg;have e:regionOf Tryz.f166 6=Code.region 6 ops148_6 true:=by kernel_rfl
 rw[e];refine wp_region_noPanic ?_;refine wp_region_late (S:=(fun W=>cA W gs 0 (.slice A n cap)∧cA W gc 3 (.string name)∧cA W gc 4 (iv kind)∧cA W gc 5 (iv first)∧cA W gc 6 (iv last)∧cA W gc 7 (.slice Ao on.length ca)∧cA W gc 8 (iv wlo)∧cA W gc 9 (iv whi))) (late:=(fun k=>k==14)) (by kernel_rfl) ?_
 have hHeld:=HS.out _ HB0.out;have hsz:ops148_6.size=15:=by kernel_rfl
 have hrep:Array.replicate 15 false=#[false,false,false,false,false,false,false,false,false,false,false,false,false,false,false]:=by kernel_rfl
 rw[hsz,hrep];clear e hsz hrep;generalize V.drew=V0 at HB0 hHeld ⊢;refine tkL 0 (pT gs 0) ?_;refine tkL 1 (pT gs 0) ?_;refine tkL 2 (pT gs 0) ?_;refine tkL 3 (pT gs 0) ?_;refine tkL 4 (pT gs 0) ?_;refine tkL 5 (.slice A n cap) ?_;refine tkL 7 (pT gc 3) ?_;refine tkL 8 (.agg #[.string name,iv kind,iv first,iv last,.slice Ao on.length ca,iv wlo,iv whi]) ?_;refine rdL2 6 9 (fun K' hK=>?_) fun K' hK=>?_
 ·skip;go_simp;refine(HC.out _ HB0.out).mono ?_;rintro e w5 ⟨v5,rfl,ho5,hb5⟩;have HO5:Hid (w5.ownsRow V.heap.size 43 7 v5 n (ms.flatMap encM)):=Lq (hms▸own_base ho5 HB0.out.size);have HB5:=Lq (bT HB0.out hb5);clear ho5 hb5;refine hK.out _ _ (HS.out _ HB5.out) (fun hHeld=>?_)
  clear hK;refine rdL1 9 fun K' hK=>?_
  go_simp;have HO6:=Lq (own_below HO5.out (bA (bR w5) (.cells #[.string name,iv kind,iv first,iv last,.slice Ao on.length ca,iv wlo,iv whi] 43)));have HB6:=Lq (bA HB5.out (.cells #[.string name,iv kind,iv first,iv last,.slice Ao on.length ca,iv wlo,iv whi] 43));have HL6:=Lq (Blk.new w5 43 #[.string name,iv kind,iv first,iv last,.slice Ao on.length ca,iv wlo,iv whi]);obtain⟨w6,hw6⟩:=ex (w5.alloc (.cells #[.string name,iv kind,iv first,iv last,.slice Ao on.length ca,iv wlo,iv whi] 43));obtain⟨g1,hg1⟩:=ex w5.heap.size;rw[hw6]at HO6 HB6 HL6;rw[hg1]at HL6;rw[hw6,hg1];refine hK.out _ _ (HS.out _ HB6.out) (fun hHeld=>?_)
  clear hK hw6 hg1;exact st148_6 hn hms HG.out HS.out HQ.out HO6.out HL6.out HB6.out
 ·skip;go_simp;have HB5:=Lq (bA HB0.out (.cells #[.string name,iv kind,iv first,iv last,.slice Ao on.length ca,iv wlo,iv whi] 43));have HL5:=Lq (Blk.new V0 43 #[.string name,iv kind,iv first,iv last,.slice Ao on.length ca,iv wlo,iv whi]);obtain⟨w5,hw5⟩:=ex (V0.alloc (.cells #[.string name,iv kind,iv first,iv last,.slice Ao on.length ca,iv wlo,iv whi] 43));obtain⟨g1,hg1⟩:=ex V0.heap.size;rw[hw5]at HB5 HL5;rw[hg1]at HL5;rw[hw5,hg1];refine hK.out _ _ (HS.out _ HB5.out) (fun hHeld=>?_)
  clear hK hw5 hg1;refine rdL1 6 fun K' hK=>?_
  go_simp;refine(HC.out _ HB5.out).mono ?_;rintro e w6 ⟨v5,rfl,ho6,hb6⟩;have HO6:Hid (w6.ownsRow V.heap.size 43 7 v5 n (ms.flatMap encM)):=Lq (hms▸own_base ho6 HB5.out.size);have HB6:=Lq (bT HB5.out hb6);have HL6:=Lq (HL5.out.keep hb6);clear ho6 hb6;refine hK.out _ _ (HS.out _ HB6.out) (fun hHeld=>?_)
  clear hK;exact st148_6 hn hms HG.out HS.out HQ.out HO6.out HL6.out HB6.out
end
section
variable{ms:List HuM}{cap g:Nat}{A:Option Addr}{W w:World}
theorem oT{X Y:World}(h:OnlyAt W X g)(h':OnlyAt X Y g):OnlyAt W Y g :=
 ⟨h'.os.trans h.os,h'.tape.trans h.tape,h'.output.trans h.output,lT h.size h'.size,fun k hk hne=>(h'.block k (lz hk h.size) hne).trans (h.block k hk hne)⟩
def Keeps(w:World)(g:Nat)(A:Option Addr)(cap:Nat)(ms:List HuM):Prop:=∀W,OnlyAt w W g→SlM W W.heap.size A cap ms
theorem Keeps.on(h:Keeps w g A cap ms)(ho:OnlyAt w W g):Keeps W g A cap ms:=fun X hx=>h X (oT ho hx)
theorem Keeps.below(h:Keeps w g A cap ms)(hb:BW w W):Keeps W g A cap ms:=h.on (OnlyAt.of_below hb g)
theorem Keeps.sl(h:Keeps w g A cap ms)(hb:BW w W):SlM W W.heap.size A cap ms:=h W (OnlyAt.of_below hb g)
theorem MOk.only{B:Nat}{m:HuM}(h:MOk w B m)(ho:OnlyAt w W g)(hB:B≤g):MOk W B m:=⟨ho.rd1 h.on hB,h.le,h.cm,h.nm,h.ons,h.sz⟩
theorem Keeps.own{base n:Nat}{v:Value}(h:w.ownsRow base 43 7 v n (ms.flatMap encM))(hn:n=ms.length)(hg:g<base)(hok:∀W,OnlyAt w W g→∀m∈ms,MOk W W.heap.size m):∃A cap,v=.slice A ms.length cap∧Keeps w g A cap ms:=by
 obtain⟨A,cap,e,_⟩:=SlM.of_own h hn (hok w (OnlyAt.of_below (bR w) g));refine⟨A,cap,e,fun W ho=>?_⟩
 obtain⟨A2,cap2,e2,hs⟩:=SlM.of_own (own_only h ho hg) hn (hok W ho);rw[e]at e2;injection e2 with e3 _ e4
 subst e3 e4;exact hs
def MutPost(ms:List HuM)(c:HcM)(gs:Nat)(w:World)(e:Ending)(w':World):Prop:=∃r:Int,e=.returned (iv r)∧OnlyAt w w' gs∧(r≠0→chgP (psOf ms) c.c=none∧(c.what=2→hasP (psOf ms) c.name=true→r=9))∧(r=0→∃out A cap,Blk w' gs 102 #[.slice A out.length cap]∧chgP (psOf ms) c.c=some (psOf out)∧Keeps w' gs A cap out)
theorem mutNo{c:HcM}{gs:Nat}{w':World}{r:Int}(h0:r≠0)(h:chgP (psOf ms) c.c=none)(hb:BW w w')(h9:c.what=2→hasP (psOf ms) c.name=true→r=9:=by first | exact fun h=>absurd (show(1:Int)=2 from h) (by decide) | exact fun h=>absurd (show(3:Int)=2 from h) (by decide)):MutPost ms c gs w (.returned (iv r)) w':=⟨r,rfl,OnlyAt.of_below hb gs,fun _=>⟨h,h9⟩,fun h1=>absurd h1 h0⟩
theorem add148_any(A:Option Addr)(ms:List HuM)(c:HcM)(B cap gs:Nat)(w:World)(hB:B≤gs)(hg:Blk w gs 102 #[.slice A ms.length cap])(hK:Keeps w gs A cap ms)(hM:MOk w B c.part)(hok:ShipOk (psOf ms))(hwh:c.what=1)(hnm:c.name.toList.isEmpty=true) :
  Cs 166 #[pT gs 0,cV c] w (MutPost ms c gs w):=by
 have hn12:ms.length≤12:=by have:=hok.len;simpa using this
 obtain⟨W1,hW1,hb1,hz1,hq⟩:=cBox w c;have hgl:=hg.lt;have HG:=Lq (hg.keep hb1);have HK:=Lq (hK.below hb1);have HM:=Lq (hM.below hb1 (lT hB (Nat.le_of_lt hgl)));have HB1:=Lq hb1;have HOK:=Lq hok;have hgl1:gs<W1.heap.size:=by omega
 clear hg hK hM hb1 hok;obtain⟨what,day,nm,⟨⟨name,kind,first,last,on,wlo,whi⟩,Ao,ca⟩⟩:=c;obtain rfl:what=1:=hwh;have HNM:=Lq hnm;obtain⟨gc,hgc⟩:=ex w.heap.size;rw[hgc]at hq;have HS:Hid (∀W,BW W1 W→cA W gs 0 (.slice A ms.length cap)∧cA W gc 3 (.string name)∧cA W gc 4 (iv kind)∧cA W gc 5 (iv first)∧cA W gc 6 (iv last)∧cA W gc 7 (.slice Ao on.length ca)∧cA W gc 8 (iv wlo)∧cA W gc 9 (iv whi)):=Lq fun W hb=>have k:=hq.keep hb;⟨(HG.out.keep hb).c 0,k.c 3,k.c 4,k.c 5,k.c 6,k.c 7,k.c 8,k.c 9⟩
 have HCK:Hid (∀W,BW W1 W→Cs 136 #[pT gs 0,.agg #[.string name,iv kind,iv first,iv last,.slice Ao on.length ca,iv wlo,iv whi],iv ms.length,.slice none 0 0] W (ErrIff (PartOk (HuP.mk name kind first last on wlo whi) (psOf ms) (psOf ms)) W)):=Lq fun W hb=>by
  have hs:=HK.out.sl hb;have h:=check126_any A none ms [] ⟨(HuP.mk name kind first last on wlo whi),Ao,ca⟩ W.heap.size cap 0 gs ms.length W (lr _) hs.rd MsRd.nil ((HM.out.below hb (by omega)).more (lT (by omega) hb.size)) hs.le hs.max (Nat.zero_le _) (lr _) (HS.out W hb).1
  rw[List.take_of_length_le (by simp),show psOf []=[]from rfl,List.append_nil]at h
  exact h
 have HCL:Hid (∀W,BW W1 W→Cs 200 #[.slice A ms.length cap] W (OwnMs ms W)):=Lq fun W hb=>clone179_any A ms W.heap.size cap W (lr _) (HK.out.sl hb) hn12
 obtain⟨q0,q3,q4,q5,q6,q7,q8,q9⟩:=HS.out _ (bR W1);have hgw:=hq.lt;clear hq hnm;by_cases h12:12≤ms.length
 ·have h12b:(ms.length:Int)≥12:=by omega
  go_enter Tryz.func166,Tryz.ntmps166
  go_wp2_with fail;go_ret
  exact mutNo (by decide) (chgP_add_no rfl (fun h=>by have:=h.1;simp at this;omega)) HB1.out
 ·have h12b:¬(ms.length:Int)≥12:=by omega
  go_enter Tryz.func166,Tryz.ntmps166
  go_wp2_with fail;go_region_held3 (fun W=>cA W gs 0 (.slice A ms.length cap)∧cA W gc 3 (.string name)∧cA W gc 4 (iv kind)∧cA W gc 5 (iv first)∧cA W gc 6 (iv last)∧cA W gc 7 (.slice Ao on.length ca)∧cA W gc 8 (iv wlo)∧cA W gc 9 (iv whi)) (first | exact HS.out _ (u0 hb5) | exact HS.out _ (belowDr (bR _))) ((go_at_call 136;((with_reducible refine(HCK.out _ (belowDr (bR _))).mono ?_);rintro e w5 ⟨r,rfl,hr,hb5⟩)))
  have HB5:=Lq (u0 hb5);have HR:=Lq hr;clear hb5 hr q0 q3 q4 q5 q6 q7 q8 q9;obtain⟨q0,q3,q4,q5,q6,q7,q8,q9⟩:=HS.out _ HB5.out;by_cases hr0:r=0
  ·subst hr0;have HR0:=Lq (HR.out.1 rfl);clear HR;go_wp2_with fail;go_upto_region 6 with fail
   refine reg148_6 (ms:=ms) (by omega) rfl (HG.out.keep HB5.out) (fun W hb=>HS.out W (bT HB5.out hb)) ?_ (fun W hb=>HCL.out W (bT HB5.out hb))
   intro u26 u27 u28 u29 u30 u31 u32 u33 u34 u35 u36 u37 u38 u39 g c W' hown hb;have HO:=Lq hown;have HB:=Lq (bT HB5.out hb);have hsz5:=HB5.out.size;clear hown hb q0 q3 q4 q5 q6 q7 q8 q9;go_wp2_with fail;go_ret
   refine⟨0,rfl,oT (OnlyAt.of_below (bT HB1.out HB.out) gs) (OnlyAt.of_set (bR W') gs 0 _),fun h=>absurd rfl h,fun _=>?_⟩
   have hset:OnlyAt W' (W'.setCell ⟨gs,0,none⟩ (.slice (some ⟨g,0,none⟩) (ms.length+1) c)) gs:=OnlyAt.of_set (bR W') gs 0 _;have hrow:(W'.setCell ⟨gs,0,none⟩ (.slice (some ⟨g,0,none⟩) (ms.length+1) c)).ownsRow w5.heap.size 43 7 (.slice (some ⟨g,0,none⟩) (ms.length+1) c) (ms.length+1) ((ms++[HuM.mk (HuP.mk name kind first last on wlo whi) Ao ca]).flatMap encM):=by
    have:=own_only HO.out hset (by omega)
    simpa[List.flatMap_append,encM]using this
   obtain⟨A2,cap2,e2,hkp⟩:=Keeps.own (g:=gs) hrow (by simp) (by omega) (fun W ho q hq=>by
    have hall:=oT (oT (OnlyAt.of_below HB.out gs) hset) ho;rcases List.mem_append.1 hq with hq | hq
    ·exact(HK.out W hall).rd.ok q hq
    ·obtain rfl:=List.mem_singleton.1 hq;exact(HM.out.only hall hB).more (lT (by omega) hall.size))
   refine⟨_,A2,cap2, ?_, ?_,hkp⟩
   ·have hb2:=(HG.out.keep HB.out).set_ 0 (.slice (some ⟨g,0,none⟩) (ms.length+1) c);simp only[List.setIfInBounds_toArray,List.set_cons_zero]at hb2;rw[←e2];exact hb2
   ·rw[chgP_add_ok rfl HNM.out (by simp;omega) HR0.out,psOf_snoc];rfl
  ·have hr1:(r != 0)=true:=by simpa using hr0
   go_wp2_with fail;go_ret
   exact mutNo hr0 (chgP_add_no rfl (fun h=>hr0 (HR.out.2 h.2))) (bT HB1.out HB5.out)
end
theorem rdN_only{α:Type}{k:Nat}{enc:α→List Value}{w W:World}{B b off gs:Nat}{xs:List α}(h:RdN k enc w B (some ⟨b,off,none⟩) xs)(ho:OnlyAt w W gs)(hne:b≠gs)(hlt:b<W.heap.size):RdN k enc W W.heap.size (some ⟨b,off,none⟩) xs:=by
 intro i x hx;obtain⟨b2,off2,e,_,hc⟩:=h i x hx;injection e with e
 injection e with e1 e2
 subst e1 e2;exact⟨b,off,rfl,hlt,fun j u hu=>ho.cell (hc j u hu) hne⟩
theorem take150_any(A:Option Addr)(ms:List HuM)(c:HcM)(cap gs:Nat)(w:World)(hg:Blk w gs 102 #[.slice A ms.length cap])(hK:Keeps w gs A cap ms)(hok:ShipOk (psOf ms))(hwh:c.what=2)(hbp:bareP c.part.p=true) :
  Cs 168 #[pT gs 0,cV c] w (MutPost ms c gs w):=by
 have hn12:ms.length≤12:=by have:=hok.len;simpa using this
 obtain⟨W1,hW1,hb1,hz1,hq⟩:=cBox w c;have hgl:=hg.lt;have HG:=Lq (hg.keep hb1);have HK:=Lq (hK.below hb1);have HB1:=Lq hb1;have hgl1:gs<W1.heap.size:=by omega
 clear hg hK hb1 hok;obtain⟨what,day,nm,⟨⟨name,kind,first,last,on,wlo,whi⟩,Ao,ca⟩⟩:=c;obtain rfl:what=2:=hwh;have HBP:=Lq hbp;obtain⟨gc,hgc⟩:=ex w.heap.size;rw[hgc]at hq;have HS:Hid (∀W,BW W1 W→cA W gs 0 (.slice A ms.length cap)∧cA W gc 2 (.string nm)∧gc<W.heap.size):=Lq fun W hb=>have k:=hq.keep hb;⟨(HG.out.keep hb).c 0,k.c 2,k.lt⟩
 obtain⟨r,hr⟩:=ex (posP (psOf ms) nm);have HF:Hid (∀W,BW W1 W→Cs 50 #[pT gs 0,.string nm] W (Rt W (iv r))):=Lq fun W hb=>hr▸find49_any A ms W.heap.size cap gs nm W (lr _) (lT (HK.out.sl hb).le (HK.out.sl hb).max) (HK.out.sl hb).rd (HS.out W hb).1
 obtain⟨bs,hbs⟩:=ex (anyP (fun q=>standsB q nm) (psOf ms))
 have HT:Hid (∀W,BW W1 W→Cs 159 #[.slice A ms.length cap,.func (.func 201) #[] #[pT gc 0]] W (Rt W (.bool bs))):=Lq fun W hb=>hbs▸con_taken (fun q=>standsB q nm) A ms W.heap.size cap (pT gc 0) W (lT (HK.out.sl hb).le (HK.out.sl hb).max) (lr _) (HK.out.sl hb).rd (fun W2 m hb2 hm=>take180_any m nm gc W2.heap.size W2 (lr _) ((HK.out.sl (bT hb hb2)).rd.ok m hm) (HS.out W2 (bT hb hb2)).2.1)
 have HCL:Hid (∀W,BW W1 W→Cs 200 #[.slice A ms.length cap] W (OwnMs ms W)):=Lq fun W hb=>clone179_any A ms W.heap.size cap W (lr _) (HK.out.sl hb) hn12
 have KR:=Lq hr;have KS:=Lq hbs;obtain⟨x0,x1,x2⟩:=HS.out _ (bR W1);clear hq hbp hr hbs;go_enter Tryz.func168,Tryz.ntmps168
 go_wp2_with fail;refine(HF.out _ (bR W1)).mono ?_;rintro e w2 ⟨rfl,hb⟩;have HB2:=Lq hb;clear hb hW1 x0 x1 x2;obtain⟨x0,x1,x2⟩:=HS.out _ HB2.out;by_cases hr0:r<0
 ·go_wp2_with fail;go_ret
  exact mutNo (by decide) (chgP_take_no rfl (fun h=>by have h1:=posP_neg.1 (by rw[KR.out];exact hr0:posP (psOf ms) nm<0);have h2:=h.1;simp only[HcM.c]at h2;rw[h1]at h2;cases h2)) (bT HB1.out HB2.out) (fun _ hh=>by have h1:=posP_neg.1 (by rw[KR.out];exact hr0:posP (psOf ms) nm<0);simp only at hh;rw[h1]at hh;cases hh)
 ·have hh:hasP (psOf ms) nm=true:=by
   cases h:hasP (psOf ms) nm with
   | true=>rfl
   | false=>have:=posP_neg.2 h;rw[KR.out]at this;exact absurd this hr0
  obtain⟨hp1,hil,_⟩:=posP_at hh;obtain⟨i,hi⟩:=ex (idxP (psOf ms) nm);rw[hi]at hp1 hil;have hil2:i<ms.length:=by simpa using hil
  obtain rfl:r=(i:Int):=by rw[←KR.out];exact hp1
  have HH:=Lq hh;have HI:=Lq hi;have hi0:(0:Int)≤(i:Int):=by omega
  clear hh hp1 hil hi;go_wp2_with fail;refine(HT.out _ HB2.out).mono ?_;rintro e w3 ⟨rfl,hb⟩;have HB3:=Lq (bT HB2.out hb);clear hb x0 x1 x2;obtain⟨x0,x1,x2⟩:=HS.out _ HB3.out;cases bs with
  | true =>
   go_wp2_with fail;go_ret
   exact mutNo (by decide) (chgP_take_no rfl (fun h=>by have h1:anyP (fun q=>standsB q nm) (psOf ms)=false:=anyP_no.2 h.2;rw[KS.out]at h1;cases h1)) (bT HB1.out HB3.out) (fun _ _=>rfl)
  | false =>
   go_wp2_with fail;refine(HCL.out _ HB3.out).mono ?_;rintro e w5 ⟨v5,rfl,ho,hb⟩;have HB5:=Lq (bT HB3.out hb);obtain⟨g,c5,rfl,hgb,hgl5,hc5⟩:=own_form ho (by omega)
   have hgs:gs<g:=lz (lz hgl1 HB3.out.size) hgb;have hcm:c5≤maxLen:=by
    obtain⟨A9,c9,h1,_,_,h2,h3⟩:=own_rdN encM_len ho;injection h1 with _ _ h1
    subst h1;exact h3
   have HD:=Lq (del181_any ms _ g c5 i w5 ho hil2 hn12);have hg3:w3.heap.size≤g:=hgb;clear hb ho x0 x1 x2;obtain⟨x0,x1,x2⟩:=HS.out _ HB5.out;go_wp2_with fail;refine HD.out.mono ?_;rintro e w6 ⟨rfl,ho6,hr6⟩;have hb6:BW W1 w6:=ho6.below HB5.out (lT HB3.out.size hg3);have HB6:=Lq hb6;have HR6:=Lq hr6;have hgl6:g<w6.heap.size:=lz hgl5 ho6.size;have bg:=HG.out.keep hb6;have x0':=bg.c 0;have xf:=bg.frozen 0;have xl:=bg.lt;clear ho6 hr6 hb6 bg x0 x1 x2;go_wp2_with fail;go_ret
   have hset:OnlyAt w6 (w6.setCell ⟨gs,0,none⟩ (.slice (some ⟨g,0,none⟩) (ms.length-1) c5)) gs:=OnlyAt.of_set (bR w6) gs 0 _;have hel:(ms.eraseIdx i).length=ms.length-1:=List.length_eraseIdx_of_lt hil2;refine⟨0,rfl,oT (OnlyAt.of_below (bT HB1.out HB6.out) gs) hset,fun h=>absurd rfl h,fun _=>⟨ms.eraseIdx i,some ⟨g,0,none⟩,c5, ?_, ?_, ?_⟩⟩
   ·have hb2:=(HG.out.keep HB6.out).set_ 0 (.slice (some ⟨g,0,none⟩) (ms.length-1) c5);simp only[List.setIfInBounds_toArray,List.set_cons_zero]at hb2;rw[hel];exact hb2
   ·rw[chgP_take_ok rfl HBP.out HH.out (anyP_no.1 KS.out),erase_map,←HI.out];rfl
   ·intro W ho;have hall:=oT (oT (OnlyAt.of_below HB6.out gs) hset) ho;have hl:g<W.heap.size:=lz hgl6 (oT hset ho).size;refine⟨⟨rdN_only HR6.out (oT hset ho) (by omega) hl,fun q hq=>(HK.out W hall).rd.ok q (List.mem_of_mem_eraseIdx hq)⟩,by omega,hcm,fun h=>(by cases h),fun a ha=>?_⟩
    injection ha with ha
    subst ha;exact⟨rfl,hl⟩
theorem verb147_any(c:HcM)(w:World):Cs 165 #[cV c] w (Rt w (.bool c.name.toList.isEmpty)):=by
 obtain⟨what,day,nm,⟨⟨name,kind,first,last,on,wlo,whi⟩,Ao,ca⟩⟩:=c;go_enter Tryz.func165,Tryz.ntmps165
 go_wp2
 go_ret
 exact⟨ret_bool rfl,bA (bR _) _⟩
theorem verb151_any(c:HcM)(w:World):Cs 169 #[cV c] w (Rt w (.bool true)):=by
 obtain⟨what,day,nm,⟨⟨name,kind,first,last,on,wlo,whi⟩,Ao,ca⟩⟩:=c;go_enter Tryz.func169,Tryz.ntmps169
 go_wp2
 go_ret
 exact⟨rfl,bA (bR _) _⟩
theorem plain70_any(m:HuM)(w:World):Cs 68 #[mV m] w (Rt w (.agg #[.string m.p.name,iv m.p.kind,iv m.p.first,iv m.p.last,iv m.p.wlo,iv m.p.whi])):=by
 obtain⟨⟨name,kind,first,last,on,wlo,whi⟩,Ao,ca⟩:=m;go_enter Tryz.func68,Tryz.ntmps68
 go_wp2
 exact bodyPost_ret (v:=.agg #[.string name,iv kind,iv first,iv last,iv wlo,iv whi]) (by simp[results,Tryz.results68,go_sem]) rfl ⟨rfl,bA (bA (bR _) _) _⟩
theorem verb149_any(c:HcM)(w:World)(hM:c.part.p.on.length≤maxLen):Cs 167 #[cV c] w (Rt w (.bool (bareP c.part.p))):=by
 obtain⟨what,day,nm,⟨⟨name,kind,first,last,on,wlo,whi⟩,Ao,ca⟩⟩:=c;have hon:on.length≤9223372036854775807:=by simp only[maxLen]at hM;omega
 clear hM;have HP:=Lq (fun W=>plain70_any ⟨⟨name,kind,first,last,on,wlo,whi⟩,Ao,ca⟩ W)
 go_enter Tryz.func167,Tryz.ntmps167
 go_wp2_with fail;refine(HP.out _).mono ?_;rintro e w2 ⟨rfl,hb⟩;obtain⟨hc,hf⟩:=bcell hb;have HB:=Lq (bT (bA (bR w) _) hb);clear hb;go_wp2
 all_goals
  go_ret
  exact⟨ret_bool (by simp_all [bareP]<;>(rw[Bool.eq_iff_iff];simp)),HB.out⟩
def verbV(f:Nat):Value:=.agg #[.func (.func f) #[] #[],.func (.func (f+1)) #[] #[]]
open Classical in
noncomputable def verbR:Value→Option (DataW Unit×List MemPlace)
 | .agg cs=>match cs.toList with
  | [.func (.func f) _ _,_]=>if cs=#[.func (.func f) #[] #[],.func (.func (f+1)) #[] #[]]then some (.lit (.int .i64 f),[])else none
  | _=>none
 | _=>none
theorem verbR_mk(f:Nat):verbR (verbV f)=some (.lit (.int .i64 f),[]):=by simp[verbR,verbV]
def verbD:DataW Unit:=(((DataW.map []).put (.int .i64 1) (.lit (.int .i64 165))).put (.int .i64 2) (.lit (.int .i64 167))).put (.int .i64 3) (.lit (.int .i64 169))
def VerbsAt(w:World)(b:Nat):Prop:=w.ownsMap Tryz.prog 3 verbR b 3 verbD
theorem Tryz.law3:Maps.Keyed Tryz.prog 3:=Maps.int_keyed Tryz.underlying3
theorem verbs127_any(w:World):Cs 137 #[] w fun e w'=>∃b,e=.returned (.map (some b))∧VerbsAt w' b∧BW w w'∧w.heap.size≤b:=by
 have hmm:=@run_makeMap Tryz.prog;have h0:=World.ownsMap_made w Tryz.prog 3 verbR;obtain⟨w1,hr1,h1,g1⟩:=h0.update (t:=223) Tryz.law3 Tryz.underlying223 (by unfold maxLen;omega) (key:=iv 1) (val:=verbV 165) (Maps.keyOf_int_mk Tryz.underlying3 (by decide)) (verbR_mk 165)
 obtain⟨w2,hr2,h2,g2⟩:=h1.update (t:=223) Tryz.law3 Tryz.underlying223 (by unfold maxLen;omega) (key:=iv 2) (val:=verbV 167) (Maps.keyOf_int_mk Tryz.underlying3 (by decide)) (verbR_mk 167)
 obtain⟨w3,hr3,h3,g3⟩:=h2.update (t:=223) Tryz.law3 Tryz.underlying223 (by unfold maxLen;omega) (key:=iv 3) (val:=verbV 169) (Maps.keyOf_int_mk Tryz.underlying3 (by decide)) (verbR_mk 169)
 have HB:Hid (BW w w3):=Lq (((((bA (bR w) (.map #[] 0)).grown g1 (by simp) (fun k hk=>by injection hk with hk;omega)).grown g2 ((by have:=g1.size;simp at this;omega)) (fun k hk=>by injection hk with hk;omega)).grown g3 ((by have:=g1.size;have:=g2.size;simp at *;omega)) (fun k hk=>by injection hk with hk;omega)))
 have H3:=Lq h3;simp only[verbV]at hr1 hr2 hr3;clear h0 h1 h2 h3 g1 g2 g3;go_enter Tryz.func137,Tryz.ntmps137
 go_wp2
 go_ret
 exact⟨_,rfl,H3.out,HB.out,lr _⟩
section
variable{n:Int}{b f:Nat}{w:World}
theorem Tryz.zero227(w:World):(zeroValue 227).run Tryz.prog w=.ok (.agg #[.nilFunc,.nilFunc]) w:=by kernel_rfl
theorem verb_one(zd:DataW Unit):verbD.atKey (.int .i64 1) zd=.lit (.int .i64 165):=by rfl
theorem verb_two(zd:DataW Unit):verbD.atKey (.int .i64 2) zd=.lit (.int .i64 167):=by rfl
theorem verb_three(zd:DataW Unit):verbD.atKey (.int .i64 3) zd=.lit (.int .i64 169):=by rfl
theorem verb_none(n:Int)(zd:DataW Unit)(h1:n≠1)(h2:n≠2)(h3:n≠3):verbD.atKey (.int .i64 n) zd=zd:=by
 have hD:verbD=.map [(.int .i64 1,.lit (.int .i64 165)),(.int .i64 2,.lit (.int .i64 167)),(.int .i64 3,.lit (.int .i64 169))]:=by rfl
 rw[hD];simp[DataW.atKey,Lit.sameKey,Ne.symm h1,Ne.symm h2,Ne.symm h3]
theorem verbR_inv{v:Value}{y:DataW Unit×List MemPlace}(h:verbR v=some y)(hy:y.1=.lit (.int .i64 f)):v=verbV f:=by
 unfold verbR at h;split at h
 ·rename_i cs;split at h
  ·rename_i g a b c heq;split at h
   ·rename_i hcs;injection h with h
    subst h;simp at hy;have hgf:g=f:=Int.ofNat.inj hy;subst hgf;rw[hcs];rfl
   ·cases h
  ·cases h
 ·cases h
theorem look_yes(h:VerbsAt w b)(hn:Lit.wf (.int .i64 n)=true)(hat:∀zd,verbD.atKey (.int .i64 n) zd=.lit (.int .i64 f)):(Instr.lookup 223 (.map (some b)) (.int .i64 n) true).run Tryz.prog w=.ok (.tuple #[verbV f,.bool true]) w:=by
 obtain⟨es,clock,hb,F,_,hD⟩:=h;rcases Maps.fit_look true Tryz.law3 Tryz.underlying223 (Tryz.zero227 w) hb F (Maps.keyOf_int_mk Tryz.underlying3 hn)with⟨hrun,_,hz⟩ | ⟨e0,y,_,_,hrun,hR,hz,_⟩
 ·exfalso;have h1:=hz .nil;rw[←hD,hat]at h1;cases h1
 ·have h1:=hz .nil;rw[←hD,hat]at h1;rw[hrun,verbR_inv hR h1.symm];rfl
theorem look_no(h:VerbsAt w b)(hn:Lit.wf (.int .i64 n)=true)(h1:n≠1)(h2:n≠2)(h3:n≠3):(Instr.lookup 223 (.map (some b)) (.int .i64 n) true).run Tryz.prog w=.ok (.tuple #[.agg #[.nilFunc,.nilFunc],.bool false]) w:=by
 obtain⟨es,clock,hb,F,_,hD⟩:=h;rcases Maps.fit_look true Tryz.law3 Tryz.underlying223 (Tryz.zero227 w) hb F (Maps.keyOf_int_mk Tryz.underlying3 hn)with⟨hrun,_,hz⟩ | ⟨e0,y,_,_,hrun,hR,hz,_⟩
 ·rw[hrun];rfl
 ·exfalso;have a:=hz .nil;have b:=hz (.lit (.bool true));rw[←hD,verb_none n _ h1 h2 h3]at a b;rw[←a]at b;cases b
end
def FreshPost(m:HuM)(w:World)(e:Ending)(w':World):Prop:=∃A c,e=.returned (.agg #[.string m.p.name,iv m.p.kind,iv m.p.first,iv m.p.last,.slice A m.p.on.length c,iv m.p.wlo,iv m.p.whi])∧OwnOn w' ⟨m.p,A,c⟩∧w'.ownsRow w.heap.size 9 1 (.slice A m.p.on.length c) m.p.on.length (m.p.on.map .string)∧BW w w'
theorem fresh48_any(m:HuM)(B:Nat)(w:World)(hB:B≤w.heap.size)(hM:MOk w B m):Cs 45 #[mV m] w (FreshPost m w):=by
 obtain⟨W1,hW1,hb1,hz1,hq⟩:=mBox w m;obtain⟨W2,hW2⟩:=ex (W1.alloc (.cells #[.string ⟨#[]⟩,iv 0,iv 0,iv 0,.slice none 0 0,iv 0,iv 0] 43));have hb2:BW W1 W2:=by rw[←hW2];exact bA (bR _) _
 have hq2:Blk W2 W1.heap.size 43 #[.string ⟨#[]⟩,iv 0,iv 0,iv 0,.slice none 0 0,iv 0,iv 0]:=by rw[←hW2];exact Blk.new W1 43 _
 have hb12:=bT hb1 hb2;have HC:=Lq (clone95_any m.A m.p.on B m.cap W2 (lT hB hb12.size) (hM.on.below hb12 hB) hM.sz);have HNM:=Lq hM.nm;have HON:=Lq hM.ons;have HSZ:=Lq hM.sz;have HB:=Lq hb12;have HX:=Lq (hq.keep hb2);have HY:=Lq hq2;obtain⟨⟨name,kind,first,last,on,wlo,whi⟩,Ao,ca⟩:=m;obtain⟨k0,k1,k2,k3,k4,k5,k6⟩:=HX.out.c7;obtain⟨gx,hgx⟩:=ex w.heap.size;obtain⟨gy,hgy⟩:=ex W1.heap.size;rw[hgx]at HX k0 k1 k2 k3 k4 k5 k6;rw[hgy]at HY;have hne:gx≠gy:=by omega
 have hgy3:w.heap.size≤gy:=by omega
 have hgw:gx<W2.heap.size:=HX.out.lt;have hgy2:gy<W2.heap.size:=HY.out.lt;clear hM hb1 hb2 hq2 hb12 hq hz1;go_enter Tryz.func45,Tryz.ntmps45
 go_wp2_with fail;refine HC.out.mono ?_;rintro e w3 ⟨v,rfl,ho,hb⟩;obtain⟨A5,c5,rfl⟩:=own_slice ho;have HO:=Lq ho;have HB3:=Lq (bT HB.out hb);have hx3:=HX.out.keep hb;have hy3:=HY.out.keep hb;have hsz3:=hb.size;clear hb ho hW1 hW2 k0 k1 k2 k3 k4 k5 k6;have k4:=hx3.c 4;have f4:=hx3.frozen 4;have l4:=hx3.lt;have l5:=hy3.lt;obtain⟨W4,hW4⟩:=ex (w3.setCell ⟨gx,4,none⟩ (.slice A5 on.length c5));have hx4:Blk W4 gx 43 #[.string name,iv kind,iv first,iv last,.slice A5 on.length c5,iv wlo,iv whi]:=by have h:=hx3.set_ 4 (.slice A5 on.length c5);simp only[List.setIfInBounds_toArray,List.set_cons_zero,List.set_cons_succ]at h;rw[←hW4];exact h
 have hy4:Blk W4 gy 43 #[.string ⟨#[]⟩,iv 0,iv 0,iv 0,.slice none 0 0,iv 0,iv 0]:=by rw[←hW4];exact hy3.far (p:=⟨gx,4,none⟩) (by simp only;omega) _
 have o4:OnlyAt w3 W4 gx:=by rw[←hW4];exact OnlyAt.of_set (bR w3) gx 4 _
 obtain⟨k0,k1,k2,k3,k44,k5,k6⟩:=hx4.c7;obtain⟨y0,y1,y2,y3,y4,y5,y6⟩:=hy4.c7;obtain⟨e0,e1,e2,e3,e4,e5,e6⟩:=(⟨hy4.frozen 0,hy4.frozen 1,hy4.frozen 2,hy4.frozen 3,hy4.frozen 4,hy4.frozen 5,hy4.frozen 6⟩:_∧_∧_∧_∧_∧_∧_);have m4:=hx4.lt;have m5:=hy4.lt;obtain⟨W5,hW5⟩:=ex (((((((W4.setCell ⟨gy,0,none⟩ (.string name)).setCell ⟨gy,1,none⟩ (iv kind)).setCell ⟨gy,2,none⟩ (iv first)).setCell ⟨gy,3,none⟩ (iv last)).setCell ⟨gy,4,none⟩ (.slice A5 on.length c5)).setCell ⟨gy,5,none⟩ (iv wlo)).setCell ⟨gy,6,none⟩ (iv whi));have hy5:Blk W5 gy 43 #[.string name,iv kind,iv first,iv last,.slice A5 on.length c5,iv wlo,iv whi]:=by rw[←hW5];exact seven _ _ _ _ _ _ _ hy4
 have o5:OnlyAt W4 W5 gy:=by rw[←hW5];exact((((((((OnlyAt.of_below (bR W4) gy).set 0 _).set 1 _).set 2 _).set 3 _).set 4 _).set 5 _).set 6 _)
 obtain⟨d0,d1,d2,d3,d4,d5,d6⟩:=hy5.c7;have hge:W2.heap.size≤w3.heap.size:=hsz3;have hrow:W5.ownsRow W2.heap.size 9 1 (.slice A5 on.length c5) on.length (on.map .string):=own_only (own_only HO.out o4 (by omega)) o5 (by omega)
 have HROW:=Lq hrow;have hbel:BW w W5:=o5.below (o4.below HB3.out (Nat.le_of_eq hgx)) hgy3;have HBEL:=Lq hbel;have hwz:w.heap.size≤W2.heap.size:=HB.out.size;clear hx3 hy3 hx4 hy4 hy5 o4 o5 hrow hbel;go_wp2_with fail;exact bodyPost_ret (v:=.agg #[.string name,iv kind,iv first,iv last,.slice A5 on.length c5,iv wlo,iv whi]) (by simp[results,Tryz.results45,go_sem,d0,d1,d2,d3,d4,d5,d6]) rfl ⟨A5,c5,rfl,⟨own_zero HROW.out,HNM.out,HON.out,HSZ.out⟩,own_base HROW.out hwz,HBEL.out⟩
theorem flat_set7:∀(L:List HuM) (d:Nat) (m:HuM),d<L.length→(((((((L.flatMap encM).set (d*7) (.string m.p.name)).set (d*7+1) (iv m.p.kind)).set (d*7+2) (iv m.p.first)).set (d*7+3) (iv m.p.last)).set (d*7+4) (.slice m.A m.p.on.length m.cap)).set (d*7+5) (iv m.p.wlo)).set (d*7+6) (iv m.p.whi)=(L.set d m).flatMap encM:=by
 intro L;induction L with
 | nil=>intro d m h;simp at h
 | cons a L ih =>
  intro d m h;cases d with
  | zero=>simp[encM]
  | succ d =>
   have:=ih d m (by simpa using h)
   simp only[List.flatMap_cons,List.set_cons_succ,←this];simp only[show(d+1)*7=(encM a).length+d*7 by rw[encM_len];omega,Nat.add_assoc]
   simp only[List.set_append_right _ _ (Nat.le_add_right _ _),Nat.add_sub_cancel_left]
theorem flat_set4:∀(L:List HuM) (d:Nat) (q:HuM) (on:List ByteArray) (A:Option Addr) (c:Nat),L[d]?=some q→on.length=q.p.on.length→(L.flatMap encM).set (d*7+4) (.slice A q.p.on.length c)=(L.set d ⟨{ q.p with on:=on },A,c⟩).flatMap encM:=by
 intro L;induction L with
 | nil=>intro d q on A c h;simp at h
 | cons a L ih =>
  intro d q on A c h hl;cases d with
  | zero =>
   simp at h;subst h;simp[encM,hl]
  | succ d =>
   have:=ih d q on A c (by simpa using h) hl
   simp only[List.flatMap_cons,List.set_cons_succ,←this];rw[show(d+1)*7+4=(encM a).length+(d*7+4)by rw[encM_len];omega,List.set_append_right _ _ (Nat.le_add_right _ _),Nat.add_sub_cancel_left]
section
variable{L:List HuM}{a b base cap g gs:Nat}{V W w:World}
structure Kept2(V w:World)(a b:Nat):Prop where
 os:w.os=V.os
 tape:w.tape=V.tape
 output:w.output=V.output
 size:V.heap.size≤w.heap.size
 block:∀k,k<V.heap.size→k≠a→k≠b→w.heap[k]?=V.heap[k]?
theorem Kept2.of_below(h:BW V w):Kept2 V w a b:=⟨h.os,h.tape,h.output,h.size,fun k hk _ _=>h.block k hk⟩
theorem Kept2.of_only(h:OnlyAt V w a):Kept2 V w a b:=⟨h.os,h.tape,h.output,h.size,fun k hk hne _=>h.block k hk hne⟩
theorem Kept2.of_only2(h:OnlyAt V w b):Kept2 V w a b:=⟨h.os,h.tape,h.output,h.size,fun k hk _ hne=>h.block k hk hne⟩
theorem Kept2.trans{x:World}(h:Kept2 V w a b)(h':Kept2 w x a b):Kept2 V x a b :=
 ⟨h'.os.trans h.os,h'.tape.trans h.tape,h'.output.trans h.output,lT h.size h'.size,fun k hk h1 h2=>(h'.block k (lz hk h.size) h1 h2).trans (h.block k hk h1 h2)⟩
def NmOk(w:World)(a b:Nat)(m:HuM):Prop:=∀W,Kept2 w W a b→MOk W W.heap.size m
theorem NmOk.kept{m:HuM}(h:NmOk w a b m)(hk:Kept2 w W a b):NmOk W a b m:=fun X hx=>h X (hk.trans hx)
theorem NmOk.of_keeps{A:Option Addr}{ms:List HuM}{m:HuM}(h:Keeps w gs A cap ms)(hb:BW w W)(hg:w.heap.size≤g)(hm:m∈ms):NmOk W g gs m:=fun X hx=>by
 have ho:OnlyAt w X gs:=⟨hx.os.trans hb.os,hx.tape.trans hb.tape,hx.output.trans hb.output,lT hb.size hx.size,fun k hk hne=>(hx.block k (lz hk hb.size) (by omega) hne).trans (hb.block k hk)⟩
 exact(h X ho).rd.ok m hm
theorem NmOk.of_ok{B:Nat}{m:HuM}(h:MOk w B m)(hB:B≤gs)(hg:B≤g)(hw:B≤w.heap.size):NmOk w g gs m:=fun X hx=>by
 have hb:Below B w X:=⟨hx.os,hx.tape,hx.output,hx.size,fun k hk=>hx.block k (by omega) (by omega) (by omega)⟩
 exact(h.below hb (lr _)).more (lT hw hx.size)
theorem NmOk.of_own{m:HuM}(h:OwnOn w m)(h1:∀k,(Value.slice m.A m.p.on.length m.cap).ownBlock=some k→k≠g∧k≠gs):NmOk w g gs m:=fun X hx=>by
 have ho:X.ownsRow 0 9 1 (.slice m.A m.p.on.length m.cap) m.p.on.length (m.p.on.map .string):=ownKeep h.ow fun k hk=>hx.block k (h.ow.lt k hk).2 (h1 k hk).1 (h1 k hk).2
 exact OwnOn.ok ⟨ho,h.nm,h.ons,h.sz⟩
theorem setRow7(h:w.ownsRow base 43 7 (.slice (some ⟨g,0,none⟩) L.length cap) L.length (L.flatMap encM))(d:Nat)(m:HuM)(hd:d<L.length) :
  (((((((w.setCell ⟨g,d*7,none⟩ (.string m.p.name)).setCell ⟨g,d*7+1,none⟩ (iv m.p.kind)).setCell ⟨g,d*7+2,none⟩ (iv m.p.first)).setCell ⟨g,d*7+3,none⟩ (iv m.p.last)).setCell ⟨g,d*7+4,none⟩ (.slice m.A m.p.on.length m.cap)).setCell ⟨g,d*7+5,none⟩ (iv m.p.wlo)).setCell ⟨g,d*7+6,none⟩ (iv m.p.whi)).ownsRow base 43 7 (.slice (some ⟨g,0,none⟩) L.length cap) L.length ((L.set d m).flatMap encM):=by
 rw[←flat_set7 L d m hd];exact((((((((h.stored (d*7) _).1.stored (d*7+1) _).1.stored (d*7+2) _).1.stored (d*7+3) _).1.stored (d*7+4) _).1.stored (d*7+5) _).1.stored (d*7+6) _).1)
theorem setRow4(h:w.ownsRow base 43 7 (.slice (some ⟨g,0,none⟩) L.length cap) L.length (L.flatMap encM)){d:Nat}{q:HuM}(hq:L[d]?=some q)(on:List ByteArray)(A:Option Addr)(c:Nat)(hl:on.length=q.p.on.length) :
  (w.setCell ⟨g,d*7+4,none⟩ (.slice A q.p.on.length c)).ownsRow base 43 7 (.slice (some ⟨g,0,none⟩) L.length cap) L.length ((L.set d ⟨{ q.p with on:=on },A,c⟩).flatMap encM):=by
 rw[←flat_set4 L d q on A c hq hl];exact(h.stored (d*7+4) _).1
end
end Go.Proofs.YtigcophcpboanaaGreatDoor
