/- hull: looks at ships (printed by mkHC1.py). hull: the closures of surveys; the ships that .. -/
import Derived.Test.YtigcophcpboanaaGreatDoorM16
set_option maxRecDepth 1000000
set_option maxHeartbeats 0
namespace Go.Proofs.YtigcophcpboanaaGreatDoor
open Go.RowKit
section
variable{nm:ByteArray}{fr:Int}
structure SgM where
 nm:ByteArray
 fr:Int
 kd:Int
def encS(s:SgM):List Value:=[.string s.nm,iv s.fr,iv s.kd]
theorem encS_len:∀s,(encS s).length=3:=fun _=>rfl
abbrev sgV(s:SgM):Value:=.agg #[.string s.nm,iv s.fr,iv s.kd]
abbrev shV(s:ShM):Value:=.agg #[.slice s.A s.ms.length s.cap]
theorem idx_sight(P:SgM→Bool)(A:Option Addr)(ms:List SgM)(B cap:Nat)(v0 v1:Value)(w:World)(hm:ms.length≤maxLen)(hB:B≤w.heap.size)(H:RdN 3 encS w B A ms)(hcl:∀W m,BW w W→m∈ms→Cs 111 #[sgV m,v0,v1] W (Rt W (.bool (P m)))) :
  Cs 141 #[.slice A ms.length cap,.func (.func 111) #[] #[v0,v1]] w (Rt w (iv (idxI P (ms)))):=by
 unfold maxLen at hm;have HH:=Lq H;have HCL:=Lq hcl;clear H hcl;go_enter Tryz.func141,Tryz.ntmps141
 go_wp2
 go_loopw [8] (fun i wr=>∃k:Nat,k≤ms.length∧i=iv k∧Hid (anyTo P ms k=false)∧Hid (BW w wr)) (fun i _=>ms.length-(intOf i).toNat)
 case atStart=>exact⟨0,Nat.zero_le _,rfl,Lq rfl,Lq (bR _)⟩
 case round =>
  obtain⟨k,hk,rfl,HN,HBR⟩:=hrel;by_cases hlt:k<ms.length
  ·obtain⟨m,hx⟩:=gX (l:=ms) (i:=k) hlt;obtain⟨b,off,rfl,_,hcs⟩:=(HH.out.below HBR.out hB) k m hx;obtain⟨snm,sfr,skd⟩:=m;have c0:wr.cell? ⟨b,off+k*3,none⟩=some (.string snm):=hcs 0 _ rfl;have c1:wr.cell? ⟨b,off+k*3+1,none⟩=some (iv sfr):=hcs 1 _ rfl;have c2:wr.cell? ⟨b,off+k*3+2,none⟩=some (iv skd):=hcs 2 _ rfl;have HC:=Lq (HCL.out wr ⟨snm,sfr,skd⟩ HBR.out (mG ⟨k,hx⟩));have HX:Hid (ms[k]?=some ⟨snm,sfr,skd⟩):=Lq hx;clear hx HCL hcs;obtain⟨bp,hbp⟩:=ex (P ⟨snm,sfr,skd⟩);have HBP:=Lq hbp;simp only[hbp]at HC;clear hbp;go_wp2_with fail;refine HC.out.mono ?_;rintro e w1 ⟨rfl,hb⟩;have HB1:=Lq (bT HBR.out hb);clear hb c0 c1 c2;cases bp
   ·go_wp2_with fail;go_roundw
    case rel=>exact⟨k+1,by omega,by go_num,Lq (anyTo_snoc HX.out HN.out HBP.out),HB1⟩
    case measure=>simp[intOf];omega
   ·go_wp2_with fail;go_ret
    exact⟨ret_int (idxI_found HX.out HBP.out HN.out).1.symm,HB1.out⟩
  ·go_wp2_with fail;go_ret
   refine⟨ret_int (idxI_no ?_).symm,HBR.out⟩;have hn:=HN.out;unfold anyTo at hn;rw[List.take_of_length_le (by omega)]at hn
   exact hn
theorem con_sight(P:SgM→Bool)(A:Option Addr)(ms:List SgM)(B cap:Nat)(v0 v1:Value)(w:World)(hm:ms.length≤maxLen)(hB:B≤w.heap.size)(H:RdN 3 encS w B A ms)(hcl:∀W m,BW w W→m∈ms→Cs 111 #[sgV m,v0,v1] W (Rt W (.bool (P m)))) :
  Cs 112 #[.slice A ms.length cap,.func (.func 111) #[] #[v0,v1]] w (Rt w (.bool (anyP P (ms)))):=by
 have HI:=Lq (idx_sight P A ms B cap v0 v1 w hm hB H hcl);clear H hcl;obtain⟨r,hr⟩:=ex (idxI P ms);rw[hr]at HI;have hd:decide (0≤r)=anyP P ms:=by
  unfold anyP;cases h:ms.any P
  ·rw[←hr,idxI_no h];rfl
  ·have:=idxI_yes h;rw[hr]at this
   simpa using this
 have HD:=Lq hd;clear hr hd;go_enter Tryz.func112,Tryz.ntmps112
 go_wp2_with fail;refine HI.out.mono ?_;rintro e w1 ⟨rfl,hb⟩;go_wp2_with fail;go_ret
 exact⟨ret_bool HD.out,hb⟩
theorem idx_lost(P:ShM→Bool)(A:Option Addr)(ms:List ShM)(B cap:Nat)(v0:Value)(w:World)(hm:ms.length≤maxLen)(hB:B≤w.heap.size)(H:Rd1 encSh w B A ms)(hcl:∀W m,BW w W→m∈ms→Cs 73 #[shV m,v0] W (Rt W (.bool (P m)))) :
  Cs 113 #[.slice A ms.length cap,.func (.func 73) #[] #[v0]] w (Rt w (iv (idxI P (ms)))):=by
 unfold maxLen at hm;have HH:=Lq H;have HCL:=Lq hcl;clear H hcl;go_enter Tryz.func113,Tryz.ntmps113
 go_wp2
 go_loopw [8] (fun i wr=>∃k:Nat,k≤ms.length∧i=iv k∧Hid (anyTo P ms k=false)∧Hid (BW w wr)) (fun i _=>ms.length-(intOf i).toNat)
 case atStart=>exact⟨0,Nat.zero_le _,rfl,Lq rfl,Lq (bR _)⟩
 case round =>
  obtain⟨k,hk,rfl,HN,HBR⟩:=hrel;by_cases hlt:k<ms.length
  ·obtain⟨m,hx⟩:=gX (l:=ms) (i:=k) hlt;obtain⟨b,off,rfl,_,c0⟩:=(HH.out.below HBR.out hB) k m hx;unfold encSh at c0;have HC:=Lq (HCL.out wr m HBR.out (mG ⟨k,hx⟩));have HX:Hid (ms[k]?=some m):=Lq hx;clear hx HCL;obtain⟨bp,hbp⟩:=ex (P m);have HBP:=Lq hbp;simp only[hbp]at HC;clear hbp;go_wp2_with fail;refine HC.out.mono ?_;rintro e w1 ⟨rfl,hb⟩;have HB1:=Lq (bT HBR.out hb);clear hb c0;cases bp
   ·go_wp2_with fail;go_roundw
    case rel=>exact⟨k+1,by omega,by go_num,Lq (anyTo_snoc HX.out HN.out HBP.out),HB1⟩
    case measure=>simp[intOf];omega
   ·go_wp2_with fail;go_ret
    exact⟨ret_int (idxI_found HX.out HBP.out HN.out).1.symm,HB1.out⟩
  ·go_wp2_with fail;go_ret
   refine⟨ret_int (idxI_no ?_).symm,HBR.out⟩;have hn:=HN.out;unfold anyTo at hn;rw[List.take_of_length_le (by omega)]at hn
   exact hn
theorem con_lost(P:ShM→Bool)(A:Option Addr)(ms:List ShM)(B cap:Nat)(v0:Value)(w:World)(hm:ms.length≤maxLen)(hB:B≤w.heap.size)(H:Rd1 encSh w B A ms)(hcl:∀W m,BW w W→m∈ms→Cs 73 #[shV m,v0] W (Rt W (.bool (P m)))) :
  Cs 72 #[.slice A ms.length cap,.func (.func 73) #[] #[v0]] w (Rt w (.bool (anyP P (ms)))):=by
 have HI:=Lq (idx_lost P A ms B cap v0 w hm hB H hcl);clear H hcl;obtain⟨r,hr⟩:=ex (idxI P ms);rw[hr]at HI;have hd:decide (0≤r)=anyP P ms:=by
  unfold anyP;cases h:ms.any P
  ·rw[←hr,idxI_no h];rfl
  ·have:=idxI_yes h;rw[hr]at this
   simpa using this
 have HD:=Lq hd;clear hr hd;go_enter Tryz.func72,Tryz.ntmps72
 go_wp2_with fail;refine HI.out.mono ?_;rintro e w1 ⟨rfl,hb⟩;go_wp2_with fail;go_ret
 exact⟨ret_bool HD.out,hb⟩
theorem find49o_any(A:Option Addr)(ms:List HuM)(B cap gh oh:Nat)(s:ByteArray)(w:World)(hB:B≤w.heap.size)(hm:ms.length≤maxLen)(H:MsRd w B A ms)(hc:w.cell? ⟨gh,oh,none⟩=some (.slice A ms.length cap)) :
  Cs 50 #[pT gh oh,.string s] w (Rt w (iv (posP (psOf ms) s))):=by
 obtain⟨W1,hW1⟩:=ex (w.alloc (.cells #[.string s] 9));have hb1:BW w W1:=by rw[←hW1];exact bA (bR _) _
 have hq:Blk W1 w.heap.size 9 #[.string s]:=by rw[←hW1];exact Blk.new w 9 _
 have hI:=idx_find (nmB s) A ms B cap (pT w.heap.size 0) W1 hm (lT hB hb1.size) (H.below hb1 hB) (fun W m hb _=>find97_any m s _ W ((hq.keep hb).c 0))
 rw[←posP_of]at hI;obtain⟨r,hr⟩:=ex (posP (psOf ms) s);rw[hr]at hI ⊢;have HI:=Lq hI;have HB1:=Lq hb1;have k0:W1.cell? ⟨gh,oh,none⟩=some (.slice A ms.length cap):=kC hb1 hc;have hlt:=lt_of_cell hc;clear hI hb1 hq hr H hc;go_enter Tryz.func50,Tryz.ntmps50
 go_wp2_with fail;refine HI.out.mono ?_;rintro e w2 ⟨rfl,hb2⟩;have HB2:=Lq (bT HB1.out hb2);clear hb2 hW1 k0;go_wp2_with fail;go_ret
 exact⟨rfl,HB2.out⟩
def seesV(l:List HuP)(nm:ByteArray)(fr:Int):Int:=match l.find? (nmB nm)with
 | some p=>if inB p.first p.last fr then p.kind else 0
 | none=>0
theorem seesV_no{l:List HuP}(h:hasP l nm=false):seesV l nm fr=0:=by
 unfold seesV;have:l.find? (nmB nm)=none:=by rw[List.find?_eq_none];intro p hp hb;exact hasP_false.1 h p hp (nmB_iff.1 hb)
 rw[this]
theorem seesV_at{l:List HuP}{p:HuP}(h:hasP l nm=true)(hp:l[idxP l nm]?=some p):seesV l nm fr=if inB p.first p.last fr then p.kind else 0:=by
 unfold seesV;obtain⟨y,hy,hy2⟩:=find_none_of h;rw[hy];rw[hp]at hy2;injection hy2 with hy2
 subst hy2;rfl
theorem sees77_any(A:Option Addr)(ms:List HuM)(cap gh oh:Nat)(nm:ByteArray)(fr:Int)(w:World)(H:SlM w w.heap.size A cap ms)(hc:w.cell? ⟨gh,oh,none⟩=some (.slice A ms.length cap)) :
  Cs 75 #[pT gh oh,.agg #[.string nm,iv fr]] w (Rt w (iv (seesV (psOf ms) nm fr))):=by
 obtain⟨W1,hW1⟩:=ex (w.alloc (.cells #[.string nm,iv fr] 144));have b1:BW w W1:=by rw[←hW1];exact bA (bR _) _
 have q1:Blk W1 w.heap.size 144 #[.string nm,iv fr]:=by rw[←hW1];exact Blk.new w 144 _
 obtain⟨g3,hg3⟩:=ex w.heap.size;rw[hg3]at q1;obtain⟨r,hr⟩:=ex (posP (psOf ms) nm);have HSL:Hid (∀W,BW W1 W→SlM W W.heap.size A cap ms):=Lq fun W hb=>let h:=bT b1 hb;(H.below h (lr _)).more h.size
 have HF:Hid (∀W,BW W1 W→Cs 50 #[pT gh oh,.string nm] W (Rt W (iv r))):=Lq fun W hb=>by have h2:=HSL.out W hb;exact hr▸find49o_any A ms W.heap.size cap gh oh nm W (lr _) (lT h2.le h2.max) h2.rd (kC (bT b1 hb) hc)
 have HC:Hid (∀W,BW W1 W→cA W gh oh (.slice A ms.length cap)∧cA W g3 0 (.string nm)∧cA W g3 1 (iv fr)):=Lq fun W hb=>have k:=q1.keep hb;⟨kC (bT b1 hb) hc,k.c 0,k.c 1⟩
 have KR:=Lq hr;have HB1:=Lq b1;have hml:ms.length≤9223372036854775807:=by have:=H.le;have:=H.max;simp only[maxLen]at this;omega
 obtain⟨x0,x1,x2⟩:=HC.out _ (bR _);have hlt:=lt_of_cell x0;clear H hc b1 q1 hr;go_enter Tryz.func75,Tryz.ntmps75
 go_wp2_with fail;refine(HF.out _ (bR _)).mono ?_;rintro e w2 ⟨rfl,hb⟩;have HB2:=Lq hb;clear hb x0 x1 x2 hlt hW1 hg3;obtain⟨x0,x1,x2⟩:=HC.out _ HB2.out;have hlt:=lt_of_cell x0;by_cases hh:hasP (psOf ms) nm=true
 ·obtain⟨hp1,hil,p,hp,_⟩:=posP_at hh;have hsv:=seesV_at (fr:=fr) hh hp;obtain⟨i,hi⟩:=ex (idxP (psOf ms) nm);rw[hi]at hp1 hil hp;rw[KR.out]at hp1;subst hp1;obtain⟨m,hm,hmp⟩:∃m,ms[i]?=some m∧m.p=p:=by
   rw[List.getElem?_map]at hp;cases hx:ms[i]? with
   | none=>rw[hx]at hp;cases hp
   | some m=>rw[hx]at hp;injection hp with hp;exact⟨m,rfl,hp⟩
  subst hmp;obtain⟨b,off,hA,_,_,c0,c1,c2,c3,c4,c5,c6⟩:=(HSL.out w2 HB2.out).rd.at hm;obtain⟨⟨yn,yk,yf,yl,yon,yw,yz⟩,yA,yc⟩:=m;subst hA;simp only at c0 c1 c2 c3 c4 c5 c6 hsv;obtain⟨bI,hbI⟩:=ex (inB yf yl fr);rw[hbI]at hsv;have HI:Hid (∀g W,W.cell? ⟨g,0,none⟩=some (iv fr)→Cs 59 #[iv yf,iv yl,.slice (some ⟨g,0,none⟩) 1 1] W (Rt W (.bool (!bI)))):=Lq fun g W hc=>hbI▸out_oneH yf yl fr g W hc (lt_of_cell hc)
  have hi0:(0:Int)≤(i:Int):=by omega
  have hi1:(i:Int)<(ms.length:Int):=by have:=(lG hm);omega
  have hlt0:decide ((i:Int)<0)=false:=by simp
  have HSV:=Lq hsv;have HS:Hid (∀W,BW w2 W→cA W gh oh (.slice (some ⟨b,off,none⟩) ms.length cap)∧cA W g3 1 (iv fr)∧cA W b (off+i*7+1) (iv yk)∧cA W b (off+i*7+2) (iv yf)∧cA W b (off+i*7+3) (iv yl)):=Lq fun W hb=>⟨kC hb x0,kC hb x2,kC hb c1,kC hb c2,kC hb c3⟩
  clear hsv hm hp hh hil hi hbI c0 c4 c5 c6 x1 x2;go_wp2_with fail;go_region_held3 (fun W=>cA W gh oh (.slice (some ⟨b,off,none⟩) ms.length cap)∧cA W g3 1 (iv fr)∧cA W b (off+i*7+1) (iv yk)∧cA W b (off+i*7+2) (iv yf)∧cA W b (off+i*7+3) (iv yl)) (first | exact HS.out _ (bT (bA (belowDr (bR _)) _) hb7) | exact HS.out _ (bA (belowDr (bR _)) _) | exact HS.out _ (belowDr (bR _))) ((go_at_call 59;((with_reducible refine(HI.out _ _ (by go_simp)).mono ?_);rintro e w7 ⟨rfl,hb7⟩)))
  have HB7:=Lq (bT (bA (belowDr (bR w2)) (.cells #[iv fr] 3)) hb7);obtain⟨y0,y2,y3,y4,y5⟩:=HS.out _ HB7.out;have hl7:=lt_of_cell y0;clear hb7 x0 c1 c2 c3 hlt;cases bI with
  | true =>
   go_wp2_with fail;go_ret
   exact⟨ret_int HSV.out.symm,bT HB1.out (bT HB2.out HB7.out)⟩
  | false =>
   go_wp2_with fail;go_ret
   exact⟨ret_int HSV.out.symm,bT HB1.out (bT HB2.out HB7.out)⟩
 ·have hr1:r = -1:=by rw[←KR.out];exact posP_none (by simpa using hh)
  have HSV:=Lq (seesV_no (fr:=fr) (by simpa using hh:hasP (psOf ms) nm=false))
  subst hr1;clear hh;go_wp2_with fail;go_quiet (fail)
  rename_i nq;go_wp2_with fail;go_ret
  exact⟨ret_int HSV.out.symm,bT HB1.out (bT HB2.out (belowN (bR _) _))⟩
end
theorem wrong108_any(gf gi bs os n cs i:Nat)(s:SgM)(sh:ShM)(w:World)(hf:w.cell? ⟨gf,0,none⟩=some (.slice (some ⟨bs,os,none⟩) n cs))(hi:w.cell? ⟨gi,0,none⟩=some (iv i))(hn:i<n)(hsh:w.cell? ⟨bs,os+i,none⟩=some (encSh sh))(hsl:SlM w w.heap.size sh.A sh.cap sh.ms) :
  Cs 111 #[sgV s,pT gf 0,pT gi 0] w (Rt w (.bool (seesV (psOf sh.ms) s.nm s.fr != s.kd))):=by
 obtain⟨nm,fr,kd⟩:=s;obtain⟨W1,hW1⟩:=ex (w.alloc (.cells #[.string nm,iv fr,iv kd] 71));have b1:BW w W1:=by rw[←hW1];exact bA (bR _) _
 have q1:Blk W1 w.heap.size 71 #[.string nm,iv fr,iv kd]:=by rw[←hW1];exact Blk.new w 71 _
 obtain⟨g3,hg3⟩:=ex w.heap.size;rw[hg3]at q1;obtain⟨sv,hsv⟩:=ex (seesV (psOf sh.ms) nm fr);have HSE:Hid (∀W,BW W1 W→Cs 75 #[pT bs (os+i),.agg #[.string nm,iv fr]] W (Rt W (iv sv))):=Lq fun W hb=>hsv▸sees77_any sh.A sh.ms sh.cap bs (os+i) nm fr W ((hsl.below (bT b1 hb) (lr _)).more (bT b1 hb).size) (kC (bT b1 hb) hsh)
 have HS:Hid (∀W,BW W1 W→cA W gf 0 (.slice (some ⟨bs,os,none⟩) n cs)∧cA W gi 0 (iv i)∧cA W g3 0 (.string nm)∧cA W g3 1 (iv fr)∧cA W g3 2 (iv kd)):=Lq fun W hb=>have k:=q1.keep hb;⟨kC (bT b1 hb) hf,kC (bT b1 hb) hi,k.c 0,k.c 1,k.c 2⟩
 have HB1:=Lq b1;have KSV:=Lq hsv;have hi0:(0:Int)≤(i:Int):=by omega
 have hi1:(i:Int)<(n:Int):=by omega
 obtain⟨x0,x1,x2,x3,x4⟩:=HS.out _ (bR _);clear hf hi hsh hsl b1 q1 hsv;go_enter Tryz.func111,Tryz.ntmps111
 go_wp2_with fail;go_region_held3 (fun W=>cA W gf 0 (.slice (some ⟨bs,os,none⟩) n cs)∧cA W gi 0 (iv i)∧cA W g3 0 (.string nm)∧cA W g3 1 (iv fr)∧cA W g3 2 (iv kd)) (first | exact HS.out _ (u0 hb7) | exact HS.out _ (belowDr (bR _))) ((go_at_call 75;((with_reducible refine(HSE.out _ (belowDr (bR _))).mono ?_);rintro e w7 ⟨rfl,hb7⟩)))
 go_wp2_with fail;go_ret
 refine⟨ret_bool ?_,bT HB1.out (u0 hb7)⟩;simp only[KSV.out]
theorem lost75_any(s:ShM)(nm:ByteArray)(gn:Nat)(w:World)(hn:w.cell? ⟨gn,0,none⟩=some (.string nm))(hsl:SlM w w.heap.size s.A s.cap s.ms) :
  Cs 73 #[shV s,pT gn 0] w (Rt w (.bool (!hasP (psOf s.ms) nm))):=by
 obtain⟨ms,A,cap⟩:=s;obtain⟨W1,hW1⟩:=ex (w.alloc (.cells #[.slice A ms.length cap] 102));have b1:BW w W1:=by rw[←hW1];exact bA (bR _) _
 have q1:Blk W1 w.heap.size 102 #[.slice A ms.length cap]:=by rw[←hW1];exact Blk.new w 102 _
 obtain⟨g2,hg2⟩:=ex w.heap.size;rw[hg2]at q1;obtain⟨r,hr⟩:=ex (posP (psOf ms) nm);have hd:decide (r<0)=!hasP (psOf ms) nm:=by
  cases h:hasP (psOf ms) nm with
  | true=>rw[←hr,(posP_at h).1];simp
  | false=>rw[←hr,posP_none h];rfl
 have HF:Hid (Cs 50 #[pT g2 0,.string nm] W1 (Rt W1 (iv r))):=by have h2:=(hsl.below b1 (lr _)).more b1.size;exact Lq (hr▸find49_any A ms W1.heap.size cap g2 nm W1 (lr _) (lT h2.le h2.max) h2.rd (q1.c 0))
 have x0:=kC b1 hn;have hl:=lt_of_cell hn;have HB1:=Lq b1;have HD:=Lq hd;clear hn hsl b1 q1 hr hd;go_enter Tryz.func73,Tryz.ntmps73
 go_wp2_with fail;refine HF.out.mono ?_;rintro e w2 ⟨rfl,hb⟩;go_wp2_with fail;go_ret
 exact⟨ret_bool HD.out,bT HB1.out hb⟩
theorem Tryz.info102:(Tryz.prog.info? 102).map (fun i=>(i.zero,i.size,i.bytes))=some (some (.agg #[.slice none 0 0]),1,24):=by kernel_rfl
def pickSh(shs:List ShM)(ag:List Nat):List ShM:=ag.filterMap fun i=>shs[i]?
theorem pick_snoc{shs:List ShM}{ag:List Nat}{k i:Nat}{s:ShM}(hk:ag[k]?=some i)(hi:shs[i]?=some s):pickSh shs (ag.take (k+1))=pickSh shs (ag.take k)++[s]:=by unfold pickSh;rw[List.take_add_one,hk];simp[hi]
theorem pick_mem{shs:List ShM}{ag:List Nat}{s:ShM}(h:s∈pickSh shs ag):s∈shs:=by unfold pickSh at h;obtain⟨i,_,hi⟩:=List.mem_filterMap.1 h;exact mG ⟨i,hi⟩
theorem left73_any(As Ag:Option Addr)(shs:List ShM)(ag:List Nat)(cs cg:Nat)(w:World)(H:ShsRd w w.heap.size As shs)(HG:Rd1 nv w w.heap.size Ag ag)(hag:ag.length≤1000)(hin:∀i∈ag,i<shs.length) :
  Cs 71 #[.agg #[.slice As shs.length cs,.slice Ag ag.length cg]] w fun e w'=>∃v,e=.returned v∧w'.ownsRow w.heap.size 102 1 v (pickSh shs ag).length ((pickSh shs ag).map encSh)∧BW w w':=by
 obtain⟨W1,hW1⟩:=ex (w.alloc (.cells #[.slice As shs.length cs,.slice Ag ag.length cg] 134));have b1:BW w W1:=by rw[←hW1];exact bA (bR _) _
 have q1:Blk W1 w.heap.size 134 #[.slice As shs.length cs,.slice Ag ag.length cg]:=by rw[←hW1];exact Blk.new w 134 _
 obtain⟨g1,hg1⟩:=ex w.heap.size;rw[hg1]at q1;have HH:Hid (∀W,BW W1 W→ShsRd W W.heap.size As shs):=Lq fun W hb=>let h:=bT b1 hb;(H.below h (lr _)).more h.size
 have HGG:Hid (∀W,BW W1 W→Rd1 nv W W.heap.size Ag ag):=Lq fun W hb=>let h:=bT b1 hb;(HG.below h (lr _)).more h.size
 have HQ:=Lq q1;have HB1:=Lq b1;have HIN:=Lq hin;obtain⟨i109,hi109,hz1090,hz1091,hz1092⟩:=info_parts Tryz.info102;have x0:=q1.c 0;have x1:=q1.c 1;clear H HG b1 q1 hin;go_enter Tryz.func71,Tryz.ntmps71
 go_wp2_with fail;clear x0 x1 hW1 hg1;go_loopw [2,8] (fun v i wr=>∃k:Nat,k≤ag.length∧i=iv k∧Hid (wr.ownsRow W1.heap.size 102 1 v (pickSh shs (ag.take k)).length ((pickSh shs (ag.take k)).map encSh))∧Hid (BW W1 wr)) (fun _ i _=>ag.length-(intOf i).toNat)
 case atStart=>exact⟨0,Nat.zero_le _,rfl,Lq (World.ownsRow_nil _ _ _ _),Lq (bR _)⟩
 case round =>
  obtain⟨k,hk,rfl,HRW,HBR⟩:=hrel;have hk0:(0:Int)≤(k:Int):=by omega
  by_cases hlt:k<ag.length
  ·obtain⟨x,hx⟩:=gX (l:=ag) (i:=k) hlt;have hxl:=HIN.out x (mG ⟨k,hx⟩);obtain⟨s,hs⟩:=gX (l:=shs) (i:=x) hxl;obtain⟨b,off,hA,_,c0⟩:=(HGG.out wr HBR.out) k x hx;obtain⟨b2,off2,hA2,_,c1⟩:=(HH.out wr HBR.out).rd x s hs;subst hA hA2;have HPS:=Lq (pick_snoc hx hs);have HPL:Hid ((pickSh shs (ag.take k)).length≤k):=Lq (by unfold pickSh;exact lT (List.length_filterMap_le _ _) (by rw[List.length_take];omega))
   have x0:=(HQ.out.keep HBR.out).c 0;have hx0:(0:Int)≤(x:Int):=by omega
   have hx1:(x:Int)<(shs.length:Int):=by omega
   have hpl:=HPL.out;have HAL:=Lq (HRW.out.alloc (.cells #[encSh s] 102));clear hx hs;unfold encSh at c1;go_wp2_with (at_builtin;refine wpList_append_own _ rfl _ _ 132 rfl W1.heap.size 102 i109 (.agg #[.slice none 0 0]) 1 24 Tryz.underlying132 hi109 hz1090 hz1091 hz1092 rfl (by decide) _ _ _ rfl HAL.out ⟨wr.heap.size,0,none⟩ 1 1 [encSh s] rfl rfl (one_new _ _ _) ?d2 ?d3 ?d4 ?d5 ?_)
   case d2=>simp[Value.oneCell',encSh]
   case d3=>unfold maxLen;omega
   case d4=>omega
   case d5=>have:=HBR.out.size;(try simp only[World.size_alloc]);omega
   intro v9 w9 hown9 hg9 _;have hb9:BW W1 w9:=grownB HAL.out hg9 (lr _) (bA HBR.out _);have HB9:=Lq hb9;have HO9:=Lq hown9;clear hown9 hg9 hb9 c0 c1 x0;go_wp2_with fail;go_roundw
   case measure=>simp[intOf];omega
   case rel =>
    refine⟨k+1,by omega,by go_num,Lq ?_,HB9⟩
    rw[HPS.out]
    simpa using HO9.out
  ·obtain rfl:k=ag.length:=by omega
   go_wp2_with fail;go_ret
   refine⟨_,rfl, ?_,bT HB1.out HBR.out⟩;have h:=own_base HRW.out HB1.out.size;rw[List.take_of_length_le (lr _)]at h;exact h
section
variable{base c g n:Nat}{A:Option Addr}{v:Value}{W W1 w:World}
structure PlM where
 A:Option Addr
 C:Option Addr
 cap:Nat
 capc:Nat
 ms:List HuM
 cs:List HcM
structure TwoPlans(w:World)(b o:Nat)(p q:PlM):Prop where
 p0:w.cell? ⟨b,o,none⟩=some (.slice p.A p.ms.length p.cap)
 p1:w.cell? ⟨b,o+1,none⟩=some (.slice p.C p.cs.length p.capc)
 q0:w.cell? ⟨b,o+2,none⟩=some (.slice q.A q.ms.length q.cap)
 q1:w.cell? ⟨b,o+2+1,none⟩=some (.slice q.C q.cs.length q.capc)
 pp:PlanAt w p.A p.C p.cap p.capc p.ms p.cs
 qq:PlanAt w q.A q.C q.cap q.capc q.ms q.cs
 q00:q.cs.length=0
theorem TwoPlans.below{b o:Nat}{p q:PlM}(h:TwoPlans w b o p q)(hb:BW w W):TwoPlans W b o p q:=⟨kC hb h.p0,kC hb h.p1,kC hb h.q0,kC hb h.q1,h.pp.below hb,h.qq.below hb,h.q00⟩
theorem slice_ne{t:TypeId}{C:Option Addr}{m d:Nat}(h:Blk w g t #[.slice A n c,.slice C m d]):∀o s,w.cell? ⟨g,o,none⟩≠some (.string s):=by
 intro o s hc;rw[h.cell]at hc
 match o,hc with
 | 0,hc=>injection hc with hc;cases hc
 | 1,hc=>injection hc with hc;cases hc
 | o+2,hc=>rw[Array.getElem?_eq_none (by show 2≤o+2;omega)]at hc;cases hc
def agreeB(l:List HuP)(sg:List SgM):Bool:=sg.all fun s=>seesV l s.nm s.fr==s.kd
def agreeL(shs:List (List HuP))(sg:List SgM)(n:Nat):List Nat:=(List.range n).filter fun i=>match shs[i]? with
 | some l=>agreeB l sg
 | none=>false
structure SightOk(s:SgM):Prop where
 nm:nameB s.nm=true
 sz:s.nm.size≤maxLen
 fr:inB 0 40 s.fr=true
 kd:inB 0 5 s.kd=true
def SurveyPost(a b:List HuP)(sg:List SgM)(w:World)(e:Ending)(w':World):Prop:=∃(g c:Nat) (Ag:Option Addr) (cg:Nat) (s1 s2:ShM),e=.returned (.tuple #[.agg #[.slice (some ⟨g,0,none⟩) 2 c,.slice Ag (agreeL [a,b] sg 2).length cg],iv 0])∧BW w w'∧psOf s1.ms=a∧psOf s2.ms=b∧ShsRd w' w'.heap.size (some ⟨g,0,none⟩) [s1,s2]∧Rd1 nv w' w'.heap.size Ag (agreeL [a,b] sg 2)∧(agreeL [a,b] sg 2).length≤cg∧cg≤maxLen
theorem own1_rd{α:Type}{enc:α→Value}{e:TypeId}{xs:List α}(h:w.ownsRow base e 1 v xs.length (xs.map enc)):∃A cap,v=.slice A xs.length cap∧Rd1 enc w w.heap.size A xs∧xs.length≤cap∧cap≤maxLen:=by
 obtain⟨A,cap,h1,h2,_⟩:=own_rd1 h;refine⟨A,cap,h1,h2, ?_⟩;rcases h.2 with⟨hv,hn⟩ | ⟨g,c,cur,hv,_,_,hc,hm,_⟩
 ·rw[h1]at hv;injection hv with _ h3 h4
  subst h4;exact⟨by omega,Nat.zero_le _⟩
 ·rw[h1]at hv;injection hv with _ _ h4
  subst h4;exact⟨hc,hm⟩
theorem three{t:TypeId}{a0 a1 a2:Value}(b0 b1 b2:Value)(h:Blk w g t #[a0,a1,a2]):Blk (((w.setCell ⟨g,0,none⟩ b0).setCell ⟨g,1,none⟩ b1).setCell ⟨g,2,none⟩ b2) g t #[b0,b1,b2]:=by
 have h:=((h.set_ 0 b0).set_ 1 b1).set_ 2 b2
 simpa using h
theorem threeMade(wr:World)(t:TypeId)(a0 a1 a2 b0 b1 b2:Value):∃Wa W2,wr.alloc (.cells #[a0,a1,a2] t)=Wa∧(((Wa.setCell ⟨wr.heap.size,0,none⟩ b0).setCell ⟨wr.heap.size,1,none⟩ b1).setCell ⟨wr.heap.size,2,none⟩ b2)=W2∧BW wr W2∧Blk Wa wr.heap.size t #[a0,a1,a2]∧BW wr Wa∧Blk W2 wr.heap.size t #[b0,b1,b2]:=by
 refine⟨_,_,rfl,rfl, ?_,Blk.new wr t _,bA (bR _) _, ?_⟩
 ·exact((((OnlyAt.of_below (bR _) wr.heap.size).set 0 _).set 1 _).set 2 _).below (bA (bR _) _) (lr _)
 ·exact three _ _ _ (Blk.new wr t _)
theorem agreeL_snoc{shs:List (List HuP)}{sg:List SgM}{j:Nat}{l:List HuP}(h:shs[j]?=some l):agreeL shs sg (j+1)=agreeL shs sg j++(if agreeB l sg then[j]else[]):=by unfold agreeL;rw[List.range_succ,List.filter_append];simp only[List.filter_cons,List.filter_nil,h]
theorem agreeL_len(shs:List (List HuP))(sg:List SgM)(j:Nat):(agreeL shs sg j).length≤j:=by unfold agreeL;exact lT (List.length_filter_le _ _) (by simp)
theorem Tryz.info3:(Tryz.prog.info? 3).map (fun i=>(i.zero,i.size,i.bytes))=some (some (iv 0),1,8):=by kernel_rfl
structure SvOne(W1 wr:World)(gf:Nat)(la:List HuP)(s1:ShM)(g1 c1:Nat):Prop where
 ps:psOf s1.ms=la
 blk:Blk wr gf 134 #[.slice (some ⟨g1,0,none⟩) 1 c1,.slice none 0 0]
 row:wr.ownsRow W1.heap.size 102 1 (.slice (some ⟨g1,0,none⟩) 1 c1) 1 [encSh s1]
 only:OnlyAt W1 wr gf
 sl:∀W,Two gf g1 wr W→SlM W W.heap.size s1.A s1.cap s1.ms
structure SvTwo(W1 wr:World)(gf:Nat)(la lb:List HuP)(s1 s2:ShM)(g c:Nat):Prop where
 ps:psOf s1.ms=la∧psOf s2.ms=lb
 blk:Blk wr gf 134 #[.slice (some ⟨g,0,none⟩) 2 c,.slice none 0 0]
 r0:wr.cell? ⟨g,0,none⟩=some (encSh s1)
 r1:wr.cell? ⟨g,1,none⟩=some (encSh s2)
 ne:W1.heap.size≤g
 only:OnlyAt W1 wr gf
 sl:∀W,OnlyAt wr W gf→SlM W W.heap.size s1.A s1.cap s1.ms∧SlM W W.heap.size s2.A s2.cap s2.ms
theorem SvTwo.below{wr:World}{gf:Nat}{la lb:List HuP}{s1 s2:ShM}(h:SvTwo W1 wr gf la lb s1 s2 g c)(hb:BW wr W):SvTwo W1 W gf la lb s1 s2 g c :=
 ⟨h.ps,h.blk.keep hb,kC hb h.r0,kC hb h.r1,h.ne,oT h.only (OnlyAt.of_below hb gf),fun X hX=>h.sl X (oT (OnlyAt.of_below hb gf) hX)⟩
theorem SlM.moved{cap:Nat}{ms:List HuM}(h:SlM w w.heap.size A cap ms)(hg:∀o s,w.cell? ⟨g,o,none⟩≠some (.string s))(ho:OnlyAt w W g):SlM W W.heap.size A cap ms:=(h.apart hg ho).more ho.size
theorem only_grown{w':World}{e:TypeId}{size:Nat}{xs:List Value}(h:w.ownsRow base e size v n xs)(hg:w.grownBy w' v.ownBlock)(hb:W1.heap.size≤base)(ho:OnlyAt W1 w g):OnlyAt W1 w' g :=
 ⟨hg.os.trans ho.os,hg.tape.trans ho.tape,hg.output.trans ho.output,lT ho.size hg.size,fun k hk hne=>(hg.block k (lz hk ho.size) (fun e=>by have:=(h.lt k e.symm).1;omega)).trans (ho.block k hk hne)⟩
theorem survey72_any(b o cp:Nat)(p q:PlM)(sg:List SgM)(Ss:Option Addr)(css:Nat)(day:Int)(w:World)(H:TwoPlans w b o p q)(hd:inB 0 40000 day=true)(hP:PlanOk (psOf p.ms) (csOf p.cs))(hQ:PlanOk (psOf q.ms) (csOf q.cs))(HS:RdN 3 encS w w.heap.size Ss sg)(hsl:sg.length≤12)(hso:∀s∈sg,SightOk s) :
  Cs 70 #[.slice (some ⟨b,o,none⟩) 2 cp,iv day,.slice Ss sg.length css] w (SurveyPost (shipOn day (psOf p.ms) (csOf p.cs)) (shipOn day (psOf q.ms) (csOf q.cs)) sg w):=by
 obtain⟨W1,hW1⟩:=ex (w.alloc (.cells #[.slice none 0 0,.slice none 0 0] 134));have b1:BW w W1:=by rw[←hW1];exact bA (bR w) _
 have q1:Blk W1 w.heap.size 134 #[.slice none 0 0,.slice none 0 0]:=by rw[←hW1];exact Blk.new w 134 _
 obtain⟨gf,hgf⟩:=ex w.heap.size;rw[hgf]at q1;have HQ1:=Lq q1;have HB1:=Lq b1;have HGF:Hid (w.heap.size≤gf):=Lq (Nat.le_of_eq hgf);have HPL:Hid (∀W,BW w W→TwoPlans W b o p q):=Lq fun W hb=>H.below hb
 have HSG:Hid (∀W,BW w W→RdN 3 encS W W.heap.size Ss sg):=Lq fun W hb=>(HS.below hb (lr _)).more hb.size
 have HI:Hid (∀g W,W.cell? ⟨g,0,none⟩=some (iv 2)→Cs 59 #[iv 1,iv 6,.slice (some ⟨g,0,none⟩) 1 1] W (Rt W (.bool false))):=Lq fun g W hc=>out_oneH 1 6 2 g W hc (lt_of_cell hc)
 have HID:Hid (∀g W,W.cell? ⟨g,0,none⟩=some (iv day)→Cs 59 #[iv 0,iv 40000,.slice (some ⟨g,0,none⟩) 1 1] W (Rt W (.bool false))):=Lq fun g W hc=>by have h:=out_oneH 0 40000 day g W hc (lt_of_cell hc);rw[hd]at h;exact h
 have HD:=Lq hd;have HPP:=Lq hP;have HQQ:=Lq hQ;have HSO:=Lq hso;obtain⟨la,hla⟩:=ex (shipOn day (psOf p.ms) (csOf p.cs));obtain⟨lb,hlb⟩:=ex (shipOn day (psOf q.ms) (csOf q.cs));rw[hla,hlb];have HLA:=Lq hla;have HLB:=Lq hlb;obtain⟨i109,hi109,hz1090,hz1091,hz1092⟩:=info_parts Tryz.info102;clear H HS hd hP hQ hso hla hlb b1 q1;go_enter Tryz.func70,Tryz.ntmps70
 go_wp2_with fail;refine(HI.out _ _ (by go_simp)).mono ?_
 rintro e w2 ⟨rfl,hb⟩;have HB2:=Lq (bT (bA (bR W1) _) hb);clear hb hW1 hgf HI;go_wp2_with fail;go_loopw [25] (fun i wr=>∃k:Nat,k≤2∧i=iv k∧Hid ((k=0∧BW W1 wr)∨(k=1∧∃s1 g1 c1,SvOne W1 wr gf la s1 g1 c1)∨(k=2∧∃s1 s2 g c,SvTwo W1 wr gf la lb s1 s2 g c))) (fun i _=>2-(intOf i).toNat)
 case atStart=>exact⟨0,Nat.zero_le _,rfl,Lq (.inl ⟨rfl,HB2.out⟩)⟩
 case round =>
  obtain⟨k,hk,rfl,HST⟩:=hrel;have hst:=HST.out;rcases hst with⟨rfl,hbr⟩ | ⟨rfl,s1,g1,c1,hso⟩ | ⟨rfl,s1,s2,g,c,hst⟩
  ·have hw:=bT HB1.out hbr;have hpl:=HPL.out wr hw;obtain⟨⟨pA,pC,pcap,pcapc,pms,pcs⟩,hpe⟩:=ex p;subst hpe;have p0:=hpl.p0;have p1:=hpl.p1;simp only at p0 p1 HPP HLA;obtain⟨Wa,W3,hWa,hW3,hb3,hqa,hba,hq3⟩:=twoMade wr 27 (.slice none 0 0) (.slice none 0 0) (.slice pA pms.length pcap) (.slice pC pcs.length pcapc);obtain⟨g9,hg9⟩:=ex wr.heap.size;rw[hg9]at hW3 hqa hq3;have HB3:=Lq (bT hbr hb3);have HBD:Hid (Cs 97 #[.agg #[.slice pA pms.length pcap,.slice pC pcs.length pcapc],iv day] W3 (BuildPost pms pcs day W3)):=Lq (let h:=(HPL.out W3 (bT hw hb3)).pp;build94_any pA pC pms pcs W3.heap.size pcap pcapc day W3 (lr _) h.sl h.ch h.wf);have af:=hqa.frozen 0;have af1:=hqa.frozen 1;have ac:=hqa.c 0;have ac1:=hqa.c 1;have al:=hqa.lt;have d0:=hq3.c 0;have d1:=hq3.c 1;clear hbr hw hpl hb3 hqa hba hq3 HST;go_wp2_with fail;refine HBD.out.mono ?_;rintro e w4 ⟨rp,ri,r,Ax,n,c,rfl,hb,hiff,hyes⟩;obtain rfl:=hiff.2 HPP.out;obtain⟨out,rfl,hps,hsl⟩:=hyes rfl;obtain⟨Wb,W5,hWb,hW5,hb5,hqb,hbb,hq5⟩:=oneMade w4 102 (.slice none 0 0) (.slice Ax out.length c);obtain⟨g10,hg10⟩:=ex w4.heap.size;rw[hg10]at hW5 hqb hq5;have hb14:=bT HB3.out hb;have HB4:=Lq hb14;have HB45:=Lq hb5;have HQ4:=Lq (HQ1.out.keep hb14);have HQ5:=Lq ((HQ1.out.keep hb14).keep hb5);have HSL:=Lq hsl;have HPS:=Lq (hps.trans HLA.out);have bf:=hqb.frozen 0;have bc:=hqb.c 0;have bl:=hqb.lt;have e0:=hq5.c 0;have g0:=HQ5.out.c 0;have gfz:=HQ5.out.frozen 0;have gl:=HQ5.out.lt;have HAL:=Lq ((World.ownsRow_nil (w:=W5) W5.heap.size 102 1 |>.alloc (.cells #[encSh ⟨out,Ax,c⟩] 102)))
   clear hb hiff hyes hps hsl hb5 hqb hbb hq5 hb14 p0 p1 af af1 ac ac1 al d0 d1 hWa hW3 hg9;go_wp2_with (at_builtin;refine wpList_append_own _ rfl _ _ 132 rfl W5.heap.size 102 i109 (.agg #[.slice none 0 0]) 1 24 Tryz.underlying132 hi109 hz1090 hz1091 hz1092 rfl (by decide) _ _ _ rfl HAL.out ⟨W5.heap.size,0,none⟩ 1 1 [encSh ⟨out,Ax,c⟩] rfl rfl (one_new _ _ _) ?d2 ?d3 ?d4 ?d5 ?_)
   case d2=>simp[Value.oneCell',encSh]
   case d3=>unfold maxLen;omega
   case d4=>omega
   case d5=>(try simp only[World.size_alloc]);omega
   intro v9 w9 hown9 hgr9 _;have hb59:BW W5 w9:=grownB HAL.out hgr9 (lr _) (bA (bR _) _);obtain⟨g1,c1,rfl,hgb,hgl,_⟩:=own_form hown9 (by omega)
   have hq9:=HQ5.out.keep hb59;have k0:=hq9.c 0;have k1:=hq9.frozen 0;have k2:=hq9.lt;have HB59:=Lq hb59;have HO9:=Lq hown9;have HG9:=Lq hgb;have HQ9:=Lq hq9;clear hown9 hgr9 hb59 hq9 e0 g0 gfz gl bf bc bl hWb hW5 hg10;go_wp2_with fail;go_roundw
   case measure=>simp[intOf]
   case rel =>
    have o9:OnlyAt w9 (w9.setCell ⟨gf,0,none⟩ (.slice (some ⟨g1,0,none⟩) 1 c1)) gf:=OnlyAt.of_set (bR w9) gf 0 _;have hgg:gf<g1:=lz HQ5.out.lt HG9.out;refine⟨1,by omega,rfl,Lq (.inr (.inl ⟨rfl,⟨out,Ax,c⟩,g1,c1,HPS.out, ?_, ?_, ?_, ?_⟩))⟩
    ·have h:=HQ9.out.set_ 0 (.slice (some ⟨g1,0,none⟩) 1 c1)
     simpa using h
    ·exact own_base (own_only HO9.out o9 (by have:=HQ5.out.lt;omega)) (lT HB4.out.size HB45.out.size)
    ·exact oT (OnlyAt.of_below (bT HB4.out (bT HB45.out HB59.out)) gf) o9
    ·intro W hW;have hall:Two gf g1 w4 W:=(Two.of_below (bT HB45.out HB59.out)).trans ((Two.of_only o9).trans hW);have hoo:OnlyAt w4 W gf:=⟨hall.os,hall.tape,hall.output,hall.size,fun k hk hne=>hall.block k hk hne (by have:=HB45.out.size;have:=HG9.out;omega)⟩
     exact HSL.out.moved (slice_ne HQ4.out) hoo
  ·have hw:BW w wr:=hso.only.below HB1.out HGF.out;have hpl:=HPL.out wr hw;obtain⟨⟨qA,qC,qcap,qcapc,qms,qcs⟩,hqe⟩:=ex q;subst hqe;have p0:=hpl.q0;have p1:=hpl.q1;have hq00:=hpl.q00;simp only at p0 p1 HQQ HLB hq00;obtain⟨Wa,W3,hWa,hW3,hb3,hqa,hba,hq3⟩:=twoMade wr 27 (.slice none 0 0) (.slice none 0 0) (.slice qA qms.length qcap) (.slice qC qcs.length qcapc);obtain⟨g9,hg9⟩:=ex wr.heap.size;rw[hg9]at hW3 hqa hq3;have HB3:=Lq hb3;have HBD:Hid (Cs 97 #[.agg #[.slice qA qms.length qcap,.slice qC qcs.length qcapc],iv day] W3 (BuildPost2 qA qcap qms qcs day W3)):=Lq (let h:=(HPL.out W3 (bT hw hb3)).qq;build94_all qA qC qms qcs W3.heap.size qcap qcapc day W3 (lr _) h.sl h.ch h.wf);have af:=hqa.frozen 0;have af1:=hqa.frozen 1;have ac:=hqa.c 0;have ac1:=hqa.c 1;have al:=hqa.lt;have d0:=hq3.c 0;have d1:=hq3.c 1;have HSO1:=Lq hso;have HQ00:=Lq hq00;have HPSQ:Hid (psOf qms=lb):=by
    have hc:csOf qcs=[]:=List.length_eq_zero_iff.1 (by simpa using hq00)
    have h:=HLB.out;rw[hc]at h;exact Lq h
   clear hw hpl hb3 hqa hba hq3 HST hso hq00;go_wp2_with fail;refine HBD.out.mono ?_;rintro e w4 ⟨rp,ri,r,Ax,n,c,rfl,hb,hiff,hyes,hsame,_⟩;obtain rfl:=hiff.2 HQQ.out;obtain⟨rfl,rfl,rfl⟩:=hsame rfl HQ00.out;obtain⟨Wb,W5,hWb,hW5,hb5,hqb,hbb,hq5⟩:=oneMade w4 102 (.slice none 0 0) (.slice Ax qms.length c);obtain⟨g10,hg10⟩:=ex w4.heap.size;rw[hg10]at hW5 hqb hq5;have hb15:=bT HB3.out (bT hb hb5);have HB15:=Lq hb15;have HQ5:=Lq (HSO1.out.blk.keep hb15);have bf:=hqb.frozen 0;have bc:=hqb.c 0;have bl:=hqb.lt;have e0:=hq5.c 0;have g0:=HQ5.out.c 0;have gfz:=HQ5.out.frozen 0;have gl:=HQ5.out.lt;have HAL:=Lq ((own_below HSO1.out.row hb15).alloc (.cells #[encSh ⟨qms,Ax,c⟩] 102));have h15:W1.heap.size≤W5.heap.size:=lT HSO1.out.only.size hb15.size;clear hb hiff hyes hsame hb5 hqb hbb hq5 hb15 p0 p1 af af1 ac ac1 al d0 d1 hWa hW3 hg9;go_wp2_with (at_builtin;refine wpList_append_own _ rfl _ _ 132 rfl W1.heap.size 102 i109 (.agg #[.slice none 0 0]) 1 24 Tryz.underlying132 hi109 hz1090 hz1091 hz1092 rfl (by decide) _ _ _ rfl HAL.out ⟨W5.heap.size,0,none⟩ 1 1 [encSh ⟨qms,Ax,c⟩] rfl rfl (one_new _ _ _) ?e2 ?e3 ?e4 ?e5 ?_)
   case e2=>simp[Value.oneCell',encSh]
   case e3=>unfold maxLen;omega
   case e4=>omega
   case e5=>(try simp only[World.size_alloc]);omega
   intro v9 w9 hown9 hgr9 _;obtain⟨g2,c2,rfl,hgb,hgl,_⟩:=own_form hown9 (by omega)
   have hg1f:gf<g1:=lz HQ1.out.lt ((HSO1.out.row.lt g1 rfl).1);have hq9:Blk w9 gf 134 #[.slice (some ⟨g1,0,none⟩) 1 c1,.slice none 0 0]:=(HQ5.out.alloc _).grown hgr9 (by simp only[Value.ownBlock];intro h;injection h with h;omega)
   have k0:=hq9.c 0;have k1:=hq9.frozen 0;have k2:=hq9.lt;have HO9:=Lq hown9;have HG9:=Lq hgb;have HQ9:=Lq hq9;have HON:Hid (OnlyAt W1 w9 gf):=Lq (only_grown HAL.out hgr9 (lr _) (oT HSO1.out.only (OnlyAt.of_below (bA HB15.out _) gf)));have HTW:Hid (Two gf g1 wr w9):=Lq ((Two.of_below (bA HB15.out _)).trans ⟨hgr9.os,hgr9.tape,hgr9.output,hgr9.size,fun k hk _ h2=>hgr9.block k hk (by simp only[Value.ownBlock];intro h;injection h with h;exact h2 h)⟩)
   clear hown9 hgr9 hq9 e0 g0 gfz gl bf bc bl hWb hW5 hg10;go_wp2_with fail;go_roundw
   case measure=>simp[intOf]
   case rel =>
    have o9:OnlyAt w9 (w9.setCell ⟨gf,0,none⟩ (.slice (some ⟨g2,0,none⟩) 2 c2)) gf:=OnlyAt.of_set (bR w9) gf 0 _;have hgg:gf<g2:=lz HQ1.out.lt HG9.out;have hrow:=own_only HO9.out o9 HQ1.out.lt;refine⟨2,by omega,rfl,Lq (.inr (.inr ⟨rfl,s1,⟨qms,Ax,c⟩,g2,c2,⟨HSO1.out.ps,HPSQ.out⟩, ?_, ?_, ?_,HG9.out,oT HON.out o9, ?_⟩))⟩
    ·have h:=HQ9.out.set_ 0 (.slice (some ⟨g2,0,none⟩) 2 c2)
     simpa using h
    ·exact hrow.cellAt 0 (by omega)
    ·exact hrow.cellAt 1 (by omega)
    ·intro W hW;refine⟨HSO1.out.sl W (HTW.out.trans ((Two.of_only o9).trans (Two.of_only hW))), ?_⟩;exact(HPL.out W ((oT (oT HON.out o9) hW).below HB1.out HGF.out)).qq.sl
  ·have HT:=Lq hst;clear HST hst;have HBW:Hid (BW w wr):=Lq (HT.out.only.below HB1.out HGF.out);go_wp2_with fail;refine(HID.out _ _ (by go_simp)).mono ?_
   rintro e w3 ⟨rfl,hb⟩;have HB3:=Lq (bT (bA (bR wr) _) hb);clear hb;have hsl1:¬(sg.length:Int)>12:=by omega
   go_wp2_with fail;go_loopw [60] (fun i wr2=>∃j:Nat,j≤sg.length∧i=iv j∧Hid (BW wr wr2)) (fun i _=>sg.length-(intOf i).toNat)
   case atStart=>exact⟨0,Nat.zero_le _,rfl,HB3⟩
   case round =>
    obtain⟨j,hj,rfl,HBJ⟩:=hrel;have hj0:(0:Int)≤(j:Int):=by omega
    by_cases hjl:j<sg.length
    ·obtain⟨s,hs⟩:=gX (l:=sg) (i:=j) hjl;obtain⟨bs,os,rfl,_,hcs⟩:=(HSG.out _ (bT HBW.out HBJ.out)) j s hs;have hok:=HSO.out s (mG ⟨j,hs⟩);obtain⟨nm,fr,kd⟩:=s;have c0:wr.cell? ⟨bs,os+j*3,none⟩=some (.string nm):=hcs 0 _ rfl;have c1:wr.cell? ⟨bs,os+j*3+1,none⟩=some (iv fr):=hcs 1 _ rfl;have c2:wr.cell? ⟨bs,os+j*3+2,none⟩=some (iv kd):=hcs 2 _ rfl;have HNM:Hid (∀W,Cs 29 #[.string nm] W (Rt W (.bool true))):=Lq fun W=>by
      have h:=name_any nm W hok.sz;rw[hok.nm]at h;exact h
     have HF4:Hid (∀g W,W.cell? ⟨g,0,none⟩=some (iv fr)→Cs 59 #[iv 0,iv 40,.slice (some ⟨g,0,none⟩) 1 1] W (Rt W (.bool false))):=Lq fun g W hc=>by have h:=out_oneH 0 40 fr g W hc (lt_of_cell hc);rw[hok.fr]at h;exact h
     have HK5:Hid (∀g W,W.cell? ⟨g,0,none⟩=some (iv kd)→Cs 59 #[iv 0,iv 5,.slice (some ⟨g,0,none⟩) 1 1] W (Rt W (.bool false))):=Lq fun g W hc=>by have h:=out_oneH 0 5 kd g W hc (lt_of_cell hc);rw[hok.kd]at h;exact h
     obtain⟨Wa,W4,hWa,hW4,hb4,hqa,hba,hq4⟩:=threeMade wr 71 (.string ⟨#[]⟩) (iv 0) (iv 0) (.string nm) (iv fr) (iv kd);obtain⟨g15,hg15⟩:=ex wr.heap.size;rw[hg15]at hW4 hqa hq4;have HB4:=Lq (bT HBJ.out hb4);have HQ15:=Lq hq4;have af0:=hqa.frozen 0;have af1:=hqa.frozen 1;have af2:=hqa.frozen 2;have ac0:=hqa.c 0;have ac1:=hqa.c 1;have ac2:=hqa.c 2;have al:=hqa.lt;have d0:=hq4.c 0;clear hs hok hcs hb4 hqa hba hq4;go_wp2_with fail;refine(HNM.out _).mono ?_;rintro e w5 ⟨rfl,hb⟩;have HQ5:=Lq (HQ15.out.keep hb);have HB5:=Lq (bT HB4.out hb);clear hb c0 c1 c2 af0 af1 af2 ac0 ac1 ac2 al d0 hWa hW4 hg15;have d1:=HQ5.out.c 1;go_wp2_with fail;refine(HF4.out _ _ (by go_simp)).mono ?_
     rintro e w6 ⟨rfl,hb⟩;have HQ6:=Lq (HQ5.out.keep (bT (bA (bR _) _) hb));have HB6:=Lq (bT HB5.out (bT (bA (bR _) _) hb));clear hb d1;have d2:=HQ6.out.c 2;go_wp2_with fail;refine(HK5.out _ _ (by go_simp)).mono ?_
     rintro e w7 ⟨rfl,hb⟩;have HB7:=Lq (bT HB6.out (bT (bA (bR _) _) hb));clear hb d2;go_wp2_with fail;go_roundw
     case measure=>simp[intOf];omega
     case rel=>exact⟨j+1,by omega,by go_num,HB7⟩
    ·obtain rfl:j=sg.length:=by omega
     have HT7:=Lq (HT.out.below HBJ.out);have HBW7:=Lq (bT HBW.out HBJ.out);have k0:=HT7.out.blk.c 0;go_wp2_with fail;clear k0;go_loopw [86] (fun i wr3=>∃(j:Nat) (va:Value),j≤2∧i=iv j∧Hid (Blk wr3 gf 134 #[.slice (some ⟨g,0,none⟩) 2 c,va])∧Hid (wr3.ownsRow wr.heap.size 3 1 va (agreeL [la,lb] sg j).length ((agreeL [la,lb] sg j).map nv))∧Hid (OnlyAt wr wr3 gf)) (fun i _=>2-(intOf i).toNat)
     case atStart=>exact⟨0,_,Nat.zero_le _,rfl,Lq HT7.out.blk,Lq (World.ownsRow_nil _ _ _ _),Lq (OnlyAt.of_below (bR _) _)⟩
     case round =>
      obtain⟨j,va,hj2,rfl,HBK,HRW,HOW⟩:=hrel;have hj0:(0:Int)≤(j:Int):=by omega
      have hbw:BW w wr:=HOW.out.below HBW7.out HGF.out;by_cases hjl:j<2
      ·obtain⟨sj,lj,hcell,hslj,hpj,hlj⟩:∃(sj:ShM) (lj:List HuP),(∀W,OnlyAt wr W gf→cA W g (0+j) (encSh sj))∧(∀W,OnlyAt wr W gf→SlM W W.heap.size sj.A sj.cap sj.ms)∧psOf sj.ms=lj∧[la,lb][j]?=some lj:=by
        have hgne:g≠gf:=by have h1:=HT7.out.ne;have h2:=HQ1.out.lt;omega
        rcases(show j=0∨j=1 by omega)with rfl | rfl
        ·exact⟨s1,la,fun W hW=>(oT HOW.out hW).cell HT7.out.r0 hgne,fun W hW=>(HT7.out.sl W (oT HOW.out hW)).1,HT7.out.ps.1,rfl⟩
        ·exact⟨s2,lb,fun W hW=>(oT HOW.out hW).cell HT7.out.r1 hgne,fun W hW=>(HT7.out.sl W (oT HOW.out hW)).2,HT7.out.ps.2,rfl⟩
       have HAG:=Lq (agreeL_snoc (sg:=sg) hlj);obtain⟨Wa,W4,hWa,hW4,hb4,hqa,hba,hq4⟩:=oneMade wr 3 (iv 0) (iv j);obtain⟨gi,hgi⟩:=ex wr.heap.size;rw[hgi]at hW4 hqa hq4;obtain⟨ba,hba2⟩:=ex (anyP (fun s:SgM=>seesV (psOf sj.ms) s.nm s.fr != s.kd) sg)
       have hagb:agreeB lj sg=!ba:=by rw[←hba2,hpj];unfold agreeB anyP;rw[Bool.eq_iff_iff];simp only[List.all_eq_true,Bool.not_eq_true',List.any_eq_false];exact⟨fun h s hs=>by have:=h s hs;simp at this;simp[this],fun h s hs=>by have:=h s hs;simpa using this⟩
       have HCN:Hid (∀W,BW W4 W→Cs 112 #[.slice Ss sg.length css,.func (.func 111) #[] #[.pointer (some ⟨gf,0,none⟩),.pointer (some ⟨gi,0,none⟩)]] W (Rt W (.bool ba))):=Lq fun W hb=>by
        have hb2:=bT hb4 hb;rw[←hba2];refine con_sight _ Ss sg W.heap.size css _ _ W (lT hsl (by unfold maxLen;omega)) (lr _) (HSG.out W (bT hbw hb2)) (fun W2 m hb3 _=>?_)
        have hb4':=bT hb2 hb3;exact wrong108_any gf gi g 0 2 c j m sj W2 ((HBK.out.keep hb4').c 0) ((hq4.keep (bT hb hb3)).c 0) hjl (hcell W2 (OnlyAt.of_below hb4' gf)) (hslj W2 (OnlyAt.of_below hb4' gf))
       have HB4:=Lq hb4;have HQ4:=Lq hq4;have HAB:=Lq hagb;have af:=hqa.frozen 0;have ac:=hqa.c 0;have al:=hqa.lt;clear hcell hslj hpj hlj hb4 hqa hba hq4 hba2 hagb hbw;go_wp2_with fail;refine(HCN.out _ (bR _)).mono ?_;rintro e w5 ⟨rfl,hb⟩;have HB5:=Lq (bT HB4.out hb);have d0:=(HQ4.out.keep hb).c 0;have HBK5:=Lq (HBK.out.keep (bT HB4.out hb));have HRW5:=Lq (own_below HRW.out (bT HB4.out hb));clear hb af ac al hWa hW4 hgi;cases ba with
       | true =>
        go_wp2_with fail;go_roundw
        case measure=>simp[intOf];omega
        case rel =>
         refine⟨j+1,va,by omega,by go_num,HBK5,Lq ?_,Lq (oT HOW.out (OnlyAt.of_below HB5.out gf))⟩
         rw[HAG.out,HAB.out]
         simpa using HRW5.out
       | false =>
        have k1:=HBK5.out.c 1;have HAL:=Lq (HRW5.out.alloc (.cells #[iv j] 3));have hlen:=agreeL_len [la,lb] sg j;obtain⟨i3,hi3,hz30,hz31,hz32⟩:=info_parts Tryz.info3;go_wp2_with (at_builtin;refine wpList_append_own _ rfl _ _ 65 rfl (World.heap _).size 3 i3 (iv 0) 1 8 Tryz.underlying65 hi3 hz30 hz31 hz32 rfl (by decide) _ _ _ rfl HAL.out ⟨w5.heap.size,0,none⟩ 1 1 [iv j] rfl rfl (one_new _ _ _) ?f2 ?f3 ?f4 ?f5 ?_)
        case f2=>simp[Value.oneCell']
        case f3=>unfold maxLen;omega
        case f4=>omega
        case f5=>have:=HB5.out.size;have:=HOW.out.size;(try simp only[World.size_alloc]);omega
        intro v9 w9 hown9 hgr9 _;obtain⟨A9,c9,rfl⟩:=own_slice hown9;have hro:=HRW5.out.lt;have hgf7:=HT7.out.blk.lt;have hq9:Blk w9 gf 134 #[.slice (some ⟨g,0,none⟩) 2 c,va]:=(HBK5.out.alloc _).grown hgr9 (fun e=>by have:=(hro gf e.symm).1;omega)
        have HON:Hid (OnlyAt _ w9 gf):=Lq (only_grown HAL.out hgr9 (lr _) (oT HOW.out (OnlyAt.of_below (bA HB5.out _) gf)));have k2:=hq9.frozen 1;have k3:=hq9.c 1;have k4:=hq9.lt;have HO9:=Lq hown9;have HQ9:=Lq hq9;clear hown9 hgr9 hq9 hro;go_wp2_with fail;go_roundw
        case measure=>simp[intOf];omega
        case rel =>
         have o9:OnlyAt w9 (w9.setCell ⟨gf,1,none⟩ (.slice A9 ((agreeL [la,lb] sg j).length+1) c9)) gf:=OnlyAt.of_set (bR w9) gf 1 _;refine⟨j+1,.slice A9 ((agreeL [la,lb] sg j).length+1) c9,by omega,by go_num,Lq ?_,Lq ?_,Lq (oT HON.out o9)⟩
         ·have h:=HQ9.out.set_ 1 (.slice A9 ((agreeL [la,lb] sg j).length+1) c9)
          simpa using h
         ·rw[HAG.out,HAB.out];have h:=own_only HO9.out o9 hgf7
          simpa using h
      ·obtain rfl:j=2:=by omega
       obtain⟨Ag,cg,rfl,hrd,hle,hmx⟩:=own1_rd HRW.out;have k0:=HBK.out.c 0;have k1:=HBK.out.c 1;have kf0:=HBK.out.frozen 0;have kf1:=HBK.out.frozen 1;have kl:=HBK.out.lt;obtain⟨W9,hW9⟩:=ex ((wr.setCell ⟨gf,0,none⟩ (.slice (some ⟨g,0,none⟩) 2 c)).setCell ⟨gf,1,none⟩ (.slice Ag (agreeL [la,lb] sg 2).length cg));have o9:OnlyAt wr W9 gf:=by rw[←hW9];exact((OnlyAt.of_below (bR wr) gf).set 0 _).set 1 _
       have q9:Blk W9 gf 134 #[.slice (some ⟨g,0,none⟩) 2 c,.slice Ag (agreeL [la,lb] sg 2).length cg]:=by
        rw[←hW9];have h:=(HBK.out.set_ 0 (.slice (some ⟨g,0,none⟩) 2 c)).set_ 1 (.slice Ag (agreeL [la,lb] sg 2).length cg)
        simpa using h
       have d0:=q9.c 0;have d1:=q9.c 1;have hgf7:=HT7.out.blk.lt;have hrow9:=own_only HRW.out o9 hgf7;have hall:=oT HOW.out o9;have hgne:g≠gf:=by have h1:=HT7.out.ne;have h2:=HQ1.out.lt;omega
       have HEND:Hid (BW w W9):=Lq (hall.below HBW7.out HGF.out);have HSH:Hid (ShsRd W9 W9.heap.size (some ⟨g,0,none⟩) [s1,s2]):=Lq ⟨fun i x hx=>by
         have hgl:g<W9.heap.size:=lt_of_cell (hall.cell HT7.out.r0 hgne)
         match i,hx with
         | 0,hx=>simp at hx;subst hx;exact⟨g,0,rfl,hgl,hall.cell HT7.out.r0 hgne⟩
         | 1,hx=>simp at hx;subst hx;exact⟨g,0,rfl,hgl,hall.cell HT7.out.r1 hgne⟩
         | n+2,hx=>simp at hx,fun s hs=>by
         simp only[List.mem_cons,List.not_mem_nil,or_false]at hs;rcases hs with rfl | rfl
         ·exact(HT7.out.sl W9 hall).1
         ·exact(HT7.out.sl W9 hall).2⟩
       have HR9:Hid (Rd1 nv W9 W9.heap.size Ag (agreeL [la,lb] sg 2)):=Lq (own_rdP hrow9 rfl);have HLE:Hid ((agreeL [la,lb] sg 2).length≤cg∧cg≤maxLen):=Lq ⟨hle,hmx⟩;clear o9 q9 hrow9 hall hrd hle hmx hbw;go_wp2_with fail;exact bodyPost_ret (v:=.tuple #[.agg #[.slice (some ⟨g,0,none⟩) 2 c,.slice Ag (agreeL [la,lb] sg 2).length cg],iv 0]) (by simp[results,Tryz.results70,go_sem,d0,d1]) rfl ⟨g,c,Ag,cg,s1,s2,rfl,HEND.out,HT7.out.ps.1,HT7.out.ps.2,HSH.out,HR9.out,HLE.out.1,HLE.out.2⟩
end
def pickL(ls:List (List HuP))(ag:List Nat):List (List HuP):=ag.filterMap fun i=>ls[i]?
def someN(ls:List (List HuP)):List ByteArray:=tidyN (ls.flatMap fun l=>l.map HuP.name)
def allN(ls:List (List HuP)):List ByteArray:=(someN ls).filter fun nm=>ls.all fun l=>hasP l nm
theorem pick_ps{s1 s2:ShM}{a b:List HuP}(h1:psOf s1.ms=a)(h2:psOf s2.ms=b)(ag:List Nat):(pickSh [s1,s2] ag).map (fun s=>psOf s.ms)=pickL [a,b] ag:=by
 subst h1 h2;unfold pickSh pickL;rw[List.map_filterMap]
 congr 1
 funext i
 match i with
 | 0=>rfl
 | 1=>rfl
 | n+2=>rfl
theorem allNms_ps(shs:List ShM):allNms shs=(shs.map fun s=>psOf s.ms).flatMap fun l=>l.map HuP.name:=by unfold allNms nmsOf;rw[List.flatMap_map]
theorem agree_in{ls:List (List HuP)}{sg:List SgM}{n i:Nat}(h:i∈agreeL ls sg n):i<n:=by unfold agreeL at h;exact List.mem_range.1 (List.mem_filter.1 h).1
def AgreePost(ls:List (List HuP))(sg:List SgM)(w:World)(e:Ending)(w':World):Prop:=∃(A:Option Addr) (c:Nat),e=.returned (.tuple #[.slice A (agreeL ls sg 2).length c,iv 0])∧Rd1 nv w' w'.heap.size A (agreeL ls sg 2)∧(agreeL ls sg 2).length≤c∧c≤maxLen∧BW w w'
theorem agree24_any(b o cp:Nat)(p q:PlM)(sg:List SgM)(Ss:Option Addr)(css:Nat)(day:Int)(w:World)(H:TwoPlans w b o p q)(hd:inB 0 40000 day=true)(hP:PlanOk (psOf p.ms) (csOf p.cs))(hQ:PlanOk (psOf q.ms) (csOf q.cs))(HS:RdN 3 encS w w.heap.size Ss sg)(hsl:sg.length≤12)(hso:∀s∈sg,SightOk s) :
  Cs 20 #[.slice (some ⟨b,o,none⟩) 2 cp,iv day,.slice Ss sg.length css] w (AgreePost [shipOn day (psOf p.ms) (csOf p.cs),shipOn day (psOf q.ms) (csOf q.cs)] sg w):=by
 have HSV:=Lq (survey72_any b o cp p q sg Ss css day w H hd hP hQ HS hsl hso);obtain⟨la,hla⟩:=ex (shipOn day (psOf p.ms) (csOf p.cs));obtain⟨lb,hlb⟩:=ex (shipOn day (psOf q.ms) (csOf q.cs));rw[hla,hlb]at HSV ⊢;clear H HS hd hP hQ hso hla hlb hsl;go_enter Tryz.func20,Tryz.ntmps20
 go_wp2_with fail;refine HSV.out.mono ?_;rintro e w2 ⟨g,c,Ag,cg,s1,s2,rfl,hb,hp1,hp2,hsh,hrd,hle,hmx⟩;obtain⟨L,hL⟩:=ex (agreeL [la,lb] sg 2);rw[hL]at hrd hle;have HL:=Lq hL;obtain⟨Wa,W3,hWa,hW3,hb3,hqa,hba,hq3⟩:=twoMade w2 134 (.slice none 0 0) (.slice none 0 0) (.slice (some ⟨g,0,none⟩) 2 c) (.slice Ag L.length cg);obtain⟨g8,hg8⟩:=ex w2.heap.size;rw[hg8]at hW3 hqa hq3;have HB3:=Lq (bT hb hb3);have HRD:=Lq ((hrd.below hb3 (lr _)).more hb3.size);have HLE:Hid (L.length≤cg∧cg≤maxLen):=Lq ⟨hle,hmx⟩;have af:=hqa.frozen 0;have af1:=hqa.frozen 1;have ac:=hqa.c 0;have ac1:=hqa.c 1;have al:=hqa.lt;have d1:=hq3.c 1;simp only[hL];clear hb hp1 hp2 hsh hrd hle hmx hb3 hqa hba hq3 hL;go_wp2_with fail
 go_ret2
 refine⟨Ag,cg, ?_, ?_, ?_,HLE.out.2,HB3.out⟩
 ·rw[HL.out];rfl
 ·rw[HL.out];exact HRD.out
 ·rw[HL.out];exact HLE.out.1
def SurePost(ls:List (List HuP))(w:World)(e:Ending)(w':World):Prop:=∃(A1 A2:Option Addr) (c1 c2:Nat),e=.returned (.tuple #[.slice A1 (allN ls).length c1,.slice A2 (someN ls).length c2,iv 0])∧Rd1 .string w' w'.heap.size A1 (allN ls)∧Rd1 .string w' w'.heap.size A2 (someN ls)∧(allN ls).length≤c1∧c1≤maxLen∧(someN ls).length≤c2∧c2≤maxLen∧BW w w'
theorem sure26_any(b o cp:Nat)(p q:PlM)(sg:List SgM)(Ss:Option Addr)(css:Nat)(day:Int)(w:World)(H:TwoPlans w b o p q)(hd:inB 0 40000 day=true)(hP:PlanOk (psOf p.ms) (csOf p.cs))(hQ:PlanOk (psOf q.ms) (csOf q.cs))(HS:RdN 3 encS w w.heap.size Ss sg)(hsl:sg.length≤12)(hso:∀s∈sg,SightOk s)(h0:0<(agreeL [shipOn day (psOf p.ms) (csOf p.cs),shipOn day (psOf q.ms) (csOf q.cs)] sg 2).length)(hnm:0<((pickL [shipOn day (psOf p.ms) (csOf p.cs),shipOn day (psOf q.ms) (csOf q.cs)] (agreeL [shipOn day (psOf p.ms) (csOf p.cs),shipOn day (psOf q.ms) (csOf q.cs)] sg 2)).flatMap fun l=>l.map HuP.name).length)(hnm9:((pickL [shipOn day (psOf p.ms) (csOf p.cs),shipOn day (psOf q.ms) (csOf q.cs)] (agreeL [shipOn day (psOf p.ms) (csOf p.cs),shipOn day (psOf q.ms) (csOf q.cs)] sg 2)).flatMap fun l=>l.map HuP.name).length≤1000) :
  Cs 22 #[.slice (some ⟨b,o,none⟩) 2 cp,iv day,.slice Ss sg.length css] w (SurePost (pickL [shipOn day (psOf p.ms) (csOf p.cs),shipOn day (psOf q.ms) (csOf q.cs)] (agreeL [shipOn day (psOf p.ms) (csOf p.cs),shipOn day (psOf q.ms) (csOf q.cs)] sg 2)) w):=by
 have HSV:=Lq (survey72_any b o cp p q sg Ss css day w H hd hP hQ HS hsl hso);obtain⟨la,hla⟩:=ex (shipOn day (psOf p.ms) (csOf p.cs));obtain⟨lb,hlb⟩:=ex (shipOn day (psOf q.ms) (csOf q.cs));rw[hla,hlb]at HSV h0 hnm hnm9 ⊢;obtain⟨ag,hag⟩:=ex (agreeL [la,lb] sg 2);have hin:∀i∈ag,i<2:=fun i hi=>agree_in (hag▸hi)
 have hag9:ag.length≤2:=hag▸agreeL_len _ _ _;rw[hag]at h0 hnm hnm9 ⊢;obtain⟨PL,hPL⟩:=ex (pickL [la,lb] ag);rw[hPL]at hnm hnm9 ⊢;have HAG:=Lq hag;have HPL:=Lq hPL;have HIN:=Lq hin;have HNM:=Lq hnm;have HNM9:=Lq hnm9;have hag0:¬((ag.length:Int)=0):=by omega
 have hagb:((ag.length:Int)==0)=false:=by simpa using hag0
 clear H HS hd hP hQ hso hla hlb hsl hag hPL hin hnm hnm9 h0;go_enter Tryz.func22,Tryz.ntmps22
 go_wp2_with fail;refine HSV.out.mono ?_;rintro e w2 ⟨g,c,Ag,cg,s1,s2,rfl,hb,hp1,hp2,hsh,hrd,hle,hmx⟩;rw[HAG.out]at hrd hle;simp only[HAG.out];obtain⟨Wa,W3,hWa,hW3,hb3,hqa,hba,hq3⟩:=twoMade w2 134 (.slice none 0 0) (.slice none 0 0) (.slice (some ⟨g,0,none⟩) 2 c) (.slice Ag ag.length cg);obtain⟨g9,hg9⟩:=ex w2.heap.size;rw[hg9]at hW3 hqa hq3;have HB3:=Lq (bT hb hb3);have HQ9:=Lq hq3;have HLF:Hid (∀W,BW W3 W→Cs 71 #[.agg #[.slice (some ⟨g,0,none⟩) 2 c,.slice Ag ag.length cg]] W fun e w'=>∃A c9,e=.returned (.slice A (pickSh [s1,s2] ag).length c9)∧ShsRd w' w'.heap.size A (pickSh [s1,s2] ag)∧(pickSh [s1,s2] ag).length≤c9∧c9≤maxLen∧BW W w'):=Lq fun W hbW=>by
  have hbb:=bT hb3 hbW;have hs:=(hsh.below hbb (lr _)).more hbb.size;refine(left73_any (some ⟨g,0,none⟩) Ag [s1,s2] ag c cg W hs ((hrd.below hbb (lr _)).more hbb.size) (by omega) (fun i hi=>HIN.out i hi)).mono ?_
  rintro e w' ⟨v,rfl,hown,hb'⟩;obtain⟨A,c9,rfl,h1,h2,h3⟩:=own1_rd hown;exact⟨A,c9,rfl,⟨h1,fun s hs'=>((hs.ok s (pick_mem hs')).below hb' (lr _)).more hb'.size⟩,h2,h3,hb'⟩
 have hpp:=pick_ps hp1 hp2 ag;rw[HPL.out]at hpp;obtain⟨SH,hSH⟩:=ex (pickSh [s1,s2] ag);rw[hSH]at HLF hpp;have HPP:=Lq hpp;have HALL:Hid (allNms SH=PL.flatMap fun l=>l.map HuP.name):=Lq (by rw[allNms_ps,hpp])
 have hsl9:SH.length≤2:=by rw[←hSH];unfold pickSh;exact lT (List.length_filterMap_le _ _) hag9
 have af:=hqa.frozen 0;have af1:=hqa.frozen 1;have ac:=hqa.c 0;have ac1:=hqa.c 1;have al:=hqa.lt;have d0:=hq3.c 0;have d1:=hq3.c 1;clear hb hp1 hp2 hsh hrd hle hmx hb3 hqa hba hq3 hpp hSH;go_wp2_with fail;refine(HLF.out _ (bR _)).mono ?_;rintro e w4 ⟨A4,c4,rfl,hsr,hle4,hmx4,hb4⟩;have HNA:Hid (Cs 67 #[.slice A4 SH.length c4] w4 fun e w'=>∃g c,e=.returned (.slice (some ⟨g,0,none⟩) (someN PL).length c)∧Rd1 .string w' w'.heap.size (some ⟨g,0,none⟩) (someN PL)∧(someN PL).length≤c∧c≤maxLen∧BW w4 w'):=by
  have h:=names69_any A4 SH w4.heap.size c4 w4 (lr _) (by unfold maxLen;omega) hsr (by rw[HALL.out];exact HNM.out) (by rw[HALL.out];exact HNM9.out)
  rw[HALL.out]at h;exact Lq h
 have HB34:=Lq hb4;clear hsr hle4 hmx4 hb4 af af1 ac ac1 al d0 d1 hWa hW3 hg9;go_wp2_with fail;refine HNA.out.mono ?_;rintro e w5 ⟨gn,cn,rfl,hrd,hln,hcn,hb⟩;obtain⟨NL,hNL⟩:=ex (someN PL);have HNL:=Lq hNL;simp only[hNL]at hrd hln ⊢;have HRDW:Hid (∀W,BW w5 W→Rd1 .string W W.heap.size (some ⟨gn,0,none⟩) NL):=Lq fun W hb=>(hrd.below hb (lr _)).more hb.size
 have HB35:=Lq (bT HB34.out hb);have HLN:Hid (NL.length≤cn∧cn≤maxLen):=Lq ⟨hln,hcn⟩;have hnl1000:NL.length≤1000:=by rw[←hNL];exact lT (tidyN_len _) HNM9.out
 obtain⟨i9,hi9,hz90,hz91,hz92⟩:=info_parts Tryz.info9;clear hrd hb hNL HNA hln hcn;go_wp2_with fail;go_loopw [6,33] (fun v i wr=>∃j:Nat,j≤NL.length∧i=iv j∧Hid (wr.ownsRow w5.heap.size 9 1 v ((NL.take j).filter fun nm=>PL.all fun l=>hasP l nm).length (((NL.take j).filter fun nm=>PL.all fun l=>hasP l nm).map .string))∧Hid (BW w5 wr)) (fun _ i _=>NL.length-(intOf i).toNat)
 case atStart=>exact⟨0,Nat.zero_le _,rfl,Lq (by simp only[List.take_zero,List.filter_nil,List.length_nil,List.map_nil];exact World.ownsRow_nil _ _ _ _),Lq (bR _)⟩
 case round =>
  obtain⟨j,hj,rfl,HRW,HBR⟩:=hrel;have hj0:(0:Int)≤(j:Int):=by omega
  by_cases hlt:j<NL.length
  ·obtain⟨nm,hnm⟩:=gX (l:=NL) (i:=j) hlt;obtain⟨b2,off,hA,_,c0⟩:=(HRDW.out wr HBR.out) j nm hnm;injection hA with hA
   injection hA with e1 e2
   subst e1 e2;rw[Nat.zero_add]at c0;obtain⟨bl,hbl⟩:=ex (anyP (fun s:ShM=>!hasP (psOf s.ms) nm) SH)
   have hall:(PL.all fun l=>hasP l nm)=!bl:=by rw[←hbl,←HPP.out];unfold anyP;rw[List.all_map,Bool.eq_iff_iff];simp only[List.all_eq_true,Bool.not_eq_true',List.any_eq_false,Function.comp_apply];exact⟨fun h s hs=>by simp[h s hs],fun h s hs=>by simpa using h s hs⟩
   have HF:Hid ((NL.take (j+1)).filter (fun nm=>PL.all fun l=>hasP l nm)=(NL.take j).filter (fun nm=>PL.all fun l=>hasP l nm)++(if bl then[]else[nm])):=Lq (by rw[List.take_add_one,hnm,List.filter_append];simp only[Option.toList_some,List.filter_cons,List.filter_nil,hall];cases bl<;>rfl)
   have HFL:Hid (((NL.take j).filter fun nm=>PL.all fun l=>hasP l nm).length≤j):=Lq (lT (List.length_filter_le _ _) (by rw[List.length_take];omega))
   obtain⟨Wa,W6,hWa,hW6,hb6,hqa,hba,hq6⟩:=oneMade wr 9 (.string ⟨#[]⟩) (.string nm);obtain⟨g11,hg11⟩:=ex wr.heap.size;rw[hg11]at hW6 hqa hq6;have HB6:=Lq hb6;have HQ6:=Lq hq6;have af:=hqa.frozen 0;have ac:=hqa.c 0;have al:=hqa.lt;have hq9:=HQ9.out.keep (bT HB35.out (bT HBR.out hb6));have d0:=hq9.c 0;have d1:=hq9.c 1;have HB36:=Lq (bT HB35.out (bT HBR.out hb6));have HBL:=Lq hbl;clear hnm hbl hall hb6 hqa hba hq6 hq9;go_wp2_with fail;refine(HLF.out _ HB36.out).mono ?_;rintro e w7 ⟨A7,c7,rfl,hsr,hle7,hmx7,hb7⟩;have HCN:Hid (Cs 72 #[.slice A7 SH.length c7,.func (.func 73) #[] #[pT g11 0]] w7 (Rt w7 (.bool bl))):=Lq (by rw[←HBL.out];exact con_lost _ A7 SH w7.heap.size c7 _ w7 (by unfold maxLen;omega) (lr _) hsr.rd (fun W m hbm hm=>lost75_any m nm g11 W ((HQ6.out.keep (bT hb7 hbm)).c 0) (((hsr.ok m hm).below hbm (lr _)).more hbm.size)))
   have HB7:=Lq (bT HB6.out hb7);have HQ67:=Lq (HQ6.out.keep hb7);clear hsr hle7 hmx7 hb7 c0 d0 d1 af ac al hWa hW6 hg11;go_wp2_with fail;refine HCN.out.mono ?_;rintro e w8 ⟨rfl,hb⟩;have HB8:=Lq (bT HB7.out hb);have e0:=(HQ67.out.keep hb).c 0;have HRW8:=Lq (own_below HRW.out (bT HB7.out hb));have HB58:=Lq (bT HBR.out (bT HB7.out hb));clear hb;cases bl with
   | true =>
    go_wp2_with fail;go_roundw
    case measure=>simp[intOf];omega
    case rel =>
     refine⟨j+1,by omega,by go_num,Lq ?_,HB58⟩
     rw[HF.out]
     simpa using HRW8.out
   | false =>
    have HAL:=Lq (HRW8.out.alloc (.cells #[.string nm] 9));have hln:=HFL.out;go_wp2_with (at_builtin;refine wpList_append_own _ rfl _ _ 41 rfl w5.heap.size 9 i9 (.string ⟨#[]⟩) 1 16 Tryz.underlying41 hi9 hz90 hz91 hz92 rfl (by decide) _ _ _ rfl HAL.out ⟨w8.heap.size,0,none⟩ 1 1 [.string nm] rfl rfl (one_new _ _ _) ?d2 ?d3 ?d4 ?d5 ?_)
    case d2=>simp[Value.oneCell']
    case d3=>unfold maxLen;omega
    case d4=>omega
    case d5=>have:=HB58.out.size;(try simp only[World.size_alloc]);omega
    intro v9 w20 hown9 hg9 _;have hb9:BW w5 w20:=grownB HAL.out hg9 (lr _) (bA HB58.out _);have HB20:=Lq hb9;have HO9:=Lq hown9;clear hown9 hg9 hb9;go_wp2_with fail;go_roundw
    case measure=>simp[intOf];omega
    case rel =>
     refine⟨j+1,by omega,by go_num,Lq ?_,HB20⟩
     rw[HF.out]
     simpa using HO9.out
  ·obtain rfl:j=NL.length:=by omega
   have hrw:=HRW.out;rw[List.take_of_length_le (lr _)]at hrw;obtain⟨A1,c1,rfl,hrd1,hle1,hmx1⟩:=own1_rd hrw;have HR1:=Lq hrd1;have HL1:Hid (_∧c1≤maxLen):=Lq ⟨hle1,hmx1⟩;clear hrw hrd1 hle1 hmx1;go_wp2_with fail
   go_ret3
   refine⟨A1,some ⟨gn,0,none⟩,c1,cn, ?_, ?_, ?_, ?_,HL1.out.2, ?_,HLN.out.2,bT HB3.out (bT HB35.out HBR.out)⟩
   ·unfold allN;rw[HNL.out];rfl
   ·unfold allN;rw[HNL.out];exact HR1.out
   ·rw[HNL.out];exact HRDW.out _ HBR.out
   ·unfold allN;rw[HNL.out];exact HL1.out.1
   ·rw[HNL.out];exact HLN.out.1
end Go.Proofs.YtigcophcpboanaaGreatDoor
namespace Go.Proofs.YtigcophcpboanaaGreatDoor
open Go.RowKit Go.Shelf
section
variable{nm:ByteArray}{f k:Nat}
attribute [local go_sem] Oper.semAt_some
abbrev lkV(s:ByteArray×Int):Value:=.agg #[.string s.1,iv s.2]
def rowLooks(nm:ByteArray)(f:Nat):List (ByteArray×Int):=(List.range f).map fun(x:Nat)=>(nm,(x:Int))
def allLooks(NL:List ByteArray):List (ByteArray×Int):=NL.flatMap fun nm=>rowLooks nm 41
theorem row_snoc(nm:ByteArray)(f:Nat):rowLooks nm (f+1)=rowLooks nm f++[(nm,(f:Int))]:=by unfold rowLooks;rw[List.range_succ,List.map_append];rfl
theorem looks_snoc{NL:List ByteArray}(h:NL[k]?=some nm):allLooks (NL.take (k+1))=allLooks (NL.take k)++rowLooks nm 41:=by unfold allLooks;rw[List.take_add_one,h];simp
theorem row_pre(nm:ByteArray){g:Nat}(h:f≤g):rowLooks nm f <+: rowLooks nm g:=by
 unfold rowLooks;have e:List.range f=(List.range g).take f:=by rw[List.take_range,Nat.min_eq_left h]
 rw[e,List.map_take];exact List.take_prefix _ _
theorem looks_pre{NL:List ByteArray}(h:NL[k]?=some nm)(hf:f<41):allLooks (NL.take k)++rowLooks nm f++[(nm,(f:Int))] <+: allLooks NL:=by
 rw[List.append_assoc,←row_snoc];have h1:allLooks NL=allLooks (NL.take (k+1))++allLooks (NL.drop (k+1)):=by unfold allLooks;rw[←List.flatMap_append,List.take_append_drop]
 rw[h1,looks_snoc h];exact((List.prefix_append_right_inj _).2 (row_pre nm (by omega))).trans (List.prefix_append _ _)
theorem looks76_any(A:Option Addr)(n cap:Nat)(w:World):Cs 74 #[.slice A n cap] w fun e w' =>
  e=.returned (.func (.func 114) #[] #[pT w.heap.size 0])∧w'=w.alloc (.cells #[.slice A n cap] 132):=by
 go_enter Tryz.func74,Tryz.ntmps74
 go_wp2
 go_ret
 exact⟨rfl,rfl⟩
theorem looks111_iter(tb:Nat)(A:Option Addr)(shs:List ShM)(cap:Nat)(w:World)(htb:w.cell? ⟨tb,0,none⟩=some (.slice A shs.length cap))(hm:shs.length≤maxLen)(H:ShsRd w w.heap.size A shs)(h0:0<(allNms shs).length)(h9:(allNms shs).length≤1000) :
  IterAt 114 #[pT tb 0] lkV (allLooks (tidyN (allNms shs))) (fun _=>True) w:=by
 intro M l m J W hbW hM hJb hY hJ0;refine callsIn_wide.2 ?_;have q0:=kC hbW htb;have HNM:=Lq (names69_all A shs W.heap.size cap W (lr _) hm ((H.below hbW (lr _)).more hbW.size) h0 h9);have hnl:(tidyN (allNms shs)).length≤1000:=lT (tidyN_len _) h9;obtain⟨NL,hNL⟩:=ex (tidyN (allNms shs));rw[hNL]at HNM hnl hY ⊢;have HJB:=Lq hJb;have HY:=Lq hY;have HJ0:=Lq hJ0;have HMM:=Lq hM;clear htb H hM hJb hY hJ0 hNL hbW h0 h9;go_enter Tryz.func114,Tryz.ntmps114
 go_wp2_with fail;refine HNM.out.mono ?_;rintro e w6 ⟨g,c,rfl,hrd,hln,hcm,hb,hgW⟩;have HCL:Hid (∀V,KeepM M w6 V→∀j x,NL[j]?=some x→cA V g j (.string x)):=Lq fun V hV j x hx=>by
  obtain⟨b2,off,hA,_,c0⟩:=hrd j x hx;injection hA with hA
  injection hA with e1 e2
  subst e1 e2;rw[Nat.zero_add]at c0;exact hV.cell c0 (fun hm=>by have:=(HMM.out _ hm).2;omega)
 have HJ6:=Lq (HJB.out [] W w6 HJ0.out hb);have HB6:=Lq hb;have HW6:Hid (0<NL.length→W.heap.size<w6.heap.size):=Lq fun h=>by have:=lt_of_cell (HCL.out w6 (KeepM.refl _ _) 0 NL[0] (gE h));omega
 clear hrd hln hcm hb hgW q0 HNM HJ0;go_wp2_with fail;go_loopw [9] (fun i wr=>∃k:Nat,k≤NL.length∧i=iv k∧Hid (J (allLooks (NL.take k)) wr)∧Hid (KeepM M w6 wr)) (fun i _=>NL.length-(intOf i).toNat)
 case atStart=>exact⟨0,Nat.zero_le _,rfl,HJ6,Lq (KeepM.refl _ _)⟩
 case round =>
  clear HJ6;obtain⟨k,hk,rfl,HJ,HK⟩:=hrel;have hk0:(0:Int)≤(k:Int):=by omega
  by_cases hlt:k<NL.length
  ·obtain⟨nm,hnm⟩:=gX (l:=NL) (i:=k) hlt;have c0:=HCL.out wr HK.out k nm hnm;have HLS:=Lq (looks_snoc hnm);have HPR:Hid (∀f,f<41→allLooks (NL.take k)++rowLooks nm f++[(nm,(f:Int))] <+: allLooks NL):=Lq fun f hf=>looks_pre hnm hf
   have HWK:Hid (∀V,KeepM M w6 V→W.heap.size<V.heap.size):=Lq fun V hV=>lz (HW6.out (by omega)) hV.size
   clear hnm;go_wp2_with fail;clear c0;go_loopw [13] (fun i wr2=>∃f:Nat,f≤41∧i=iv f∧Hid (J (allLooks (NL.take k)++rowLooks nm f) wr2)∧Hid (KeepM M w6 wr2)) (fun i _=>41-(intOf i).toNat)
   case atStart=>exact⟨0,Nat.zero_le _,rfl,Lq (by simpa[rowLooks]using HJ.out),HK⟩
   case round =>
    clear HJ HK;obtain⟨f,hf,rfl,HJ,HK⟩:=hrel;have hf0:(0:Int)≤(f:Int):=by omega
    by_cases hfl:f<41
    ·obtain⟨fn,tmps,assign,body,hy,hR⟩:=HY.out 0 (allLooks (NL.take k)++rowLooks nm f) (nm,(f:Int)) wr HJ.out (HPR.out f hfl) (HWK.out wr HK.out);simp only[lkV]at hy;have HRS:=Lq (row_snoc nm f);go_upto_region 6 with fail
     refine(wpIn_wide (n:=0)).1 ?_
     gi_wp2_with fail
     refine⟨rfl,hR.mono ?_⟩;clear hR hy;rintro e W2 ⟨hk2,rfl,hJ2⟩;have HK2:=Lq (HK.out.trans hk2);have HJ2:=Lq hJ2;clear hk2 hJ2
     gi_wp2_with fail
     go_wp2_with fail;go_roundw
     case measure=>simp[intOf];omega
     case rel=>exact⟨f+1,by omega,by go_num,Lq (by rw[HRS.out,←List.append_assoc];exact HJ2.out),HK2⟩
    ·obtain rfl:f=41:=by omega
     go_wp2_with fail;go_roundw
     case measure=>simp[intOf];omega
     case rel=>exact⟨k+1,by omega,by go_num,Lq (by rw[HLS.out];exact HJ.out),HK⟩
  ·obtain rfl:k=NL.length:=by omega
   have HJ9:Hid (J (allLooks NL) wr):=Lq (by have:=HJ.out;rwa [List.take_length]at this)
   clear HJ;go_wp2_with fail
   go_end0
   exact⟨⟨_,rfl⟩,HJ9.out⟩
end
end Go.Proofs.YtigcophcpboanaaGreatDoor
namespace Go.Proofs.YtigcophcpboanaaGreatDoor
open Go.RowKit
section
variable{nm:ByteArray}{Q:Exit→Act→World→Prop}{fr l0:Int}{gF gL gN:Nat}{zA zB zK zL zN zO zP zR zS zT zC zU zV zW zX zY zZ za zb zc zd zD ze zf zg zh zi zj zk zl zm zn zE zo zp zq zr zs zt zu zv zw zx zF zy zz zAA zAB zAC zAD zAE zAF zAG zAH zAI zAJ zAK zAL zAM zAN zAO zAP zJ:Value}{V:World}
def regionNo2(n:Nat):Code→Option Code
 | .region id ops d=>if id=n then some (.region id ops d)else none
 | .seq a b=>match regionNo2 n a with
  | some c=>some c
  | none=>regionNo2 n b
 | .cond _ a b=>match regionNo2 n a with
  | some c=>some c
  | none=>regionNo2 n b
 | .block _ c=>regionNo2 n c
 | .loop c=>regionNo2 n c
 | .scope c=>regionNo2 n c
 | .rangeFunc _ _ a b=>match regionNo2 n a with
  | some c=>some c
  | none=>regionNo2 n b
 | _=>none
noncomputable def regionOf2(f:Func)(n:Nat):Code:=(f.body.bind (regionNo2 n)).getD .skip
noncomputable def ops27_18:Array Oper:=opsOf (regionOf2 Tryz.f23 18)
theorem reg27_18{m l2 g12:Nat}{n0:ByteArray}{m1 f0:Int}(hne:gN≠gF∧gN≠gL∧gF≠gL∧g12≠gN∧g12≠gF∧g12≠gL)(hN:Blk V gN 9 #[.string n0])(hF:Blk V gF 3 #[iv f0])(hL:Blk V gL 3 #[iv l0])(hg:Blk V g12 144 #[.string nm,iv fr])(hQ:∀u58 u59 u60 u61 u62 wx,(∃V0,BW V V0∧wx=((V0.setCell ⟨gN,0,none⟩ (.string nm)).setCell ⟨gF,0,none⟩ (iv fr)).setCell ⟨gL,0,none⟩ (iv m1))→Q .normal ⟨#[zA,zB,zC,zD,zE,zF,.pointer (some ⟨gN,0,none⟩),.pointer (some ⟨gF,0,none⟩),.pointer (some ⟨gL,0,none⟩),zJ,zK,zL,.pointer (some ⟨g12,0,none⟩),zN,zO,zP,iv m1,zR,zS,zT,zU,zV,zW,zX,zY,zZ,za,zb,zc,zd,ze,zf,zg,zh,zi,zj,zk,zl,zm,zn,zo,zp,zq,zr,zs,zt,zu,zv,zw,zx,zy,zz,zAA,zAB,zAC,zAD,zAE,zAF,u58,u59,u60,u61,u62,zAL,zAM,zAN,zAO,zAP],[]⟩ wx) :
  (regionOf2 Tryz.f23 18).wpIn (Fence.wide.inRound l2) m Tryz.prog Q ⟨#[zA,zB,zC,zD,zE,zF,.pointer (some ⟨gN,0,none⟩),.pointer (some ⟨gF,0,none⟩),.pointer (some ⟨gL,0,none⟩),zJ,zK,zL,.pointer (some ⟨g12,0,none⟩),zN,zO,zP,iv m1,zR,zS,zT,zU,zV,zW,zX,zY,zZ,za,zb,zc,zd,ze,zf,zg,zh,zi,zj,zk,zl,zm,zn,zo,zp,zq,zr,zs,zt,zu,zv,zw,zx,zy,zz,zAA,zAB,zAC,zAD,zAE,zAF,zAG,zAH,zAI,zAJ,zAK,zAL,zAM,zAN,zAO,zAP],[]⟩ V:=by
 have HS:Hid (∀W,BW V W→cA W g12 0 (.string nm)∧cA W g12 1 (iv fr)):=Lq fun W hb=>have k:=hg.keep hb;⟨k.c 0,k.c 1⟩
 have HN:=Lq hN;have HF:=Lq hF;have HL:=Lq hL;have HQ:=Lq hQ;have HB0:=Lq (belowDq (bR V));obtain⟨n1,n2,n3,n4,n5,n6⟩:=hne;clear hQ hN hF hL hg;have e:regionOf2 Tryz.f23 18=Code.region 18 ops27_18 true:=by kernel_rfl
 rw[e];refine wpIn_region_lift (S:=(fun W=>cA W g12 0 (.string nm)∧cA W g12 1 (iv fr))) (by kernel_rfl) (by kernel_rfl) ?_
 have hHeld:=HS.out _ HB0.out;have hsz:ops27_18.size=8:=by kernel_rfl
 have hrep:Array.replicate 8 false=#[false,false,false,false,false,false,false,false]:=by kernel_rfl
 rw[hsz,hrep];clear e hsz hrep;generalize V.drew=V0 at HB0 hHeld ⊢;refine tk 0 (.pointer (some ⟨g12,0,none⟩)) ?_;refine tk 1 (.string nm) ?_;refine tk 2 (.pointer (some ⟨g12,1,none⟩)) ?_;refine tk 3 (iv fr) ?_;refine tk 4 (iv m1) ?_;have kN:=HN.out.keep HB0.out;have kF:=HF.out.keep HB0.out;have kL:=HL.out.keep HB0.out;refine rd1 5 fun K' hK=>?_
 have a0:=kN.c 0;have a1:=kN.frozen 0;have a2:=kN.lt;go_simp;have hS1:(fun W=>cA W g12 0 (.string nm)∧cA W g12 1 (iv fr)) (V0.setCell ⟨gN,0,none⟩ (.string nm)):=⟨keepSet hHeld.1 n4,keepSet hHeld.2 n4⟩
 have kF1:=kF.far (p:=⟨gN,0,none⟩) (Ne.symm n1) (.string nm);have kL1:=kL.far (p:=⟨gN,0,none⟩) (Ne.symm n2) (.string nm);refine hK.out _ _ hS1 (fun hHeld=>?_)
 clear hK a0 a1 a2;refine rd1 6 fun K' hK=>?_
 have a0:=kF1.c 0;have a1:=kF1.frozen 0;have a2:=kF1.lt;go_simp;have hS2:(fun W=>cA W g12 0 (.string nm)∧cA W g12 1 (iv fr)) ((V0.setCell ⟨gN,0,none⟩ (.string nm)).setCell ⟨gF,0,none⟩ (iv fr)):=⟨keepSet hS1.1 n5,keepSet hS1.2 n5⟩
 have kL2:=kL1.far (p:=⟨gF,0,none⟩) (Ne.symm n3) (iv fr);refine hK.out _ _ hS2 (fun hHeld=>?_)
 clear hK a0 a1 a2;refine rd1 7 fun K' hK=>?_
 have a0:=kL2.c 0;have a1:=kL2.frozen 0;have a2:=kL2.lt;go_simp;refine hK.out _ _ ⟨keepSet hS2.1 n6,keepSet hS2.2 n6⟩ (fun hHeld=>?_)
 clear hK a0 a1 a2;refine wpAnyH_done (by kernel_rfl) ?_ _
 exact(HQ.out _ _ _ _ _ _ ⟨_,HB0.out,rfl⟩)
noncomputable def ops27_21:Array Oper:=opsOf (regionOf2 Tryz.f23 21)
theorem reg27_21{ds}{zM zQ:Value}(hne:gN≠gF∧gN≠gL∧gF≠gL)(hN:Blk V gN 9 #[.string nm])(hF:Blk V gF 3 #[iv fr])(hL:Blk V gL 3 #[iv l0])(hQ:∀u65 u66 u67 wx,(∃V0,BW V V0∧wx=((V0.setCell ⟨gN,0,none⟩ (.string nm)).setCell ⟨gF,0,none⟩ (iv fr)).setCell ⟨gL,0,none⟩ (iv l0))→Q .normal ⟨#[zA,zB,zC,zD,zE,zF,.pointer (some ⟨gN,0,none⟩),.pointer (some ⟨gF,0,none⟩),.pointer (some ⟨gL,0,none⟩),iv 0,zK,zL,zM,zN,zO,zP,zQ,zR,zS,zT,zU,zV,zW,zX,zY,zZ,za,zb,zc,zd,ze,zf,zg,zh,zi,zj,zk,zl,zm,zn,zo,zp,zq,zr,zs,zt,zu,zv,zw,zx,zy,zz,zAA,zAB,zAC,zAD,zAE,zAF,zAG,zAH,zAI,zAJ,zAK,zAL,zAM,u65,u66,u67],ds⟩ wx) :
  (regionOf2 Tryz.f23 21).wp Tryz.prog Q ⟨#[zA,zB,zC,zD,zE,zF,.pointer (some ⟨gN,0,none⟩),.pointer (some ⟨gF,0,none⟩),.pointer (some ⟨gL,0,none⟩),zJ,zK,zL,zM,zN,zO,zP,zQ,zR,zS,zT,zU,zV,zW,zX,zY,zZ,za,zb,zc,zd,ze,zf,zg,zh,zi,zj,zk,zl,zm,zn,zo,zp,zq,zr,zs,zt,zu,zv,zw,zx,zy,zz,zAA,zAB,zAC,zAD,zAE,zAF,zAG,zAH,zAI,zAJ,zAK,zAL,zAM,zAN,zAO,zAP],ds⟩ V:=by
 have HS:Hid (∀W,BW V W→cA W gN 0 (.string nm)∧cA W gF 0 (iv fr)∧cA W gL 0 (iv l0)):=Lq fun W hb=>⟨(hN.keep hb).c 0,(hF.keep hb).c 0,(hL.keep hb).c 0⟩
 have HN:=Lq hN;have HF:=Lq hF;have HL:=Lq hL;have HQ:=Lq hQ;have HB0:=Lq (belowDq (bR V));obtain⟨n1,n2,n3⟩:=hne;clear hQ hN hF hL;refine go0 (ops:=ops27_21) (r:=21) (n:=7) (S:=(fun W=>cA W gN 0 (.string nm)∧cA W gF 0 (iv fr)∧cA W gL 0 (iv l0))) (fun W hb=>HS.out W hb) fun V0 HB0 hHeld=>?_
 refine tk 0 (.string nm) ?_;refine tk 1 (iv fr) ?_;refine tk 2 (iv l0) ?_;have kN:=HN.out.keep HB0.out;have kF:=HF.out.keep HB0.out;have kL:=HL.out.keep HB0.out;have kF1:=kF.far (p:=⟨gN,0,none⟩) (Ne.symm n1) (.string nm);have kL1:=kL.far (p:=⟨gN,0,none⟩) (Ne.symm n2) (.string nm);have kN1:Blk (V0.setCell ⟨gN,0,none⟩ (.string nm)) gN 9 #[.string nm]:=by
  have h:=kN.set_ 0 (.string nm)
  simpa using h
 have kL2:=kL1.far (p:=⟨gF,0,none⟩) (Ne.symm n3) (iv fr);have kN2:=kN1.far (p:=⟨gF,0,none⟩) n1 (iv fr);have kF2:Blk ((V0.setCell ⟨gN,0,none⟩ (.string nm)).setCell ⟨gF,0,none⟩ (iv fr)) gF 3 #[iv fr]:=by
  have h:=kF1.set_ 0 (iv fr)
  simpa using h
 have kN3:=kN2.far (p:=⟨gL,0,none⟩) n2 (iv l0);have kF3:=kF2.far (p:=⟨gL,0,none⟩) n3 (iv l0);have kL3:Blk (((V0.setCell ⟨gN,0,none⟩ (.string nm)).setCell ⟨gF,0,none⟩ (iv fr)).setCell ⟨gL,0,none⟩ (iv l0)) gL 3 #[iv l0]:=by
  have h:=kL2.set_ 0 (iv l0)
  simpa using h
 refine rd1 3 fun K' hK=>?_
 have a0:=kN.c 0;have a1:=kN.frozen 0;have a2:=kN.lt;go_simp;refine hK.out _ _ ⟨kN1.c 0,kF1.c 0,kL1.c 0⟩ (fun hHeld=>?_)
 clear hK a0 a1 a2;refine rd1 4 fun K' hK=>?_
 have a0:=kF1.c 0;have a1:=kF1.frozen 0;have a2:=kF1.lt;go_simp;refine hK.out _ _ ⟨kN2.c 0,kF2.c 0,kL2.c 0⟩ (fun hHeld=>?_)
 clear hK a0 a1 a2;refine rd1 5 fun K' hK=>?_
 have a0:=kL2.c 0;have a1:=kL2.frozen 0;have a2:=kL2.lt;go_simp;refine hK.out _ _ ⟨kN3.c 0,kF3.c 0,kL3.c 0⟩ (fun hHeld=>?_)
 clear hK a0 a1 a2;refine tk 6 (iv 0) ?_;refine wpAnyH_done (by kernel_rfl) ?_ _
 exact NoPanic.normal (HQ.out _ _ _ _ ⟨_,HB0.out,rfl⟩)
end
end Go.Proofs.YtigcophcpboanaaGreatDoor
