/- hull: Above (printed by mkHB7.py). hull: Above as a whole (printed by mkHB8.py). hull: .. -/
import Derived.Test.YtigcophcpboanaaGreatDoorM14
set_option maxRecDepth 1000000
set_option maxHeartbeats 0
namespace Go.Proofs.YtigcophcpboanaaGreatDoor
open Go.RowKit
theorem idx_over(P:ByteArray→Bool)(A:Option Addr)(ms:List ByteArray)(B cap:Nat)(v0 v1:Value)(w:World)(hm:ms.length≤maxLen)(hB:B≤w.heap.size)(H:Rd1 .string w B A ms)(hcl:∀W m,BW w W→m∈ms→Cs 54 #[.string m,v0,v1] W (Rt W (.bool (P m)))) :
  Cs 103 #[.slice A ms.length cap,.func (.func 54) #[] #[v0,v1]] w (Rt w (iv (idxI P (ms)))):=by
 unfold maxLen at hm;have HH:=Lq H;have HCL:=Lq hcl;clear H hcl;go_enter Tryz.func103,Tryz.ntmps103
 go_wp2
 go_loopw [8] (fun i wr=>∃k:Nat,k≤ms.length∧i=iv k∧Hid (anyTo P ms k=false)∧Hid (BW w wr)) (fun i _=>ms.length-(intOf i).toNat)
 case atStart=>exact⟨0,Nat.zero_le _,rfl,Lq rfl,Lq (bR _)⟩
 case round =>
  obtain⟨k,hk,rfl,HN,HBR⟩:=hrel;by_cases hlt:k<ms.length
  ·obtain⟨m,hx⟩:=gX (l:=ms) (i:=k) hlt;obtain⟨b,off,rfl,_,c0⟩:=(HH.out.below HBR.out hB) k m hx;have HC:=Lq (HCL.out wr m HBR.out (mG ⟨k,hx⟩));have HX:Hid (ms[k]?=some m):=Lq hx;clear hx HCL;obtain⟨bp,hbp⟩:=ex (P m);have HBP:=Lq hbp;simp only[hbp]at HC;clear hbp;go_wp2_with fail;refine HC.out.mono ?_;rintro e w1 ⟨rfl,hb⟩;have HB1:=Lq (bT HBR.out hb);clear hb c0;cases bp
   ·go_wp2_with fail;go_roundw
    case rel=>exact⟨k+1,by omega,by go_num,Lq (anyTo_snoc HX.out HN.out HBP.out),HB1⟩
    case measure=>simp[intOf];omega
   ·go_wp2_with fail;go_ret
    exact⟨ret_int (idxI_found HX.out HBP.out HN.out).1.symm,HB1.out⟩
  ·go_wp2_with fail;go_ret
   refine⟨ret_int (idxI_no ?_).symm,HBR.out⟩;have hn:=HN.out;unfold anyTo at hn;rw[List.take_of_length_le (by omega)]at hn
   exact hn
theorem con_over(P:ByteArray→Bool)(A:Option Addr)(ms:List ByteArray)(B cap:Nat)(v0 v1:Value)(w:World)(hm:ms.length≤maxLen)(hB:B≤w.heap.size)(H:Rd1 .string w B A ms)(hcl:∀W m,BW w W→m∈ms→Cs 54 #[.string m,v0,v1] W (Rt W (.bool (P m)))) :
  Cs 53 #[.slice A ms.length cap,.func (.func 54) #[] #[v0,v1]] w (Rt w (.bool (anyP P (ms)))):=by
 have HI:=Lq (idx_over P A ms B cap v0 v1 w hm hB H hcl);clear H hcl;obtain⟨r,hr⟩:=ex (idxI P ms);rw[hr]at HI;have hd:decide (0≤r)=anyP P ms:=by
  unfold anyP;cases h:ms.any P
  ·rw[←hr,idxI_no h];rfl
  ·have:=idxI_yes h;rw[hr]at this
   simpa using this
 have HD:=Lq hd;clear hr hd;go_enter Tryz.func53,Tryz.ntmps53
 go_wp2_with fail;refine HI.out.mono ?_;rintro e w1 ⟨rfl,hb⟩;go_wp2_with fail;go_ret
 exact⟨ret_bool HD.out,hb⟩
structure OverAt(w:World)(gn go gs:Nat)(s:ByteArray)(A:Option Addr)(cap:Nat)(ms:List HuM):Prop where
 nm:w.cell? ⟨gn,0,none⟩=some (.string s)
 fn:w.cell? ⟨go,0,none⟩=some (.func (.func 51) #[] #[pT gn 0,pT go 0,pT gs 0])
 sh:w.cell? ⟨gs,0,none⟩=some (.slice A ms.length cap)
 sl:SlM w w.heap.size A cap ms
theorem OverAt.below{w W:World}{gn go gs cap:Nat}{s:ByteArray}{A:Option Addr}{ms:List HuM}(h:OverAt w gn go gs s A cap ms)(hb:BW w W):OverAt W gn go gs s A cap ms :=
 ⟨kC hb h.nm,kC hb h.fn,kC hb h.sh,(h.sl.below hb (lr _)).more hb.size⟩
theorem over53_any(gn go gs cap:Nat)(s o:ByteArray)(A:Option Addr)(ms:List HuM)(j:Nat)(y:HuM)(bj:Bool)(w:World)(h:OverAt w gn go gs s A cap ms)(hj:idxP (psOf ms) o=j)(hh:hasP (psOf ms) o=true)(hy:ms[j]?=some y)(hc:∀W,BW w W→Cs 51 #[mV y,pT gn 0,pT go 0,pT gs 0] W (Rt W (.bool bj))) :
  Cs 54 #[.string o,pT go 0,pT gs 0] w (Rt w (.bool bj)):=by
 obtain⟨hp,hl,_⟩:=posP_at hh;rw[hj]at hp hl;have hl2:j<ms.length:=by simpa using hl
 have hmx:=h.sl.max;have hle:=h.sl.le;obtain⟨b,off,rfl,hbB,hMy,c0,c1,c2,c3,c4,c5,c6⟩:=h.sl.rd.at hy;have HC:=Lq hc;have HF:Hid (∀W,BW w W→Cs 50 #[pT gs 0,.string o] W (Rt W (iv (j:Int)))):=Lq fun W hb=>by have h2:=h.below hb;have:=find49_any (some ⟨b,off,none⟩) ms W.heap.size cap gs o W (lr _) (lT h2.sl.le h2.sl.max) h2.sl.rd h2.sh;rw[hp]at this;exact this
 obtain⟨⟨yn,yk,yf,yl,yon,yw,yz⟩,yA,yc⟩:=y;have hfn:=h.fn;have hsh:=h.sh;have HS:Hid (∀W,BW w W→cA W go 0 (.func (.func 51) #[] #[pT gn 0,pT go 0,pT gs 0])∧cA W gs 0 (.slice (some ⟨b,off,none⟩) ms.length cap)∧cA W b (off+j*7) (.string yn)∧cA W b (off+j*7+1) (iv yk)∧cA W b (off+j*7+2) (iv yf)∧cA W b (off+j*7+3) (iv yl)∧cA W b (off+j*7+4) (.slice yA yon.length yc)∧cA W b (off+j*7+5) (iv yw)∧cA W b (off+j*7+6) (iv yz)):=Lq fun W hb=>⟨kC hb hfn,kC hb hsh,kC hb c0,kC hb c1,kC hb c2,kC hb c3,kC hb c4,kC hb c5,kC hb c6⟩
 have hj0:(0:Int)≤(j:Int):=by omega
 have hj1:(j:Int)<(ms.length:Int):=by omega
 simp only[maxLen]at hmx;have hm9:ms.length≤9223372036854775807:=by omega
 simp only at c0 c1 c2 c3 c4 c5 c6;clear h hc hp hl hj hh hy hMy hbB;go_enter Tryz.func54,Tryz.ntmps54
 go_wp2_with fail;go_region_held3 (fun W=>cA W go 0 (.func (.func 51) #[] #[pT gn 0,pT go 0,pT gs 0])∧cA W gs 0 (.slice (some ⟨b,off,none⟩) ms.length cap)∧cA W b (off+j*7) (.string yn)∧cA W b (off+j*7+1) (iv yk)∧cA W b (off+j*7+2) (iv yf)∧cA W b (off+j*7+3) (iv yl)∧cA W b (off+j*7+4) (.slice yA yon.length yc)∧cA W b (off+j*7+5) (iv yw)∧cA W b (off+j*7+6) (iv yz)) (first | exact HS.out _ (bT (u0 hb7) hb8) | exact HS.out _ (u0 hb7) | exact HS.out _ (belowDr (bR _))) ((first | (go_at_call 50;((with_reducible refine(HF.out _ (belowDr (bR _))).mono ?_);rintro e w7 ⟨rfl,hb7⟩)) | (go_at_call 51;((with_reducible refine(HC.out _ (u0 hb7)).mono ?_);rintro e w8 ⟨rfl,hb8⟩))))
 go_wp2_with fail;go_ret
 exact⟨rfl,bT (u0 hb7) hb8⟩
theorem over50_any(gn go gs cap:Nat)(s:ByteArray)(A:Option Addr)(ms:List HuM)(w:World)(h:OverAt w gn go gs s A cap ms)(hok:ShipOk (psOf ms)):∀(n i:Nat) (m:HuM),i<n→ms[i]?=some m→∀W,BW w W→Cs 51 #[mV m,pT gn 0,pT go 0,pT gs 0] W (Rt W (.bool (overAt (psOf ms) s i))):=by
 intro n;induction n with
 | zero=>intro i m hi;omega
 | succ n ih =>
  intro i m hi hm W hbW;have hw:=h.below hbW;have hM:=hw.sl.rd.ok m (mG ⟨i,hm⟩);have hov:=overAt_eq (s:=s) (ps_at hm) (fun o ho=>(hok.below (ps_at hm) ho).1)
  obtain⟨W1,hW1,hb1,hz1,hq⟩:=mBox W m;obtain⟨g4,hg4⟩:=ex W.heap.size;rw[hg4]at hq;obtain⟨bs,hbs⟩:=ex (standsB m.p s);obtain⟨ba,hba⟩:=ex (anyP (fun o=>overAt (psOf ms) s (idxP (psOf ms) o)) m.p.on)
  have hov2:overAt (psOf ms) s i=(bs||ba):=by rw[hov,hbs,←hba];rfl
  rw[hov2];have HON:Hid (∀X,BW W1 X→Cs 52 #[mV m,.string s] X (Rt X (.bool bs))):=Lq fun X hb=>hbs▸on51_any m s X.heap.size X (lr _) ((hM.below (bT hb1 hb) (lr _)).more (bT hb1 hb).size)
  have HCO:Hid (∀X,BW W1 X→Cs 53 #[.slice m.A m.p.on.length m.cap,.func (.func 54) #[] #[pT go 0,pT gs 0]] X (Rt X (.bool ba))):=Lq fun X hb=>by
   have hx:=h.below (bT hbW (bT hb1 hb));rw[←hba];refine con_over (fun o=>overAt (psOf ms) s (idxP (psOf ms) o)) m.A m.p.on X.heap.size m.cap _ _ X (lT hM.le hM.cm) (lr _) ((hM.below (bT hb1 hb) (lr _)).more (bT hb1 hb).size).on (fun X2 o hb2 ho=>?_)
   obtain⟨hlt,y,hy,hyn,_⟩:=hok.below (ps_at hm) ho;have hh:hasP (psOf ms) o=true:=hasP_iff.2 ⟨y,mG ⟨_,hy⟩,hyn⟩;obtain⟨y2,hy2⟩:∃y2,ms[idxP (psOf ms) o]?=some y2:=by
    rw[List.getElem?_map]at hy;cases hc:ms[idxP (psOf ms) o]? with
    | none=>rw[hc]at hy;cases hy
    | some y2=>exact⟨y2,rfl⟩
   exact over53_any gn go gs cap s o A ms _ y2 _ X2 (hx.below hb2) rfl hh hy2 (fun X3 hb3=>ih _ y2 (by omega) hy2 X3 (bT (bT hbW (bT hb1 hb)) (bT hb2 hb3)))
  have HNM:Hid (∀X,BW W1 X→cA X gn 0 (.string s)):=Lq fun X hb=>(h.below (bT hbW (bT hb1 hb))).nm
  have HQ:=Lq hq;have HB1:=Lq hb1;have x0:=HNM.out _ (bR _);obtain⟨⟨yn,yk,yf,yl,yon,yw,yz⟩,yA,yc⟩:=m;obtain⟨d0,d1,d2,d3,d4,d5,d6⟩:=hq.c7;clear ih hw hM hov hov2 hbs hba hb1 hz1 hq hm hi;clear h hok hbW;go_enter Tryz.func51,Tryz.ntmps51
  go_wp2_with fail;refine(HON.out _ (bR _)).mono ?_;rintro e w2 ⟨rfl,hb2⟩;have HB2:=Lq hb2;have d4:=(HQ.out.keep hb2).c 4;clear hb2;cases bs with
  | true =>
   go_wp2_with fail;go_ret
   exact⟨rfl,bT HB1.out HB2.out⟩
  | false =>
   go_wp2_with fail;refine(HCO.out _ HB2.out).mono ?_;rintro e w3 ⟨rfl,hb3⟩;go_wp2_with fail;go_ret
   exact⟨ret_bool (by simp),bT HB1.out (bT HB2.out hb3)⟩
def AbovePost(ms:List HuM)(cs:List HcM)(day:Int)(s:ByteArray)(w:World)(e:Ending)(w':World):Prop:=∃(v:Value) (r:Int) (n:Nat) (l:List ByteArray),e=.returned (.tuple #[v,iv r])∧BW w w'∧w'.ownsRow w.heap.size 9 1 v n (l.map .string)∧n=l.length∧(r=0↔(PlanOk (psOf ms) (csOf cs)∧inB 0 40000 day=true)∧hasP (shipOn day (psOf ms) (csOf cs)) s=true)∧(r=0→l=aboveL (shipOn day (psOf ms) (csOf cs)) s (shipOn day (psOf ms) (csOf cs)).length)∧(r≠0→l=[]∧(r=4∨¬(PlanOk (psOf ms) (csOf cs)∧inB 0 40000 day=true)))
theorem aboveNo{ms:List HuM}{cs:List HcM}{day:Int}{s:ByteArray}{w w':World}{r:Int}(h0:r≠0)(hP:¬((PlanOk (psOf ms) (csOf cs)∧inB 0 40000 day=true)∧hasP (shipOn day (psOf ms) (csOf cs)) s=true))(h4:r=4∨¬(PlanOk (psOf ms) (csOf cs)∧inB 0 40000 day=true))(hb:BW w w'):AbovePost ms cs day s w (.returned (.tuple #[.slice none 0 0,iv r])) w' :=
 ⟨.slice none 0 0,r,0,[],rfl,hb,World.ownsRow_nil _ _ _ _,rfl,⟨fun h=>absurd h h0,fun h=>absurd h hP⟩,fun h=>absurd h h0,fun _=>⟨rfl,h4⟩⟩
theorem above9_any(A C:Option Addr)(ms:List HuM)(cs:List HcM)(B cap capc:Nat)(day:Int)(s:ByteArray)(w:World)(hB:B≤w.heap.size)(H:SlM w B A cap ms)(HC:SlC w B C capc cs)(HW:∀c∈cs,Lit.wf (.int .i64 c.what)=true) :
  Cs 10 #[.agg #[.slice A ms.length cap,.slice C cs.length capc],iv day,.string s] w (AbovePost ms cs day s w):=by
 obtain⟨W1,hW1⟩:=ex (w.alloc (.cells #[.slice A ms.length cap,.slice C cs.length capc] 27));obtain⟨W2,hW2⟩:=ex (W1.alloc (.cells #[.string s] 9));obtain⟨gp,hgp⟩:=ex w.heap.size;obtain⟨g5,hg5⟩:=ex W1.heap.size;have zB:W1.heap.size=w.heap.size+1:=by rw[←hW1];simp
 have b1:BW w W1:=by rw[←hW1];exact bA (bR w) _
 have b2:BW W1 W2:=by rw[←hW2];exact bA (bR _) _
 have q1:Blk W1 gp 27 #[.slice A ms.length cap,.slice C cs.length capc]:=by rw[←hW1,←hgp];exact Blk.new w 27 _
 have q2:Blk W2 g5 9 #[.string s]:=by rw[←hW2,←hg5];exact Blk.new W1 9 _
 have q2p:=q1.keep b2;have b3:=bT b1 b2;have HOP:Hid (Cs 44 #[.agg #[.slice A ms.length cap,.slice C cs.length capc],iv day] W2 (OpenPost ms cs day W2)):=Lq (open47_any A C ms cs B cap capc day W2 (lT hB b3.size) (H.below b3 hB) (HC.below b3 hB) HW);have HB3:=Lq b3;have HQ5:=Lq q2;have x0:=q2p.c 0;have x1:=q2p.c 1;clear H HC HW b1 b2 b3 q1 q2 q2p zB;go_enter Tryz.func10,Tryz.ntmps10
 go_wp2_with fail;refine HOP.out.mono ?_;rintro e w3 ⟨r,Ax,n,c,rfl,hb,hiff,hyes⟩;obtain⟨Wa,W4,hWa,hW4,hb4,hqa,hba,hq4⟩:=oneMade w3 102 (.slice none 0 0) (.slice Ax n c);obtain⟨g8,hg8⟩:=ex w3.heap.size;rw[hg8]at hW4 hqa hq4;have HB34:=Lq hb4;have HIFF:=Lq hiff;have HYES:=Lq hyes;have HQ8:=Lq hq4;have HQ54:=Lq ((HQ5.out.keep hb).keep hb4);have HB4:=Lq (bT HB3.out (bT hb hb4));have af:=hqa.frozen 0;have ac:=hqa.c 0;have al:=hqa.lt;clear hb hiff hyes hb4 hqa hba hq4 x0 x1;by_cases hr:r=0
 ·subst hr;have m0:=HQ8.out.c 0;have m5:=HQ54.out.c 0;obtain⟨out,rfl,hps,hsl⟩:=HYES.out rfl;have HPL:=Lq (HIFF.out.1 rfl);have hso:ShipOk (psOf out):=hps▸shipOn_ok HPL.out.1 day;have h12:out.length≤12:=by
   have h:=hso.len
   simpa using h
  have HSO:=Lq hso;have HPS:=Lq hps;have HSL:=Lq ((hsl.below HB34.out (lr _)).more HB34.out.size);obtain⟨ri,hri⟩:=ex (posP (psOf out) s);have HF:Hid (∀W,BW W4 W→Cs 50 #[pT g8 0,.string s] W (Rt W (iv ri))):=Lq fun W hb=>by have h2:=(HSL.out.below hb (lr _)).more hb.size;exact hri▸find49_any Ax out W.heap.size c g8 s W (lr _) (lT h2.le h2.max) h2.rd ((HQ8.out.keep hb).c 0)
  have KR:=Lq hri;clear hps hsl hso hri HYES HIFF;go_wp2_with fail;refine(HF.out _ (bR _)).mono ?_;rintro e w5 ⟨rfl,hb⟩;have HB5:=Lq hb;clear hb af ac al m0 m5 hWa hW4 hg8 hW1 hW2 hgp hg5;have HB05:=Lq (bT HB4.out HB5.out);by_cases hr0:ri<0
  ·go_wp2_with fail
   go_ret2
   refine aboveNo (by decide) (fun h=>?_) (.inl rfl) HB05.out
   have h1:=posP_neg.1 (by rw[KR.out];exact hr0:posP (psOf out) s<0)
   rw[←HPS.out,h1]at h;cases h.2
  ·have hh:hasP (psOf out) s=true:=by
    cases h:hasP (psOf out) s with
    | true=>rfl
    | false=>have:=posP_neg.2 h;rw[KR.out]at this;exact absurd this hr0
   have HH:=Lq hh;obtain⟨Wb,W6,hWb,hW6,hb6,hqb,hbb,hq6⟩:=oneMade w5 110 .nilFunc (.func (.func 51) #[] #[pT g5 0,pT w5.heap.size 0,pT g8 0]);obtain⟨g9,hg9⟩:=ex w5.heap.size;rw[hg9]at hW6 hqb hq6;have HB6:=Lq hb6;have hb56:=bT HB5.out hb6;have HQ8':=Lq (HQ8.out.keep hb56);have HQ9:=Lq hq6;have HOV:Hid (OverAt W6 g5 g9 g8 s Ax c out):=Lq ⟨(HQ54.out.keep hb56).c 0,hq6.c 0,(HQ8.out.keep hb56).c 0,(HSL.out.below hb56 (lr _)).more hb56.size⟩;have af:=hqb.frozen 0;have ac:=hqb.c 0;have al:=hqb.lt;have m8:=HQ8'.out.c 0;have HB06:=Lq (bT HB4.out hb56);clear hh hb6 hqb hbb hq6 hb56;obtain⟨i9,hi9,hz90,hz91,hz92⟩:=info_parts Tryz.info9;go_wp2_with fail;clear af ac al m8 hWb hW6 hg9;go_loopw [6,31] (fun v i wr=>∃k:Nat,k≤out.length∧i=iv k∧Hid (wr.ownsRow W6.heap.size 9 1 v (aboveL (psOf out) s k).length ((aboveL (psOf out) s k).map .string))∧Hid (BW W6 wr)) (fun _ i _=>out.length-(intOf i).toNat)
   case atStart=>exact⟨0,Nat.zero_le _,rfl,Lq (World.ownsRow_nil _ _ _ _),Lq (bR _)⟩
   case round =>
    obtain⟨k,hk,rfl,HRW,HBR⟩:=hrel;have hk0:(0:Int)≤(k:Int):=by omega
    by_cases hlt:k<out.length
    ·obtain⟨y,hy⟩:=gX (l:=out) (i:=k) hlt;have hov:=HOV.out.below HBR.out;obtain⟨b,off,hA,hbB,hMy,c0,c1,c2,c3,c4,c5,c6⟩:=hov.sl.rd.at hy;have hsu:=aboveL_succ (s:=s) (ps_at hy);obtain⟨bo,hbo⟩:=ex (overAt (psOf out) s k);have HCO:Hid (∀W,BW wr W→Cs 51 #[mV y,pT g5 0,pT g9 0,pT g8 0] W (Rt W (.bool bo))):=Lq fun W hb=>hbo▸over50_any g5 g9 g8 c s Ax out W6 HOV.out HSO.out (k+1) k y (by omega) hy W (bT HBR.out hb)
     rw[hbo]at hsu;have HSU:=Lq hsu;have HLN:Hid ((aboveL (psOf out) s k).length≤k):=Lq (by unfold aboveL;exact lT (List.length_filterMap_le _ _) (by simp))
     have hfn:=(HQ9.out.keep HBR.out).c 0;obtain⟨⟨yn,yk,yf,yl,yon,yw,yz⟩,yA,yc⟩:=y;subst hA;simp only at c0 c1 c2 c3 c4 c5 c6 HCO;obtain⟨Wc,W7,hWc,hW7,hb7,hqc,hbc,hq7⟩:=partMade wr yn yk yf yl yw yz yA yc yon.length;obtain⟨g2,hg2⟩:=ex wr.heap.size;rw[hg2]at hW7 hqc hq7;have HB7:=Lq hb7;have HQ7:=Lq hq7;obtain⟨f0,f1,f2,f3,f4,f5,f6⟩:=hqc.f7;obtain⟨e0,e1,e2,e3,e4,e5,e6⟩:=hqc.c7;have el:=hqc.lt;obtain⟨d0,d1,d2,d3,d4,d5,d6⟩:=hq7.c7;have hfn7:=kC hb7 hfn;clear hMy hy hb7 hqc hbc hq7 hov hbo hsu hbB;go_wp2_with fail;refine(HCO.out _ HB7.out).mono ?_;rintro e w8 ⟨rfl,hb8⟩;have HB8:=Lq (bT HB7.out hb8);have d0:=(HQ7.out.keep hb8).c 0;have HRW8:=Lq (own_below HRW.out HB8.out);have HB68:=Lq (bT HBR.out HB8.out);clear hb8 c0 c1 c2 c3 c4 c5 c6 d1 d2 d3 d4 d5 d6 e0 e1 e2 e3 e4 e5 e6 f0 f1 f2 f3 f4 f5 f6 el hWc hW7 hg2 hfn hfn7;cases bo with
     | true =>
      have HAL:=Lq (HRW8.out.alloc (.cells #[.string yn] 9));have hln:=HLN.out;go_wp2_with (at_builtin;refine wpList_append_own _ rfl _ _ 41 rfl W6.heap.size 9 i9 (.string ⟨#[]⟩) 1 16 Tryz.underlying41 hi9 hz90 hz91 hz92 rfl (by decide) _ _ _ rfl HAL.out ⟨w8.heap.size,0,none⟩ 1 1 [.string yn] rfl rfl ?d1 ?d2 ?d3 ?d4 ?d5 ?_)
      case d1=>exact one_new _ _ _
      case d2=>simp[Value.oneCell']
      case d3=>unfold maxLen;omega
      case d4=>omega
      case d5=>have:=HB68.out.size;simp only[World.size_alloc];omega
      intro v9 w9 hown9 hg9 _;have hb9:BW W6 w9:=grownB HAL.out hg9 (lr _) (bA HB68.out _);have HB9:=Lq hb9;have HO9:=Lq hown9;clear hown9 hg9 hb9 d0;go_wp2_with fail;go_roundw
      case measure=>simp[intOf];omega
      case rel =>
       refine⟨k+1,by omega,by go_num,Lq ?_,HB9⟩
       rw[HSU.out,if_pos (by trivial),List.length_append,List.map_append]
       exact HO9.out
     | false =>
      go_wp2_with fail;go_roundw
      case measure=>simp[intOf];omega
      case rel =>
       refine⟨k+1,by omega,by go_num,Lq ?_,HB68⟩
       rw[HSU.out,if_neg (by simp),List.append_nil]
       exact HRW8.out
    ·obtain rfl:k=out.length:=by omega
     go_wp2_with fail
     go_ret2
     have hpl:(psOf out).length=out.length:=by simp
     refine⟨_,0,_,aboveL (psOf out) s out.length,rfl,bT HB06.out HBR.out,own_base HRW.out HB06.out.size,rfl,⟨fun _=>⟨HPL.out,by rw[←HPS.out];exact HH.out⟩,fun _=>rfl⟩,fun _=>by rw[←HPS.out,hpl],fun h=>absurd rfl h⟩
 ·have hr1:(r != 0)=true:=by simpa using hr
  go_wp2_with fail
  go_ret2
  exact aboveNo hr (fun h=>hr (HIFF.out.2 h.1)) (.inr fun h=>hr (HIFF.out.2 h)) HB4.out
end Go.Proofs.YtigcophcpboanaaGreatDoor
namespace Go.Proofs.YtigcophcpboanaaGreatDoor
open Go.RowKit
open Go.Sort Go.Lib
section
variable{B B' g k:Nat}{A:Option Addr}{a w:World}
structure ShM where
 ms:List HuM
 A:Option Addr
 cap:Nat
def encSh(s:ShM):Value:=.slice s.A s.ms.length s.cap
structure ShsRd(w:World)(B:Nat)(A:Option Addr)(shs:List ShM):Prop where
 rd:Rd1 encSh w B A shs
 ok:∀s∈shs,SlM w B s.A s.cap s.ms
theorem ShsRd.below{W:World}{shs:List ShM}(h:ShsRd w B A shs)(hb:Below B' w W)(hB:B≤B'):ShsRd W B A shs:=⟨h.rd.below hb hB,fun s hs=>(h.ok s hs).below hb hB⟩
theorem ShsRd.more{shs:List ShM}(h:ShsRd w B A shs)(hB:B≤B'):ShsRd w B' A shs:=⟨h.rd.more hB,fun s hs=>(h.ok s hs).more hB⟩
def nmsOf(s:ShM):List ByteArray:=(psOf s.ms).map HuP.name
def allNms(shs:List ShM):List ByteArray:=shs.flatMap nmsOf
def tidyN(l:List ByteArray):List ByteArray:=(Lib.compact ((l.map fun s=>s.data.toList).mergeSort fun x y=>decide (x≤y))).map fun c=>⟨c.toArray⟩
theorem allNms_snoc{shs:List ShM}{s:ShM}(h:shs[k]?=some s):allNms (shs.take (k+1))=allNms (shs.take k)++nmsOf s:=by unfold allNms;rw[List.take_add_one,h];simp
theorem nms_snoc{ms:List HuM}{m:HuM}(h:ms[k]?=some m):(psOf (ms.take (k+1))).map HuP.name=(psOf (ms.take k)).map HuP.name++[m.p.name]:=by rw[List.take_add_one,h];simp
theorem allNms_le{shs:List ShM}{s:ShM}(h:shs[k]?=some s)(j:Nat):(allNms (shs.take k)).length+((psOf (s.ms.take j)).map HuP.name).length≤(allNms shs).length:=by
 have h1:(allNms (shs.take (k+1))).length≤(allNms shs).length:=by
  conv=>rhs;rw[←List.take_append_drop (k+1) shs]
  unfold allNms;rw[List.flatMap_append,List.length_append];omega
 rw[allNms_snoc h,List.length_append]at h1;have h2:((psOf (s.ms.take j)).map HuP.name).length≤(nmsOf s).length:=by unfold nmsOf;simp only[List.length_map,List.length_take];omega
 omega
section
theorem belowPutS(h:RowKit.Below a.heap.size a w)(hg:a.heap.size≤g)(off:Nat)(d:Array (List UInt8)):RowKit.Below a.heap.size a (putRow encStr w g off d) :=
 h.trans ⟨rfl,rfl,rfl,by simp[putRow,mapBlock],fun k hk=>by simp only[putRow,mapBlock,Array.getElem?_modify];rw[if_neg (by omega)]⟩
theorem belowGrow(h:RowKit.Below a.heap.size a w)(os:Array Obj):RowKit.Below a.heap.size a (grow w os) :=
 h.trans ⟨rfl,rfl,rfl,by simp,fun k hk=>heap_grow_old w os (lz hk h.size)⟩
theorem belowAhead(h:RowKit.Below a.heap.size a w)(n:Nat):RowKit.Below a.heap.size a (Go.Sort.ahead w n):=⟨h.os,h.tape,h.output,h.size,h.block⟩
theorem own_holdsS{base:Nat}{e:TypeId}{cap n:Nat}{xs:List ByteArray}(hn:n=xs.length)(h:w.ownsRow base e 1 (.slice (some ⟨g,0,none⟩) n cap) n (xs.map .string)) :
  Holds encStr w g 0 (xs.map fun s=>s.data.toList).toArray:=by
 subst hn;intro j hj;have hj':j<xs.length:=by simpa using hj
 refine⟨?_,by rw[Nat.zero_add];exact h.frozenAt j⟩
 rw[Nat.zero_add,h.cellAt j (by omega),List.getElem?_map,gE hj']
 simp[hj',encStr]
theorem holds_rd1{l:List (List UInt8)}{ext:List (List UInt8)}(h:Holds encStr w g 0 (l++ext).toArray)(hg:g<w.heap.size):Rd1 .string w w.heap.size (some ⟨g,0,none⟩) (l.map fun c=>(⟨c.toArray⟩:ByteArray)):=by
 intro i x hx;refine⟨g,0,rfl,hg, ?_⟩;rw[List.getElem?_map]at hx;cases hl:l[i]? with
 | none=>rw[hl]at hx;cases hx
 | some c =>
  rw[hl]at hx;injection hx with hx
  subst hx;obtain⟨hi,rfl⟩:=List.getElem?_eq_some_iff.1 hl;have h1:=(h i (by simp;omega)).1
  rw[h1,getElem!_pos _ _ (by simp;omega)]
  simp[encStr,List.getElem_append_left hi]
end
theorem compactS_len(zs:List (List UInt8)):(Lib.compact zs).length≤zs.length:=by unfold Lib.compact Lib.compactUpTo;rw[List.length_map];have:=List.length_filter_le (Lib.keeps zs.toArray) (List.range zs.length);rw[List.length_range]at this;exact this
theorem names69_all(A:Option Addr)(shs:List ShM)(B cap:Nat)(w:World)(hB:B≤w.heap.size)(hm:shs.length≤maxLen)(H:ShsRd w B A shs)(h0:0<(allNms shs).length)(h9:(allNms shs).length≤1000) :
  Cs 67 #[.slice A shs.length cap] w fun e w'=>∃g c,e=.returned (.slice (some ⟨g,0,none⟩) (tidyN (allNms shs)).length c)∧Rd1 .string w' w'.heap.size (some ⟨g,0,none⟩) (tidyN (allNms shs))∧(tidyN (allNms shs)).length≤c∧c≤maxLen∧BW w w'∧w.heap.size≤g:=by
 unfold maxLen at hm;have HH:=Lq H;have H0:=Lq h0;have H9:=Lq h9;obtain⟨i9,hi9,hz90,hz91,hz92⟩:=info_parts Tryz.info9;clear H h0 h9;go_enter Tryz.func67,Tryz.ntmps67
 go_wp2_with fail;go_loopw [2,9] (fun v i wr=>∃k:Nat,k≤shs.length∧i=iv k∧Hid (wr.ownsRow w.heap.size 9 1 v (allNms (shs.take k)).length ((allNms (shs.take k)).map .string))∧Hid (BW w wr)) (fun _ i _=>shs.length-(intOf i).toNat)
 case atStart=>exact⟨0,Nat.zero_le _,rfl,Lq (World.ownsRow_nil _ _ _ _),Lq (bR _)⟩
 case round =>
  obtain⟨k,hk,rfl,HRW,HBR⟩:=hrel;have hk0:(0:Int)≤(k:Int):=by omega
  by_cases hlt:k<shs.length
  ·obtain⟨s,hs⟩:=gX (l:=shs) (i:=k) hlt;obtain⟨b,off,rfl,_,c0⟩:=(HH.out.rd.below HBR.out hB) k s hs;have HSL:Hid (∀W,BW w W→SlM W B s.A s.cap s.ms):=Lq fun W hb=>(HH.out.ok s (mG ⟨k,hs⟩)).below hb hB
   have HLE:Hid (∀j,(allNms (shs.take k)).length+((psOf (s.ms.take j)).map HuP.name).length≤1000):=Lq fun j=>lT (allNms_le hs j) H9.out
   have HSN:=Lq (allNms_snoc hs);obtain⟨sms,sA,scap⟩:=s;simp only[encSh]at c0 HSL HLE HSN;obtain⟨Wa,W2,hWa,hW2,hb2,hqa,hba,hq2⟩:=oneMade wr 102 (.slice none 0 0) (.slice sA sms.length scap);obtain⟨g4,hg4⟩:=ex wr.heap.size;rw[hg4]at hW2 hqa hq2;have HB2:=Lq hb2;have af:=hqa.frozen 0;have ac:=hqa.c 0;have al:=hqa.lt;have d0:=hq2.c 0;have HRW2:=Lq (own_below HRW.out hb2);clear hs hb2 hqa hba hq2;go_wp2_with fail;clear c0 af ac al d0 hWa hW2 hg4;go_loopw [2,17] (fun v i wr2=>∃j:Nat,j≤sms.length∧i=iv j∧Hid (wr2.ownsRow w.heap.size 9 1 v (allNms (shs.take k)++(psOf (sms.take j)).map HuP.name).length ((allNms (shs.take k)++(psOf (sms.take j)).map HuP.name).map .string))∧Hid (BW w wr2)) (fun _ i _=>sms.length-(intOf i).toNat)
   case atStart=>exact⟨0,Nat.zero_le _,rfl,Lq (by simpa using HRW2.out),Lq (bT HBR.out HB2.out)⟩
   case round =>
    obtain⟨j,hj,rfl,HRJ,HBJ⟩:=hrel;have hj0:(0:Int)≤(j:Int):=by omega
    by_cases hjl:j<sms.length
    ·obtain⟨y,hy⟩:=gX (l:=sms) (i:=j) hjl;obtain⟨b2,off2,hA,hbB,hMy,c0,c1,c2,c3,c4,c5,c6⟩:=(HSL.out wr HBJ.out).rd.at hy;have HN1:=Lq (nms_snoc hy);have hle:(allNms (shs.take k)).length+j≤1000:=by
      have h:=HLE.out j
      simpa[Nat.min_eq_left hj]using h
     have HLE2:=Lq hle;obtain⟨⟨yn,yk,yf,yl,yon,yw,yz⟩,yA,yc⟩:=y;subst hA;simp only at c0 c1 c2 c3 c4 c5 c6;obtain⟨Wc,W7,hWc,hW7,hb7,hqc,hbc,hq7⟩:=partMade wr yn yk yf yl yw yz yA yc yon.length;obtain⟨g2,hg2⟩:=ex wr.heap.size;rw[hg2]at hW7 hqc hq7;have HB7:=Lq (bT HBJ.out hb7);obtain⟨f0,f1,f2,f3,f4,f5,f6⟩:=hqc.f7;obtain⟨e0,e1,e2,e3,e4,e5,e6⟩:=hqc.c7;have el:=hqc.lt;have d0:=hq7.c 0;have HAL:=Lq ((own_below HRJ.out hb7).alloc (.cells #[.string yn] 9));clear hMy hy hb7 hqc hbc hq7 hbB;go_wp2_with (at_builtin;refine wpList_append_own _ rfl _ _ 41 rfl w.heap.size 9 i9 (.string ⟨#[]⟩) 1 16 Tryz.underlying41 hi9 hz90 hz91 hz92 rfl (by decide) _ _ _ rfl HAL.out ⟨W7.heap.size,0,none⟩ 1 1 [.string yn] rfl rfl (one_new _ _ _) ?d2 ?d3 ?d4 ?d5 ?_)
     case d2=>simp[Value.oneCell']
     case d3=>unfold maxLen;omega
     case d4=>omega
     case d5=>have:=HB7.out.size;(try simp only[World.size_alloc]);omega
     intro v9 w9 hown9 hg9 _;have hb9:BW w w9:=grownB HAL.out hg9 (lr _) (bA HB7.out _);have HB9:=Lq hb9;have HO9:=Lq hown9;clear hown9 hg9 hb9 c0 c1 c2 c3 c4 c5 c6 d0 e0 e1 e2 e3 e4 e5 e6 f0 f1 f2 f3 f4 f5 f6 el hWc hW7 hg2;go_wp2_with fail;go_roundw
     case measure=>simp[intOf];omega
     case rel =>
      refine⟨j+1,by omega,by go_num,Lq ?_,HB9⟩
      rw[HN1.out,←List.append_assoc]
      simpa[Nat.min_eq_left hj,Nat.add_assoc]using HO9.out
    ·obtain rfl:j=sms.length:=by omega
     go_wp2_with fail;go_roundw
     case measure=>simp[intOf];omega
     case rel =>
      refine⟨k+1,by omega,by go_num,Lq ?_,HBJ⟩
      have h:=HRJ.out;rw[List.take_of_length_le (lr _)]at h;rw[HSN.out];exact h
  ·obtain rfl:k=shs.length:=by omega
   have hrw:=HRW.out;rw[List.take_of_length_le (lr _)]at hrw;have h0:=H0.out;have h9:=H9.out;obtain⟨zs,hzs⟩:=ex (allNms shs);obtain⟨L,hL⟩:=ex (tidyN (allNms shs));rw[hzs]at hrw h0 h9;have HTN:=Lq hL;have HT:Hid (tidyN zs=L):=by rw[hzs]at hL;exact Lq hL
   obtain⟨g,c,rfl,hgb,hgl,hcc⟩:=own_form hrw (by omega)
   have hcm:c≤maxLen:=by
    obtain⟨A9,c9,h1,_,_,h3⟩:=own_str hrw;injection h1 with _ _ h1
    subst h1;exact h3
   have hH:=own_holdsS rfl hrw;have hsc:=Go.Proofs.Tryz.slices_Sort_string g 0 c (zs.map fun s=>s.data.toList) wr hH hgl (by simp;omega)
   simp only[List.length_map]at hsc;obtain⟨os,hos⟩:=ex ((zs.map fun s=>s.data.toList).mergeSort fun x y=>decide (x≤y))
   have hol:os.length=zs.length:=by rw[←hos,List.length_mergeSort,List.length_map]
   rw[hos]at hsc;have HLL:Hid ((Lib.compact os).map (fun c=>(⟨c.toArray⟩:ByteArray))=L):=by rw[←HT.out];unfold tidyN;rw[hos];exact Lq rfl
   have HHP:=Lq (fun(n:Nat) (oo:Array Obj)=>Go.Sort.holds_grow Go.Proofs.encStr (Go.Sort.putRow Go.Proofs.encStr (Go.Sort.ahead wr n) g 0 os.toArray) oo g 0 os.toArray (by simpa using hgl) (Go.Sort.holds_putRow Go.Proofs.encStr (Go.Sort.ahead wr n) g 0 (zs.map fun s=>s.data.toList).toArray os.toArray (Go.Sort.holds_ahead _ _ _ _ _ _ hH) (by simp;omega)))
   have HBP:=Lq (fun(n:Nat) (oo:Array Obj)=>belowGrow (belowPutS (g:=g) (belowAhead HBR.out n) hgb 0 os.toArray) oo)
   have HSC:=Lq hsc;have HOL:=Lq hol;have HHG:=Lq (fun(n:Nat) (oo:Array Obj)=>(show g<(Go.Sort.grow (Go.Sort.putRow Go.Proofs.encStr (Go.Sort.ahead wr n) g 0 os.toArray) oo).heap.size from lz hgl (by simp[Go.Sort.putRow,Go.Sort.mapBlock])))
   clear hsc hol hos hH hrw hL hzs;go_wp2_with fail;refine HSC.out.mono ?_;rintro e w5 ⟨rfl,nn,oss,rfl⟩;have hH5:=HHP.out nn oss;have hb5:=HBP.out nn oss;have hg5:=HHG.out nn oss;obtain⟨w5,hw5⟩:=ex (Go.Sort.grow (Go.Sort.putRow Go.Proofs.encStr (Go.Sort.ahead wr nn) g 0 os.toArray) oss);rw[hw5]at hH5 hb5 hg5 ⊢;rw[←HOL.out];have hcc2:=Go.Proofs.Tryz.slices_Compact_string g 0 c os w5 hH5 (by rw[HOL.out];omega) (by rw[HOL.out];omega)
   have hcl:(Lib.compact os).length=L.length:=by rw[←HLL.out,List.length_map]
   have hcle:(Lib.compact os).length≤os.length:=compactS_len os;have HC2:=Lq hcc2;have HH6:=Lq (fun q=>Go.Sort.holds_putRow Go.Proofs.encStr (Go.Sort.ahead w5 q) g 0 os.toArray (Lib.compact os++List.replicate (os.length-(Lib.compact os).length) []).toArray (Go.Sort.holds_ahead _ _ _ _ _ _ hH5) (by simp;omega))
   have HB6:=Lq (fun q=>belowPutS (g:=g) (belowAhead hb5 q) hgb 0 (Lib.compact os++List.replicate (os.length-(Lib.compact os).length) []).toArray)
   have HG6:=Lq (fun q=>(show g<(Go.Sort.putRow Go.Proofs.encStr (Go.Sort.ahead w5 q) g 0 (Lib.compact os++List.replicate (os.length-(Lib.compact os).length) []).toArray).heap.size from lz hg5 (by simp[Go.Sort.putRow,Go.Sort.mapBlock])))
   have HCL:Hid (L.length≤c):=Lq (by rw[←hcl];have:=HOL.out;omega)
   have hLe:(Lib.compact os).length=L.length:=hcl;have HLE2:=Lq hLe;clear hH5 hb5 hcc2 hw5 HSC HHP HBP hcl hcle hg5 hLe;go_wp2_with fail;refine HC2.out.mono ?_;rintro e w6 ⟨rfl,q,rfl⟩;go_wp2_with fail;go_ret
   rw[HTN.out];refine⟨g,c, ?_, ?_,HCL.out,hcm,HB6.out q,hgb⟩
   ·show Ending.returned (.slice (some ⟨g,0,none⟩) (Lib.compact os).length c)=_
    rw[HLE2.out]
   rw[←HLL.out];exact holds_rd1 (HH6.out q) (HG6.out q)
theorem names69_any(A:Option Addr)(shs:List ShM)(B cap:Nat)(w:World)(hB:B≤w.heap.size)(hm:shs.length≤maxLen)(H:ShsRd w B A shs)(h0:0<(allNms shs).length)(h9:(allNms shs).length≤1000) :
  Cs 67 #[.slice A shs.length cap] w fun e w'=>∃g c,e=.returned (.slice (some ⟨g,0,none⟩) (tidyN (allNms shs)).length c)∧Rd1 .string w' w'.heap.size (some ⟨g,0,none⟩) (tidyN (allNms shs))∧(tidyN (allNms shs)).length≤c∧c≤maxLen∧BW w w' :=
 (names69_all A shs B cap w hB hm H h0 h9).mono fun _ _ ⟨g,c,h1,h2,h3,h4,h5,_⟩=>⟨g,c,h1,h2,h3,h4,h5⟩
end
end Go.Proofs.YtigcophcpboanaaGreatDoor
namespace Go.Proofs.YtigcophcpboanaaGreatDoor
open Go.RowKit
section
variable{xn yn:ByteArray}{Q:Exit→Act→World→Prop}{xf xk xl xw xz yf yk yl yw yz:Int}{ba bb ca cb g8 g9 gx gy i k na nb oa ob xc xo yc yo:Nat}{xA yA:Option Addr}{zA zB zK zL zM zP zQ zR zS zT zC zU zV zW zX zY zZ za zb zc zd zD ze zf zg zh zi zj zk zl zm zn zE zo zp zq zr zs zt zu zv zw zx zF zy zz zAA zAB zAC zAD zAE zAF zAG zAH zG zH zAU zAV zAW zAX zAY zAZ zAa zAb zAc zAd zAe zAf zAg zAh zAi zAj zAk zAl:Value}{V w:World}
noncomputable def ops23_13:Array Oper:=opsOf (regionOf Tryz.f19 13)
abbrev hHA61(V:World)(g8 g9 ba oa bb ob na nb ca cb i k xo yo xc yc:Nat)(xn yn:ByteArray)(xk xf xl xw xz yk yf yl yw yz:Int)(xA yA:Option Addr):Prop:=∀W,BW V W→(fun W=>cA W g9 0 (.slice (some ⟨ba,oa,none⟩) na ca)∧cA W g8 0 (.slice (some ⟨bb,ob,none⟩) nb cb)∧cA W ba (oa+i*7) (.string xn)∧cA W ba (oa+i*7+1) (iv xk)∧cA W ba (oa+i*7+2) (iv xf)∧cA W ba (oa+i*7+3) (iv xl)∧cA W ba (oa+i*7+4) (.slice xA xo xc)∧cA W ba (oa+i*7+5) (iv xw)∧cA W ba (oa+i*7+6) (iv xz)∧cA W bb (ob+k*7) (.string yn)∧cA W bb (ob+k*7+1) (iv yk)∧cA W bb (ob+k*7+2) (iv yf)∧cA W bb (ob+k*7+3) (iv yl)∧cA W bb (ob+k*7+4) (.slice yA yo yc)∧cA W bb (ob+k*7+5) (iv yw)∧cA W bb (ob+k*7+6) (iv yz)) W
abbrev hHA62(Q:Exit→Act→World→Prop)(V:World)(g8 g9 i k xo yo xc yc:Nat)(xn yn:ByteArray)(xk xf xl xw xz yk yf yl yw yz:Int)(xA yA:Option Addr)(zA zB zC zD zE zF zG zH zK zL zM zR zS zT zU zV zW zX zY zZ za zb zc zd ze zf zg zh zi zj zk zl zm zn zo zp zq zr zs zt zu zv zw zx zy zz zAA zAB zAC zAD zAE zAF zAG zAH zAU zAV zAW zAX zAY zAZ zAa zAb zAc zAd zAe zAf zAg zAh zAi zAj zAk zAl:Value):Prop:=∀u60 u61 u62 u63 u64 u65 u66 u67 u68 u69 u70 u71 gx gy W',BW V W'→V.heap.size≤gx→V.heap.size≤gy→gx≠gy→Blk W' gx 43 #[.string xn,iv xk,iv xf,iv xl,.slice xA xo xc,iv xw,iv xz]→Blk W' gy 43 #[.string yn,iv yk,iv yf,iv yl,.slice yA yo yc,iv yw,iv yz]→Q .normal ⟨#[zA,zB,zC,zD,zE,zF,zG,zH,.pointer (some ⟨g8,0,none⟩),.pointer (some ⟨g9,0,none⟩),zK,zL,zM,iv i,iv k,.pointer (some ⟨gx,0,none⟩),.pointer (some ⟨gy,0,none⟩),zR,zS,zT,zU,zV,zW,zX,zY,zZ,za,zb,zc,zd,ze,zf,zg,zh,zi,zj,zk,zl,zm,zn,zo,zp,zq,zr,zs,zt,zu,zv,zw,zx,zy,zz,zAA,zAB,zAC,zAD,zAE,zAF,zAG,zAH,u60,u61,u62,u63,u64,u65,u66,u67,u68,u69,u70,u71,zAU,zAV,zAW,zAX,zAY,zAZ,zAa,zAb,zAc,zAd,zAe,zAf,zAg,zAh,zAi,zAj,zAk,zAl],[]⟩ W'
theorem st23_13_12_13(HI:Hid (i<na∧k<nb))(HS:Hid (hHA61 V g8 g9 ba oa bb ob na nb ca cb i k xo yo xc yc xn yn xk xf xl xw xz yk yf yl yw yz xA yA))(HQ:Hid (hHA62 Q V g8 g9 i k xo yo xc yc xn yn xk xf xl xw xz yk yf yl yw yz xA yA zA zB zC zD zE zF zG zH zK zL zM zR zS zT zU zV zW zX zY zZ za zb zc zd ze zf zg zh zi zj zk zl zm zn zo zp zq zr zs zt zu zv zw zx zy zz zAA zAB zAC zAD zAE zAF zAG zAH zAU zAV zAW zAX zAY zAZ zAa zAb zAc zAd zAe zAf zAg zAh zAi zAj zAk zAl))(HB:Hid (BW V w))(HX:Hid (V.heap.size≤gx∧Blk w gx 43 #[.string ⟨#[]⟩,iv 0,iv 0,iv 0,.slice none 0 0,iv 0,iv 0]))(HY:Hid (V.heap.size≤gy∧Blk w gy 43 #[.string ⟨#[]⟩,iv 0,iv 0,iv 0,.slice none 0 0,iv 0,iv 0]))(HNE:Hid (gx≠gy)) :
  wpAnyH Tryz.prog .any ops23_13 (NoPanic Q) (fun W=>cA W g9 0 (.slice (some ⟨ba,oa,none⟩) na ca)∧cA W g8 0 (.slice (some ⟨bb,ob,none⟩) nb cb)∧cA W ba (oa+i*7) (.string xn)∧cA W ba (oa+i*7+1) (iv xk)∧cA W ba (oa+i*7+2) (iv xf)∧cA W ba (oa+i*7+3) (iv xl)∧cA W ba (oa+i*7+4) (.slice xA xo xc)∧cA W ba (oa+i*7+5) (iv xw)∧cA W ba (oa+i*7+6) (iv xz)∧cA W bb (ob+k*7) (.string yn)∧cA W bb (ob+k*7+1) (iv yk)∧cA W bb (ob+k*7+2) (iv yf)∧cA W bb (ob+k*7+3) (iv yl)∧cA W bb (ob+k*7+4) (.slice yA yo yc)∧cA W bb (ob+k*7+5) (iv yw)∧cA W bb (ob+k*7+6) (iv yz)) 2 #[true,true,true,true,true,true,true,true,true,true,true,true,true,true,false,false] ⟨#[zA,zB,zC,zD,zE,zF,zG,zH,.pointer (some ⟨g8,0,none⟩),.pointer (some ⟨g9,0,none⟩),zK,zL,zM,iv i,iv k,.pointer (some ⟨gx,0,none⟩),.pointer (some ⟨gy,0,none⟩),zR,zS,zT,zU,zV,zW,zX,zY,zZ,za,zb,zc,zd,ze,zf,zg,zh,zi,zj,zk,zl,zm,zn,zo,zp,zq,zr,zs,zt,zu,zv,zw,zx,zy,zz,zAA,zAB,zAC,zAD,zAE,zAF,zAG,zAH,.pointer (some ⟨g9,0,none⟩),.pointer (some ⟨g9,0,none⟩),.slice (some ⟨ba,oa,none⟩) na ca,iv i,.pointer (some ⟨ba,oa+i*7,none⟩),.agg #[.string xn,iv xk,iv xf,iv xl,.slice xA xo xc,iv xw,iv xz],.pointer (some ⟨g8,0,none⟩),.pointer (some ⟨g8,0,none⟩),.slice (some ⟨bb,ob,none⟩) nb cb,iv k,.pointer (some ⟨bb,ob+k*7,none⟩),.agg #[.string yn,iv yk,iv yf,iv yl,.slice yA yo yc,iv yw,iv yz],zAU,zAV,zAW,zAX,zAY,zAZ,zAa,zAb,zAc,zAd,zAe,zAf,zAg,zAh,zAi,zAj,zAk,zAl],[]⟩ w:=by
 have _u:=HI;have hne:gx≠gy:=HNE.out;refine rd1 14 fun K' hK=>?_
 obtain⟨f0,f1,f2,f3,f4,f5,f6⟩:=HX.out.2.f7;obtain⟨e0,e1,e2,e3,e4,e5,e6⟩:=HX.out.2.c7;have el:=HX.out.2.lt;obtain⟨w1,hw1⟩:=ex (((((((w.setCell ⟨gx,0,none⟩ (.string xn)).setCell ⟨gx,1,none⟩ (iv xk)).setCell ⟨gx,2,none⟩ (iv xf)).setCell ⟨gx,3,none⟩ (iv xl)).setCell ⟨gx,4,none⟩ (.slice xA xo xc)).setCell ⟨gx,5,none⟩ (iv xw)).setCell ⟨gx,6,none⟩ (iv xz));have o1:OnlyAt w w1 gx:=by rw[←hw1];exact((((((((OnlyAt.of_below (bR w) gx).set 0 _).set 1 _).set 2 _).set 3 _).set 4 _).set 5 _).set 6 _)
 have q1:Blk w1 gx 43 #[.string xn,iv xk,iv xf,iv xl,.slice xA xo xc,iv xw,iv xz]:=by rw[←hw1];exact seven _ _ _ _ _ _ _ HX.out.2
 have q2:=HY.out.2.same (o1.block gy HY.out.2.lt (Ne.symm hne));have HB1:Hid (BW V w1):=Lq (o1.below HB.out HX.out.1);have HX1:=Lq q1;have HY1:=Lq q2;clear q1 q2 o1;go_simp;refine hK.out _ _ (HS.out _ HB1.out) (fun _=>?_)
 clear hK hw1 f0 f1 f2 f3 f4 f5 f6 e0 e1 e2 e3 e4 e5 e6 el;refine rd1 15 fun K' hK=>?_
 obtain⟨f0,f1,f2,f3,f4,f5,f6⟩:=HY1.out.f7;obtain⟨e0,e1,e2,e3,e4,e5,e6⟩:=HY1.out.c7;have el:=HY1.out.lt;obtain⟨w2,hw2⟩:=ex (((((((w1.setCell ⟨gy,0,none⟩ (.string yn)).setCell ⟨gy,1,none⟩ (iv yk)).setCell ⟨gy,2,none⟩ (iv yf)).setCell ⟨gy,3,none⟩ (iv yl)).setCell ⟨gy,4,none⟩ (.slice yA yo yc)).setCell ⟨gy,5,none⟩ (iv yw)).setCell ⟨gy,6,none⟩ (iv yz));have o2:OnlyAt w1 w2 gy:=by rw[←hw2];exact((((((((OnlyAt.of_below (bR w1) gy).set 0 _).set 1 _).set 2 _).set 3 _).set 4 _).set 5 _).set 6 _)
 have q1:Blk w2 gy 43 #[.string yn,iv yk,iv yf,iv yl,.slice yA yo yc,iv yw,iv yz]:=by rw[←hw2];exact seven _ _ _ _ _ _ _ HY1.out
 have q2:=HX1.out.same (o2.block gx HX1.out.lt hne);have HB2:Hid (BW V w2):=Lq (o2.below HB1.out HY.out.1);have HX2:=Lq q2;have HY2:=Lq q1;clear q1 q2 o2;go_simp;refine hK.out _ _ (HS.out _ HB2.out) (fun _=>?_)
 clear hK hw2 f0 f1 f2 f3 f4 f5 f6 e0 e1 e2 e3 e4 e5 e6 el;refine wpAnyH_done (by kernel_rfl) ?_ _
 exact NoPanic.normal (HQ.out _ _ _ _ _ _ _ _ _ _ _ _ _ _ _ HB2.out HX.out.1 HY.out.1 hne HX2.out HY2.out)
theorem st23_13_12(HI:Hid (i<na∧k<nb))(HS:Hid (hHA61 V g8 g9 ba oa bb ob na nb ca cb i k xo yo xc yc xn yn xk xf xl xw xz yk yf yl yw yz xA yA))(HQ:Hid (hHA62 Q V g8 g9 i k xo yo xc yc xn yn xk xf xl xw xz yk yf yl yw yz xA yA zA zB zC zD zE zF zG zH zK zL zM zR zS zT zU zV zW zX zY zZ za zb zc zd ze zf zg zh zi zj zk zl zm zn zo zp zq zr zs zt zu zv zw zx zy zz zAA zAB zAC zAD zAE zAF zAG zAH zAU zAV zAW zAX zAY zAZ zAa zAb zAc zAd zAe zAf zAg zAh zAi zAj zAk zAl))(HB:Hid (BW V w))(HX:Hid (V.heap.size≤gx∧Blk w gx 43 #[.string ⟨#[]⟩,iv 0,iv 0,iv 0,.slice none 0 0,iv 0,iv 0])) :
  wpAnyH Tryz.prog .any ops23_13 (NoPanic Q) (fun W=>cA W g9 0 (.slice (some ⟨ba,oa,none⟩) na ca)∧cA W g8 0 (.slice (some ⟨bb,ob,none⟩) nb cb)∧cA W ba (oa+i*7) (.string xn)∧cA W ba (oa+i*7+1) (iv xk)∧cA W ba (oa+i*7+2) (iv xf)∧cA W ba (oa+i*7+3) (iv xl)∧cA W ba (oa+i*7+4) (.slice xA xo xc)∧cA W ba (oa+i*7+5) (iv xw)∧cA W ba (oa+i*7+6) (iv xz)∧cA W bb (ob+k*7) (.string yn)∧cA W bb (ob+k*7+1) (iv yk)∧cA W bb (ob+k*7+2) (iv yf)∧cA W bb (ob+k*7+3) (iv yl)∧cA W bb (ob+k*7+4) (.slice yA yo yc)∧cA W bb (ob+k*7+5) (iv yw)∧cA W bb (ob+k*7+6) (iv yz)) 3 #[true,true,true,true,true,true,true,true,true,true,true,true,true,false,false,false] ⟨#[zA,zB,zC,zD,zE,zF,zG,zH,.pointer (some ⟨g8,0,none⟩),.pointer (some ⟨g9,0,none⟩),zK,zL,zM,iv i,iv k,.pointer (some ⟨gx,0,none⟩),zQ,zR,zS,zT,zU,zV,zW,zX,zY,zZ,za,zb,zc,zd,ze,zf,zg,zh,zi,zj,zk,zl,zm,zn,zo,zp,zq,zr,zs,zt,zu,zv,zw,zx,zy,zz,zAA,zAB,zAC,zAD,zAE,zAF,zAG,zAH,.pointer (some ⟨g9,0,none⟩),.pointer (some ⟨g9,0,none⟩),.slice (some ⟨ba,oa,none⟩) na ca,iv i,.pointer (some ⟨ba,oa+i*7,none⟩),.agg #[.string xn,iv xk,iv xf,iv xl,.slice xA xo xc,iv xw,iv xz],.pointer (some ⟨g8,0,none⟩),.pointer (some ⟨g8,0,none⟩),.slice (some ⟨bb,ob,none⟩) nb cb,iv k,.pointer (some ⟨bb,ob+k*7,none⟩),.agg #[.string yn,iv yk,iv yf,iv yl,.slice yA yo yc,iv yw,iv yz],zAU,zAV,zAW,zAX,zAY,zAZ,zAa,zAb,zAc,zAd,zAe,zAf,zAg,zAh,zAi,zAj,zAk,zAl],[]⟩ w:=by
 refine rd1 13 (fun K' hK=>?_)
 ·skip;go_simp;have hb:=bA (bR w) (.cells #[.string ⟨#[]⟩,iv 0,iv 0,iv 0,.slice none 0 0,iv 0,iv 0] 43);have hq:=Blk.new w 43 #[.string ⟨#[]⟩,iv 0,iv 0,iv 0,.slice none 0 0,iv 0,iv 0];obtain⟨w1,hw1⟩:=ex (w.alloc (.cells #[.string ⟨#[]⟩,iv 0,iv 0,iv 0,.slice none 0 0,iv 0,iv 0] 43));obtain⟨gy,hg1⟩:=ex w.heap.size;rw[hw1]at hb hq;rw[hg1]at hq;rw[hw1,hg1];have HY:Hid (V.heap.size≤gy∧Blk w1 gy 43 #[.string ⟨#[]⟩,iv 0,iv 0,iv 0,.slice none 0 0,iv 0,iv 0]):=Lq ⟨by rw[←hg1];exact HB.out.size,hq⟩
  have HNE:Hid (gx≠gy):=Lq ((by have:=HX.out.2.lt;omega))
  have HB1:=Lq (bT HB.out hb);have HX:Hid (V.heap.size≤gx∧Blk w1 gx 43 #[.string ⟨#[]⟩,iv 0,iv 0,iv 0,.slice none 0 0,iv 0,iv 0]):=Lq (⟨HX.out.1,HX.out.2.keep hb⟩);refine hK.out _ _ (HS.out _ HB1.out) (fun _=>?_)
  exact st23_13_12_13 HI HS HQ HB1 HX HY HNE
theorem st23_13_13(HI:Hid (i<na∧k<nb))(HS:Hid (hHA61 V g8 g9 ba oa bb ob na nb ca cb i k xo yo xc yc xn yn xk xf xl xw xz yk yf yl yw yz xA yA))(HQ:Hid (hHA62 Q V g8 g9 i k xo yo xc yc xn yn xk xf xl xw xz yk yf yl yw yz xA yA zA zB zC zD zE zF zG zH zK zL zM zR zS zT zU zV zW zX zY zZ za zb zc zd ze zf zg zh zi zj zk zl zm zn zo zp zq zr zs zt zu zv zw zx zy zz zAA zAB zAC zAD zAE zAF zAG zAH zAU zAV zAW zAX zAY zAZ zAa zAb zAc zAd zAe zAf zAg zAh zAi zAj zAk zAl))(HB:Hid (BW V w))(HY:Hid (V.heap.size≤gy∧Blk w gy 43 #[.string ⟨#[]⟩,iv 0,iv 0,iv 0,.slice none 0 0,iv 0,iv 0])) :
  wpAnyH Tryz.prog .any ops23_13 (NoPanic Q) (fun W=>cA W g9 0 (.slice (some ⟨ba,oa,none⟩) na ca)∧cA W g8 0 (.slice (some ⟨bb,ob,none⟩) nb cb)∧cA W ba (oa+i*7) (.string xn)∧cA W ba (oa+i*7+1) (iv xk)∧cA W ba (oa+i*7+2) (iv xf)∧cA W ba (oa+i*7+3) (iv xl)∧cA W ba (oa+i*7+4) (.slice xA xo xc)∧cA W ba (oa+i*7+5) (iv xw)∧cA W ba (oa+i*7+6) (iv xz)∧cA W bb (ob+k*7) (.string yn)∧cA W bb (ob+k*7+1) (iv yk)∧cA W bb (ob+k*7+2) (iv yf)∧cA W bb (ob+k*7+3) (iv yl)∧cA W bb (ob+k*7+4) (.slice yA yo yc)∧cA W bb (ob+k*7+5) (iv yw)∧cA W bb (ob+k*7+6) (iv yz)) 3 #[true,true,true,true,true,true,true,true,true,true,true,true,false,true,false,false] ⟨#[zA,zB,zC,zD,zE,zF,zG,zH,.pointer (some ⟨g8,0,none⟩),.pointer (some ⟨g9,0,none⟩),zK,zL,zM,iv i,iv k,zP,.pointer (some ⟨gy,0,none⟩),zR,zS,zT,zU,zV,zW,zX,zY,zZ,za,zb,zc,zd,ze,zf,zg,zh,zi,zj,zk,zl,zm,zn,zo,zp,zq,zr,zs,zt,zu,zv,zw,zx,zy,zz,zAA,zAB,zAC,zAD,zAE,zAF,zAG,zAH,.pointer (some ⟨g9,0,none⟩),.pointer (some ⟨g9,0,none⟩),.slice (some ⟨ba,oa,none⟩) na ca,iv i,.pointer (some ⟨ba,oa+i*7,none⟩),.agg #[.string xn,iv xk,iv xf,iv xl,.slice xA xo xc,iv xw,iv xz],.pointer (some ⟨g8,0,none⟩),.pointer (some ⟨g8,0,none⟩),.slice (some ⟨bb,ob,none⟩) nb cb,iv k,.pointer (some ⟨bb,ob+k*7,none⟩),.agg #[.string yn,iv yk,iv yf,iv yl,.slice yA yo yc,iv yw,iv yz],zAU,zAV,zAW,zAX,zAY,zAZ,zAa,zAb,zAc,zAd,zAe,zAf,zAg,zAh,zAi,zAj,zAk,zAl],[]⟩ w:=by
 refine rd1 12 (fun K' hK=>?_)
 ·skip;go_simp;have hb:=bA (bR w) (.cells #[.string ⟨#[]⟩,iv 0,iv 0,iv 0,.slice none 0 0,iv 0,iv 0] 43);have hq:=Blk.new w 43 #[.string ⟨#[]⟩,iv 0,iv 0,iv 0,.slice none 0 0,iv 0,iv 0];obtain⟨w1,hw1⟩:=ex (w.alloc (.cells #[.string ⟨#[]⟩,iv 0,iv 0,iv 0,.slice none 0 0,iv 0,iv 0] 43));obtain⟨gx,hg1⟩:=ex w.heap.size;rw[hw1]at hb hq;rw[hg1]at hq;rw[hw1,hg1];have HX:Hid (V.heap.size≤gx∧Blk w1 gx 43 #[.string ⟨#[]⟩,iv 0,iv 0,iv 0,.slice none 0 0,iv 0,iv 0]):=Lq ⟨by rw[←hg1];exact HB.out.size,hq⟩
  have HNE:Hid (gx≠gy):=Lq ((by have:=HY.out.2.lt;omega))
  have HB1:=Lq (bT HB.out hb);have HY:Hid (V.heap.size≤gy∧Blk w1 gy 43 #[.string ⟨#[]⟩,iv 0,iv 0,iv 0,.slice none 0 0,iv 0,iv 0]):=Lq (⟨HY.out.1,HY.out.2.keep hb⟩);refine hK.out _ _ (HS.out _ HB1.out) (fun _=>?_)
  exact st23_13_12_13 HI HS HQ HB1 HX HY HNE
theorem st23_13_S(HI:Hid (i<na∧k<nb))(HS:Hid (hHA61 V g8 g9 ba oa bb ob na nb ca cb i k xo yo xc yc xn yn xk xf xl xw xz yk yf yl yw yz xA yA))(HQ:Hid (hHA62 Q V g8 g9 i k xo yo xc yc xn yn xk xf xl xw xz yk yf yl yw yz xA yA zA zB zC zD zE zF zG zH zK zL zM zR zS zT zU zV zW zX zY zZ za zb zc zd ze zf zg zh zi zj zk zl zm zn zo zp zq zr zs zt zu zv zw zx zy zz zAA zAB zAC zAD zAE zAF zAG zAH zAU zAV zAW zAX zAY zAZ zAa zAb zAc zAd zAe zAf zAg zAh zAi zAj zAk zAl))(HB:Hid (BW V w))  :
  wpAnyH Tryz.prog .any ops23_13 (NoPanic Q) (fun W=>cA W g9 0 (.slice (some ⟨ba,oa,none⟩) na ca)∧cA W g8 0 (.slice (some ⟨bb,ob,none⟩) nb cb)∧cA W ba (oa+i*7) (.string xn)∧cA W ba (oa+i*7+1) (iv xk)∧cA W ba (oa+i*7+2) (iv xf)∧cA W ba (oa+i*7+3) (iv xl)∧cA W ba (oa+i*7+4) (.slice xA xo xc)∧cA W ba (oa+i*7+5) (iv xw)∧cA W ba (oa+i*7+6) (iv xz)∧cA W bb (ob+k*7) (.string yn)∧cA W bb (ob+k*7+1) (iv yk)∧cA W bb (ob+k*7+2) (iv yf)∧cA W bb (ob+k*7+3) (iv yl)∧cA W bb (ob+k*7+4) (.slice yA yo yc)∧cA W bb (ob+k*7+5) (iv yw)∧cA W bb (ob+k*7+6) (iv yz)) 4 #[true,true,true,true,true,true,true,true,true,true,true,true,false,false,false,false] ⟨#[zA,zB,zC,zD,zE,zF,zG,zH,.pointer (some ⟨g8,0,none⟩),.pointer (some ⟨g9,0,none⟩),zK,zL,zM,iv i,iv k,zP,zQ,zR,zS,zT,zU,zV,zW,zX,zY,zZ,za,zb,zc,zd,ze,zf,zg,zh,zi,zj,zk,zl,zm,zn,zo,zp,zq,zr,zs,zt,zu,zv,zw,zx,zy,zz,zAA,zAB,zAC,zAD,zAE,zAF,zAG,zAH,.pointer (some ⟨g9,0,none⟩),.pointer (some ⟨g9,0,none⟩),.slice (some ⟨ba,oa,none⟩) na ca,iv i,.pointer (some ⟨ba,oa+i*7,none⟩),.agg #[.string xn,iv xk,iv xf,iv xl,.slice xA xo xc,iv xw,iv xz],.pointer (some ⟨g8,0,none⟩),.pointer (some ⟨g8,0,none⟩),.slice (some ⟨bb,ob,none⟩) nb cb,iv k,.pointer (some ⟨bb,ob+k*7,none⟩),.agg #[.string yn,iv yk,iv yf,iv yl,.slice yA yo yc,iv yw,iv yz],zAU,zAV,zAW,zAX,zAY,zAZ,zAa,zAb,zAc,zAd,zAe,zAf,zAg,zAh,zAi,zAj,zAk,zAl],[]⟩ w:=by
 refine rd2 12 13 (fun K' hK=>?_) (fun K' hK=>?_)
 ·skip;go_simp;have hb:=bA (bR w) (.cells #[.string ⟨#[]⟩,iv 0,iv 0,iv 0,.slice none 0 0,iv 0,iv 0] 43);have hq:=Blk.new w 43 #[.string ⟨#[]⟩,iv 0,iv 0,iv 0,.slice none 0 0,iv 0,iv 0];obtain⟨w1,hw1⟩:=ex (w.alloc (.cells #[.string ⟨#[]⟩,iv 0,iv 0,iv 0,.slice none 0 0,iv 0,iv 0] 43));obtain⟨gx,hg1⟩:=ex w.heap.size;rw[hw1]at hb hq;rw[hg1]at hq;rw[hw1,hg1];have HX:Hid (V.heap.size≤gx∧Blk w1 gx 43 #[.string ⟨#[]⟩,iv 0,iv 0,iv 0,.slice none 0 0,iv 0,iv 0]):=Lq ⟨by rw[←hg1];exact HB.out.size,hq⟩
  have HB1:=Lq (bT HB.out hb);refine hK.out _ _ (HS.out _ HB1.out) (fun _=>?_)
  exact st23_13_12 HI HS HQ HB1 HX
 ·skip;go_simp;have hb:=bA (bR w) (.cells #[.string ⟨#[]⟩,iv 0,iv 0,iv 0,.slice none 0 0,iv 0,iv 0] 43);have hq:=Blk.new w 43 #[.string ⟨#[]⟩,iv 0,iv 0,iv 0,.slice none 0 0,iv 0,iv 0];obtain⟨w1,hw1⟩:=ex (w.alloc (.cells #[.string ⟨#[]⟩,iv 0,iv 0,iv 0,.slice none 0 0,iv 0,iv 0] 43));obtain⟨gy,hg1⟩:=ex w.heap.size;rw[hw1]at hb hq;rw[hg1]at hq;rw[hw1,hg1];have HY:Hid (V.heap.size≤gy∧Blk w1 gy 43 #[.string ⟨#[]⟩,iv 0,iv 0,iv 0,.slice none 0 0,iv 0,iv 0]):=Lq ⟨by rw[←hg1];exact HB.out.size,hq⟩
  have HB1:=Lq (bT HB.out hb);refine hK.out _ _ (HS.out _ HB1.out) (fun _=>?_)
  exact st23_13_13 HI HS HQ HB1 HY
theorem reg23_13{zAI zAJ zAK zAL zAM zAN zAO zAP zAQ zAR zAS zAT:Value}(HI:Hid (i<na∧k<nb))(HS:Hid (hHA61 V g8 g9 ba oa bb ob na nb ca cb i k xo yo xc yc xn yn xk xf xl xw xz yk yf yl yw yz xA yA))(HQ:Hid (hHA62 Q V g8 g9 i k xo yo xc yc xn yn xk xf xl xw xz yk yf yl yw yz xA yA zA zB zC zD zE zF zG zH zK zL zM zR zS zT zU zV zW zX zY zZ za zb zc zd ze zf zg zh zi zj zk zl zm zn zo zp zq zr zs zt zu zv zw zx zy zz zAA zAB zAC zAD zAE zAF zAG zAH zAU zAV zAW zAX zAY zAZ zAa zAb zAc zAd zAe zAf zAg zAh zAi zAj zAk zAl)) :
  (regionOf Tryz.f19 13).wp Tryz.prog Q ⟨#[zA,zB,zC,zD,zE,zF,zG,zH,.pointer (some ⟨g8,0,none⟩),.pointer (some ⟨g9,0,none⟩),zK,zL,zM,iv i,iv k,zP,zQ,zR,zS,zT,zU,zV,zW,zX,zY,zZ,za,zb,zc,zd,ze,zf,zg,zh,zi,zj,zk,zl,zm,zn,zo,zp,zq,zr,zs,zt,zu,zv,zw,zx,zy,zz,zAA,zAB,zAC,zAD,zAE,zAF,zAG,zAH,zAI,zAJ,zAK,zAL,zAM,zAN,zAO,zAP,zAQ,zAR,zAS,zAT,zAU,zAV,zAW,zAX,zAY,zAZ,zAa,zAb,zAc,zAd,zAe,zAf,zAg,zAh,zAi,zAj,zAk,zAl],[]⟩ V:=by
 refine go0 (ops:=ops23_13) (r:=13) (n:=16) (S:=fun W=>cA W g9 0 (.slice (some ⟨ba,oa,none⟩) na ca)∧cA W g8 0 (.slice (some ⟨bb,ob,none⟩) nb cb)∧cA W ba (oa+i*7) (.string xn)∧cA W ba (oa+i*7+1) (iv xk)∧cA W ba (oa+i*7+2) (iv xf)∧cA W ba (oa+i*7+3) (iv xl)∧cA W ba (oa+i*7+4) (.slice xA xo xc)∧cA W ba (oa+i*7+5) (iv xw)∧cA W ba (oa+i*7+6) (iv xz)∧cA W bb (ob+k*7) (.string yn)∧cA W bb (ob+k*7+1) (iv yk)∧cA W bb (ob+k*7+2) (iv yf)∧cA W bb (ob+k*7+3) (iv yl)∧cA W bb (ob+k*7+4) (.slice yA yo yc)∧cA W bb (ob+k*7+5) (iv yw)∧cA W bb (ob+k*7+6) (iv yz)) (fun W hb=>HS.out W hb) fun V0 HB0 hHeld=>?_
 have hi0:(0:Int)≤(i:Int):=by omega
 have hk0:(0:Int)≤(k:Int):=by omega
 have hi1:(i:Int)<(na:Int):=by have:=HI.out;omega
 have hk1:(k:Int)<(nb:Int):=by have:=HI.out;omega
 refine tk 0 (.pointer (some ⟨g9,0,none⟩)) ?_;refine tk 1 (.pointer (some ⟨g9,0,none⟩)) ?_;refine tk 2 (.slice (some ⟨ba,oa,none⟩) na ca) ?_;refine tk 3 (iv i) ?_;refine tk 4 (.pointer (some ⟨ba,oa+i*7,none⟩)) ?_;refine tk 5 (.agg #[.string xn,iv xk,iv xf,iv xl,.slice xA xo xc,iv xw,iv xz]) ?_;refine tk 6 (.pointer (some ⟨g8,0,none⟩)) ?_;refine tk 7 (.pointer (some ⟨g8,0,none⟩)) ?_;refine tk 8 (.slice (some ⟨bb,ob,none⟩) nb cb) ?_;refine tk 9 (iv k) ?_;refine tk 10 (.pointer (some ⟨bb,ob+k*7,none⟩)) ?_;refine tk 11 (.agg #[.string yn,iv yk,iv yf,iv yl,.slice yA yo yc,iv yw,iv yz]) ?_;exact st23_13_S HI HS HQ HB0
end
section
variable{Q:Exit→Act→World→Prop}
theorem tkN{P:Program}{ops:Array Oper}{md:Region.Mode}{S:World→Prop}{fuel:Nat}{listed l':Array Bool}{a a':Act}{w:World}(i:Nat)(h:wpAnyH P md ops Q S fuel l' a' w)(hi:ops[i]?=some (opN ops i):=by kernel_rfl)(hb:takeB md ops listed i=true:=by kernel_rfl)(hy:YieldsIf P ops S (opN ops i) undef a:=by
   generalize e:opN _ _=o;conv at e=>lhs;whnf
   subst e;refine Or.inr ⟨by first | rfl | kernel_rfl,rfl⟩)(hS:S w:=by first | assumption | trivial)(hl:listed.setIfInBounds i true=l':=by
   simp only[List.setIfInBounds_toArray,List.set_cons_zero,List.set_cons_succ];rfl)(ha:a.put (opN ops i).dst undef=a':=by
   generalize e:opN _ _=o;conv at e=>lhs;whnf
   subst e
   (try simp only[Act.put,List.setIfInBounds_toArray,List.set_cons_zero,List.set_cons_succ])
   rfl)(hQ:∀c a w,Q (.panic c) (a.put (opN ops i).dst undef) w→Q (.panic c) a w:=by exact fun _ _ _ h=>h):wpAnyH P md ops Q S (fuel+1) listed a w:=by
 subst hl ha;simp only[takeB,Bool.and_eq_true]at hb;exact wpAnyH_take hi hb.1.1 hb.1.2 hb.2 hQ hy hS h
noncomputable def ops23_14:Array Oper:=opsOf (regionOf Tryz.f19 14)
theorem reg23_14{V:World}{gx gy xo xc yo yc:Nat}{xn yn:ByteArray}{xk xf xl xw xz yk yf yl yw yz:Int}{xA yA:Option Addr}{bq be:Bool}{zA zB zC zD zE zF zG zH zI zJ zK zL zM zN zO zR zS zT zU zV zW zX zY zZ za zb zc zd ze zf zg zh zi zj zk zl zm zn zo zp zq zr zs zt zu zv zw zx zy zz zAA zAB zAC zAD zAE zAF zAG zAH zAI zAJ zAK zAL zAM zAN zAO zAP zAQ zAR zAS zAT zAU zAV zAW zAX zAY zAZ zAa zAb zAc zAd zAe zAf zAg zAh zAi zAj zAk zAl:Value}(HS:Hid (∀W,BW V W→(fun W=>cA W gx 0 (.string xn)∧cA W gx 1 (iv xk)∧cA W gx 2 (iv xf)∧cA W gx 3 (iv xl)∧cA W gx 4 (.slice xA xo xc)∧cA W gx 5 (iv xw)∧cA W gx 6 (iv xz)∧cA W gy 0 (.string yn)∧cA W gy 1 (iv yk)∧cA W gy 2 (iv yf)∧cA W gy 3 (iv yl)∧cA W gy 4 (.slice yA yo yc)∧cA W gy 5 (iv yw)∧cA W gy 6 (iv yz)) W))(HQB:Hid ((xn.toList==yn.toList&&xk==yk&&xf==yf&&xl==yl&&xw==yw&&xz==yz)=bq))(HE:Hid (∀W,BW V W→Cs 69 #[.slice xA xo xc,.slice yA yo yc] W (Rt W (.bool be))))(HP:Hid (∀W,Cs 68 #[.agg #[.string xn,iv xk,iv xf,iv xl,.slice xA xo xc,iv xw,iv xz]] W (Rt W (.agg #[.string xn,iv xk,iv xf,iv xl,iv xw,iv xz]))))(HP2:Hid (∀W,Cs 68 #[.agg #[.string yn,iv yk,iv yf,iv yl,.slice yA yo yc,iv yw,iv yz]] W (Rt W (.agg #[.string yn,iv yk,iv yf,iv yl,iv yw,iv yz]))))(HQ:Hid (∀u72 u73 u74 u75 u76 u77 u78 u79 u80 u81 u82 W',BW V W'→Q .normal ⟨#[zA,zB,zC,zD,zE,zF,zG,zH,zI,zJ,zK,zL,zM,zN,zO,.pointer (some ⟨gx,0,none⟩),.pointer (some ⟨gy,0,none⟩),zR,zS,zT,zU,zV,zW,zX,zY,zZ,za,zb,zc,zd,ze,zf,zg,zh,zi,zj,zk,zl,zm,zn,zo,zp,zq,zr,zs,zt,zu,zv,zw,zx,zy,zz,zAA,zAB,zAC,zAD,zAE,zAF,zAG,zAH,zAI,zAJ,zAK,zAL,zAM,zAN,zAO,zAP,zAQ,zAR,zAS,zAT,u72,u73,u74,u75,u76,u77,u78,u79,u80,u81,u82,.bool (bq&&be),zAg,zAh,zAi,zAj,zAk,zAl],[]⟩ W')) :
  (regionOf Tryz.f19 14).wp Tryz.prog Q ⟨#[zA,zB,zC,zD,zE,zF,zG,zH,zI,zJ,zK,zL,zM,zN,zO,.pointer (some ⟨gx,0,none⟩),.pointer (some ⟨gy,0,none⟩),zR,zS,zT,zU,zV,zW,zX,zY,zZ,za,zb,zc,zd,ze,zf,zg,zh,zi,zj,zk,zl,zm,zn,zo,zp,zq,zr,zs,zt,zu,zv,zw,zx,zy,zz,zAA,zAB,zAC,zAD,zAE,zAF,zAG,zAH,zAI,zAJ,zAK,zAL,zAM,zAN,zAO,zAP,zAQ,zAR,zAS,zAT,zAU,zAV,zAW,zAX,zAY,zAZ,zAa,zAb,zAc,zAd,zAe,zAf,zAg,zAh,zAi,zAj,zAk,zAl],[]⟩ V:=by
 refine go0 (ops:=ops23_14) (r:=14) (n:=12) (S:=fun W=>cA W gx 0 (.string xn)∧cA W gx 1 (iv xk)∧cA W gx 2 (iv xf)∧cA W gx 3 (iv xl)∧cA W gx 4 (.slice xA xo xc)∧cA W gx 5 (iv xw)∧cA W gx 6 (iv xz)∧cA W gy 0 (.string yn)∧cA W gy 1 (iv yk)∧cA W gy 2 (iv yf)∧cA W gy 3 (iv yl)∧cA W gy 4 (.slice yA yo yc)∧cA W gy 5 (iv yw)∧cA W gy 6 (iv yz)) (fun W hb=>HS.out W hb) fun V0 HB0 hHeld=>?_
 refine tk 0 (.agg #[.string xn,iv xk,iv xf,iv xl,.slice xA xo xc,iv xw,iv xz]) ?_;refine tk 2 (.agg #[.string yn,iv yk,iv yf,iv yl,.slice yA yo yc,iv yw,iv yz]) ?_;refine rd1 1 fun K' hK=>?_
 go_simp;refine(HP.out _).mono ?_;rintro e w1 ⟨rfl,hb⟩;have HB1:=Lq (bT HB0.out hb);refine hK.out _ _ (HS.out _ HB1.out) (fun hHeld=>?_)
 clear hK hb;refine rd1 3 fun K' hK=>?_
 go_simp;refine(HP2.out _).mono ?_;rintro e w2 ⟨rfl,hb⟩;have HB2:=Lq (bT HB1.out hb);refine hK.out _ _ (HS.out _ HB2.out) (fun hHeld=>?_)
 clear hK hb;refine rd1 4 fun K' hK=>?_
 go_simp;have hif:(if xn.toList=yn.toList then if xk=yk then if xf=yf then if xl=yl then if xw=yw then if xz=yz then Result.ok (Next.value (Value.bool true)) w2 else Result.ok (Next.value (Value.bool false)) w2 else Result.ok (Next.value (Value.bool false)) w2 else Result.ok (Next.value (Value.bool false)) w2 else Result.ok (Next.value (Value.bool false)) w2 else Result.ok (Next.value (Value.bool false)) w2 else Result.ok (Next.value (Value.bool false)) w2)=Result.ok (Next.value (Value.bool bq)) w2:=by rw[←HQB.out];by_cases h1:xn.toList=yn.toList<;>by_cases h2:xk=yk<;>by_cases h3:xf=yf<;>by_cases h4:xl=yl<;>by_cases h5:xw=yw<;>by_cases h6:xz=yz<;>simp[*]
 rw[hif];clear hif;go_simp;refine hK.out _ _ (HS.out _ HB2.out) (fun hHeld=>?_)
 clear hK;refine tk 5 (.bool bq) ?_;cases bq with
 | true =>
  refine tk 6 (.pointer (some ⟨gx,4,none⟩)) ?_;refine tk 7 (.slice xA xo xc) ?_;refine tk 8 (.pointer (some ⟨gy,4,none⟩)) ?_;refine tk 9 (.slice yA yo yc) ?_;refine rd1 10 fun K' hK=>?_
  go_simp;refine(HE.out _ HB2.out).mono ?_;rintro e w3 ⟨rfl,hb⟩;have HB3:=Lq (bT HB2.out hb);refine hK.out _ _ (HS.out _ HB3.out) (fun hHeld=>?_)
  clear hK hb;refine tk 11 (.bool be) ?_;refine wpAnyH_done (by kernel_rfl) ?_ _
  exact NoPanic.normal (HQ.out _ _ _ _ _ _ _ _ _ _ _ _ HB3.out)
 | false =>
  refine tkN 6 ?_;refine tkN 7 ?_;refine tkN 8 ?_;refine tkN 9 ?_;refine tkN 10 ?_;refine tk 11 (.bool false) ?_;refine wpAnyH_done (by kernel_rfl) ?_ _
  exact NoPanic.normal (HQ.out _ _ _ _ _ _ _ _ _ _ _ _ HB2.out)
end
theorem span32_any(lo hi:Int)(w:World):Cs 28 #[iv lo,iv hi] w (Rt w (.agg #[iv lo,iv hi])):=by
 obtain⟨Wa,W1,hWa,hW1,hb1,hqa,hba,hq1⟩:=twoMade w 36 (iv 0) (iv 0) (iv lo) (iv hi);obtain⟨g,hg⟩:=ex w.heap.size;rw[hg]at hW1 hqa hq1;have f0:=hqa.frozen 0;have f1:=hqa.frozen 1;have e0:=hqa.c 0;have e1:=hqa.c 1;have el:=hqa.lt;have d0:=hq1.c 0;have d1:=hq1.c 1;have HB:=Lq hb1;clear hb1 hqa hba hq1;go_enter Tryz.func28,Tryz.ntmps28
 go_wp2_with fail;exact bodyPost_ret (v:=.agg #[iv lo,iv hi]) (by simp[results,Tryz.results28,go_sem,d0,d1]) rfl ⟨rfl,HB.out⟩
theorem part31_any(yn:ByteArray)(yk yf yl yw yz:Int)(yA:Option Addr)(n yc:Nat)(w:World):Cs 27 #[.string yn,iv yk,iv yf,iv yl,.agg #[iv yw,iv yz],.slice yA n yc] w (Rt w (.agg #[.string yn,iv yk,iv yf,iv yl,.slice yA n yc,iv yw,iv yz])):=by
 obtain⟨W1,hW1⟩:=ex (w.alloc (.cells #[iv yw,iv yz] 36));have b1:BW w W1:=by rw[←hW1];exact bA (bR w) _
 have q1:Blk W1 w.heap.size 36 #[iv yw,iv yz]:=by rw[←hW1];exact Blk.new w 36 _
 obtain⟨g10,hg10⟩:=ex w.heap.size;rw[hg10]at q1;obtain⟨Wa,W2,hWa,hW2,hb2,hqa,hba,hq2⟩:=partMade W1 yn yk yf yl yw yz yA yc n;obtain⟨g,hg⟩:=ex W1.heap.size;rw[hg]at hW2 hqa hq2;have c0:=(q1.keep hba).c 0;have c1:=(q1.keep hba).c 1;obtain⟨f0,f1,f2,f3,f4,f5,f6⟩:=hqa.f7;obtain⟨e0,e1,e2,e3,e4,e5,e6⟩:=hqa.c7;have el:=hqa.lt;obtain⟨d0,d1,d2,d3,d4,d5,d6⟩:=hq2.c7;have HB:=Lq (bT b1 hb2);clear b1 q1 hb2 hqa hba hq2;go_enter Tryz.func27,Tryz.ntmps27
 go_wp2_with fail;exact bodyPost_ret (v:=.agg #[.string yn,iv yk,iv yf,iv yl,.slice yA n yc,iv yw,iv yz]) (by simp[results,Tryz.results27,go_sem,d0,d1,d2,d3,d4,d5,d6]) rfl ⟨rfl,HB.out⟩
end Go.Proofs.YtigcophcpboanaaGreatDoor
