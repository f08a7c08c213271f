/- waste: the reference finds equal yards equal (printed by mkWG4.py). Awake of layer 9: the .. -/
import Derived.Test.YtbillnhcmkpohaaGreatDoorM21
set_option maxRecDepth 1000000
set_option maxHeartbeats 0
namespace Go.Proofs.YtbillnhcmkpohaaGreatDoor
open Go.RowKit
theorem AA(A B:Option Addr)(l:List cM)(c m:Nat)(w:World)(h:aG 4 dq w w.heap.size A l)(j:aG 4 dq w w.heap.size B l)(o:l.length≤1000000) :
  Cs 124 #[.slice A l.length c,.slice B l.length m] w (Rt w (.bool true)):=by
 have f:Hid (∀W,BW w W→aG 4 dq W w.heap.size A l):=Lq fun W hb=>h.below hb (lr _)
 have g:Hid (∀W,BW w W→aG 4 dq W w.heap.size B l):=Lq fun W hb=>j.below hb (lr _)
 clear h j;go_enter Tryz.func124,Tryz.ntmps124
 go_wp2_with fail;go_loopw [5,6] (fun b i wr=>∃k:Nat,k≤l.length∧i=iv k∧b=.bool true∧Hid (BW w wr)) (fun _ i _=>l.length-(intOf i).toNat)
 case atStart=>exact⟨0,Nat.zero_le _,rfl,rfl,Lq (bR _)⟩
 case round =>
  obtain⟨k,n,rfl,rfl,a⟩:=hrel;have hk0:=nn k;have hkw:IntKind.i64.wrap ((k:Int)+1)=(k:Int)+1:=by rw[IntKind.wrap_i64];omega
  by_cases hlt:k<l.length
  ·obtain⟨x,hx⟩:=gX (l:=l) (i:=k) hlt;obtain⟨b1,o1,rfl, -,h1⟩:=f.out wr a.out k x hx;obtain⟨b2,o2,rfl, -,h2⟩:=g.out wr a.out k x hx;obtain⟨ck,cp,cl,ch⟩:=x;have HS2:Hid (∀W,BW wr W→cA W b1 (o1+k*4) (iv ck)∧cA W b1 (o1+k*4+1) (iv cp)∧cA W b1 (o1+k*4+2) (iv cl)∧cA W b1 (o1+k*4+3) (iv ch)∧cA W b2 (o2+k*4) (iv ck)∧cA W b2 (o2+k*4+1) (iv cp)∧cA W b2 (o2+k*4+2) (iv cl)∧cA W b2 (o2+k*4+3) (iv ch)):=Lq fun W hb=>⟨kC hb (h1 0 _ rfl),kC hb (h1 1 _ rfl),kC hb (h1 2 _ rfl),kC hb (h1 3 _ rfl),kC hb (h2 0 _ rfl),kC hb (h2 1 _ rfl),kC hb (h2 2 _ rfl),kC hb (h2 3 _ rfl)⟩
   clear hx h1 h2;go_wp2_with fail;go_upto_region 5 with fail
   go_region_held3 (fun W=>cA W b1 (o1+k*4) (iv ck)∧cA W b1 (o1+k*4+1) (iv cp)∧cA W b1 (o1+k*4+2) (iv cl)∧cA W b1 (o1+k*4+3) (iv ch)∧cA W b2 (o2+k*4) (iv ck)∧cA W b2 (o2+k*4+1) (iv cp)∧cA W b2 (o2+k*4+2) (iv cl)∧cA W b2 (o2+k*4+3) (iv ch)) (first | exact HS2.out _ (aZ (bR _)) | exact HS2.out _ (fc (bR _))) (first | fail)
   have d:Hid (BW w wr.drew):=Lq (bT a.out (fc (bR wr)));generalize wr.drew=wq at d ⊢;have hkl:k+1≤l.length:=hlt;go_wp2_with fail;go_roundw
   case measure=>simp[intOf];omega
   case rel=>exact⟨k+1,hkl,by go_num,rfl,d⟩
  ·obtain rfl:k=l.length:=by omega
   go_wp2_with fail;go_ret
   exact⟨rfl,a.out⟩
theorem Hz(y:ar)(A g:aI)(w:World)(H:aO w w.heap.size y A)(C:aO w w.heap.size y g)(n:y.kinds.length≤1000)(o:y.places.length≤1000)(F:y.first.length≤1000)(G:y.papers.length≤1000)(I:y.last.length≤1000) :
  Cs 68 #[.agg (ak y A),.agg (ak y g)] w (Rt w (.bool true)):=by
 obtain⟨D,B,h⟩:=nA w (.cells (ak y A) 46);obtain⟨g2,hg2⟩:=ex w.heap.size;obtain⟨W2,hW2,b2⟩:=nA D (.cells (ak y g) 46);obtain⟨g3,hg3⟩:=ex D.heap.size;have HQ2:Hid (aa W2 g2 46 (ak y A)):=Lq (hg2▸bB B b2);have HQ3:Hid (aa W2 g3 46 (ak y g)):=Lq (hg3▸bB hW2 (bR W2));have HB:=Lq (bT h b2);have HA:Hid (∀W,BW W2 W→aO W W.heap.size y A∧aO W W.heap.size y g):=Lq fun W d=>⟨(H.below (bT HB.out d) (lr _)).more (bT HB.out d).size,(C.below (bT HB.out d) (lr _)).more (bT HB.out d).size⟩
 have r:Hid (∀W,BW W2 W→Cs 55 #[.slice A.k y.kinds.length A.ck,.slice g.k y.kinds.length g.ck] W (Rt W (.bool true))):=Lq fun W d=>pN _ _ _ _ _ W (HA.out W d).1.k (HA.out W d).2.k (by omega)
 have s:Hid (∀W,BW W2 W→Cs 55 #[.slice A.p y.places.length A.cp,.slice g.p y.places.length g.cp] W (Rt W (.bool true))):=Lq fun W d=>pN _ _ _ _ _ W (HA.out W d).1.p (HA.out W d).2.p (by omega)
 have t:Hid (∀W,BW W2 W→Cs 124 #[.slice A.f y.first.length A.cf,.slice g.f y.first.length g.cf] W (Rt W (.bool true))):=Lq fun W d=>AA _ _ _ _ _ W (HA.out W d).1.f (HA.out W d).2.f (by omega)
 have u:Hid (∀W,BW W2 W→Cs 124 #[.slice A.l y.last.length A.cl,.slice g.l y.last.length g.cl] W (Rt W (.bool true))):=Lq fun W d=>AA _ _ _ _ _ W (HA.out W d).1.l (HA.out W d).2.l (by omega)
 have v:Hid (∀W,BW W2 W→aG 5 iS W W.heap.size A.a y.papers):=Lq fun W d=>(HA.out W d).1.a
 have z:Hid (∀W,BW W2 W→aG 5 iS W W.heap.size g.a y.papers):=Lq fun W d=>(HA.out W d).2.a
 obtain⟨M,O,L,K,N,S,U,R,E,T⟩:=A;obtain⟨Bk,Bp,Bf,Ba,Bl,dk,dp,df,da,dl⟩:=g;obtain⟨ks,ps,fs,l,ls⟩:=y;simp only at HQ2 HQ3 r s t u v z n o F G I;obtain⟨x0,x1,x2,x3,x4⟩:=HQ2.out.c5;obtain⟨y0,y1,y2,y3,y4⟩:=HQ3.out.c5;clear h b2 H C HA;go_enter Tryz.func68,Tryz.ntmps68
 go_wp2_with fail;refine(r.out _ (bR _)).mono ?_;rintro e J ⟨rfl,d⟩;have HB1:Hid (BW W2 J):=Lq (d);clear d x0 x1 x2 x3 x4 y0 y1 y2 y3 y4;have j:=HQ2.out.keep HB1.out;have q3:=HQ3.out.keep HB1.out;obtain⟨x0,x1,x2,x3,x4⟩:=j.c5;obtain⟨y0,y1,y2,y3,y4⟩:=q3.c5;clear j q3;go_wp2_with fail;refine(s.out _ HB1.out).mono ?_;rintro e w2 ⟨rfl,d⟩;have HB2:Hid (BW W2 w2):=Lq (bT HB1.out d);clear d x0 x1 x2 x3 x4 y0 y1 y2 y3 y4;have j:=HQ2.out.keep HB2.out;have q3:=HQ3.out.keep HB2.out;obtain⟨x0,x1,x2,x3,x4⟩:=j.c5;obtain⟨y0,y1,y2,y3,y4⟩:=q3.c5;clear j q3;go_wp2_with fail;refine(t.out _ HB2.out).mono ?_;rintro e w3 ⟨rfl,d⟩;have HB3:Hid (BW W2 w3):=Lq (bT HB2.out d);clear d x0 x1 x2 x3 x4 y0 y1 y2 y3 y4;have j:=HQ2.out.keep HB3.out;have q3:=HQ3.out.keep HB3.out;obtain⟨x0,x1,x2,x3,x4⟩:=j.c5;obtain⟨y0,y1,y2,y3,y4⟩:=q3.c5;clear j q3;go_wp2_with fail;refine(u.out _ HB3.out).mono ?_;rintro e w4 ⟨rfl,d⟩;have HB4:Hid (BW W2 w4):=Lq (bT HB3.out d);clear d x0 x1 x2 x3 x4 y0 y1 y2 y3 y4;have j:=HQ2.out.keep HB4.out;have q3:=HQ3.out.keep HB4.out;obtain⟨x0,x1,x2,x3,x4⟩:=j.c5;obtain⟨y0,y1,y2,y3,y4⟩:=q3.c5;clear j q3;go_wp2_with fail;clear x0 x1 x2 x3 x4 y0 y1 y2 y3 y4;go_loopw [5,6] (fun b i wr=>∃k:Nat,k≤l.length∧i=iv k∧b=.bool true∧Hid (BW W2 wr)) (fun _ i _=>l.length-(intOf i).toNat)
 case atStart=>exact⟨0,Nat.zero_le _,rfl,rfl,HB4⟩
 case round =>
  clear HB4;obtain⟨k,V,rfl,rfl,m⟩:=hrel;have hk0:=nn k;have hkw:IntKind.i64.wrap ((k:Int)+1)=(k:Int)+1:=by rw[IntKind.wrap_i64];omega
  have j:=HQ2.out.keep m.out;have q3:=HQ3.out.keep m.out;have x3:=j.c 3;have y3:=q3.c 3;clear j q3;by_cases hlt:k<l.length
  ·obtain⟨x,hx⟩:=gX (l:=l) (i:=k) hlt;obtain⟨h,o1,rfl, -,n⟩:=v.out wr m.out k x hx;obtain⟨b2,o2,rfl, -,o⟩:=z.out wr m.out k x hx;obtain⟨pk,pf,pt,pg,pc⟩:=x;have HS2:Hid (∀W,BW wr W→cA W h (o1+k*5) (iv pk)∧cA W h (o1+k*5+1) (iv pf)∧cA W h (o1+k*5+2) (iv pt)∧cA W h (o1+k*5+3) (iv pg)∧cA W h (o1+k*5+4) (iv pc)∧cA W b2 (o2+k*5) (iv pk)∧cA W b2 (o2+k*5+1) (iv pf)∧cA W b2 (o2+k*5+2) (iv pt)∧cA W b2 (o2+k*5+3) (iv pg)∧cA W b2 (o2+k*5+4) (iv pc)):=Lq fun W d=>⟨kC d (n 0 _ rfl),kC d (n 1 _ rfl),kC d (n 2 _ rfl),kC d (n 3 _ rfl),kC d (n 4 _ rfl),kC d (o 0 _ rfl),kC d (o 1 _ rfl),kC d (o 2 _ rfl),kC d (o 3 _ rfl),kC d (o 4 _ rfl)⟩
   clear hx n o;go_wp2_with fail;go_upto_region 5 with fail
   go_region_held3 (fun W=>cA W g2 3 (.slice (some ⟨h,o1,none⟩) l.length E)∧cA W g3 3 (.slice (some ⟨b2,o2,none⟩) l.length da)∧cA W h (o1+k*5) (iv pk)∧cA W h (o1+k*5+1) (iv pf)∧cA W h (o1+k*5+2) (iv pt)∧cA W h (o1+k*5+3) (iv pg)∧cA W h (o1+k*5+4) (iv pc)∧cA W b2 (o2+k*5) (iv pk)∧cA W b2 (o2+k*5+1) (iv pf)∧cA W b2 (o2+k*5+2) (iv pt)∧cA W b2 (o2+k*5+3) (iv pg)∧cA W b2 (o2+k*5+4) (iv pc)) (first | exact⟨x3,y3,HS2.out _ (aZ (bR _))⟩) (first | fail)
   have q:Hid (BW W2 wr.drew):=Lq (bT m.out (fc (bR wr)));generalize wr.drew=wq at q ⊢;have hkl:k+1≤l.length:=hlt;clear x3 y3;go_wp2_with fail;go_roundw
   case measure=>simp[intOf];omega
   case rel=>exact⟨k+1,hkl,by go_num,rfl,q⟩
  ·obtain rfl:k=l.length:=by omega
   go_wp2_with fail;go_ret
   exact⟨rfl,bT HB.out m.out⟩
section
variable{T:Array Value}{Q:Exit→Act→World→Prop}{c13 c15 c17 p19 p2 p21 p25 p7:Nat}{A13 A15 A17:Option Addr}{V V0:World}
noncomputable def lR:Array Oper:=aU (aF Tryz.f19 15)
abbrev ko(p2 p7 p19 p21 p25:Nat)(Ax Az:aI)(W:World):Prop:=W.cell? ⟨p7,0,none⟩=some (iv (-1))∧cA W p7 1 (iv 0)∧cA W p7 2 (iv 1)∧cA W p7 3 (iv 100)∧cA W p19 0 (iv 500)∧cA W p19 1 (iv 600)∧cA W p21 0 (iv 300)∧cA W p21 1 (iv 300)∧cA W p25 0 (.slice Ax.k (aC true).kinds.length Ax.ck)∧cA W p25 1 (.slice Ax.p (aC true).places.length Ax.cp)∧cA W p25 2 (.slice Ax.f (aC true).first.length Ax.cf)∧cA W p25 3 (.slice Ax.a (aC true).papers.length Ax.ca)∧cA W p25 4 (.slice Ax.l (aC true).last.length Ax.cl)∧cA W p2 0 (.slice Az.k (aC true).kinds.length Az.ck)∧cA W p2 1 (.slice Az.p (aC true).places.length Az.cp)∧cA W p2 2 (.slice Az.f (aC true).first.length Az.cf)∧cA W p2 3 (.slice Az.a (aC true).papers.length Az.ca)∧cA W p2 4 (.slice Az.l (aC true).last.length Az.cl)
theorem AB(w:World):Cs 66 #[] w fun e w'=>e=.returned (.string jA)∧w'=w:=by
 go_enter Tryz.func66,Tryz.ntmps66
 go_wp2_with fail;go_ret
 exact⟨rfl,rfl⟩
abbrev AC(T:Array Value)(p2 p7 p19 p21 p25 c13 c15 c17:Nat)(A13 A15 A17:Option Addr):Prop:=aq 210 T [(2,pT p2 0),(3,.bool true),(4,iv 0),(5,.bool false),(6,iv 0),(7,pT p7 0),(8,iv 0),(9,.bool true),(10,iv 0),(11,.bool false),(12,iv 0),(13,.slice A13 1 c13),(14,iv 0),(15,.slice A15 1 c15),(16,iv 0),(17,.slice A17 2 c17),(18,iv 0),(19,pT p19 0),(20,iv 0),(21,pT p21 0),(22,iv 0),(23,.string jA),(24,iv 0),(25,pT p25 0),(26,iv 0),(28,iv 9)]
theorem HU{Ax Az:aI}(b:Hid (∀W,BW V W→ko p2 p7 p19 p21 p25 Ax Az W))(a:Hid (BW V V0))(H:AC T p2 p7 p19 p21 p25 c13 c15 c17 A13 A15 A17)(hK:Hid (∀T' W',BW V W'→aq 210 T' [(2,pT p2 0),(7,pT p7 0),(9,.bool true),(11,.bool false),(13,.slice A13 1 c13),(15,.slice A15 1 c15),(17,.slice A17 2 c17),(19,pT p19 0),(21,pT p21 0),(23,.string jA),(25,pT p25 0),(163,.bool true)]→wpAnyH Tryz.prog .any lR (NoPanic Q) (ko p2 p7 p19 p21 p25 Ax Az) 47 (bJ 105 58) ⟨T',[]⟩ W')):wpAnyH Tryz.prog .any lR (NoPanic Q) (ko p2 p7 p19 p21 p25 Ax Az) 105 (bJ 105 0) ⟨T,[]⟩ V0:=by
 have c:=b.out _ a.out;have x0:=H.g 4;refine bM 0 106 (iv 0) H ?_;intro T H;have x0:=H.g 106;refine bM 1 107 (.bool true) H ?_;intro T H;have x0:=H.g 107;refine bM 2 108 (.bool true) H ?_;intro T H;refine dj 2 108 6 (iv 0) H fun T H=>?_
 refine dj 6 112 8 (iv 0) H fun T H=>?_
 refine dj 10 116 10 (iv 0) H fun T H=>?_
 refine dj 14 120 12 (iv 0) H fun T H=>?_
 refine dj 18 124 14 (iv 0) H fun T H=>?_
 refine dj 22 128 16 (iv 0) H fun T H=>?_
 refine dj 26 132 18 (iv 0) H fun T H=>?_
 refine dj 30 136 20 (iv 0) H fun T H=>?_
 refine dj 34 140 22 (iv 0) H fun T H=>?_
 refine dj 38 144 24 (iv 0) H fun T H=>?_
 refine dj 42 148 26 (iv 0) H fun T H=>?_
 refine dj 46 152 28 (iv 9) H fun T H=>?_
 refine z6 50 156 3 H fun T H=>?_
 refine dj 53 159 5 (.bool false) H fun T H=>?_
 exact hK.out _ _ a.out (aq.cons (H.get 2 _) (aq.cons (H.get 7 _) (aq.cons (H.get 9 _) (aq.cons (H.get 11 _) (aq.cons (H.get 13 _) (aq.cons (H.get 15 _) (aq.cons (H.get 17 _) (aq.cons (H.get 19 _) (aq.cons (H.get 21 _) (aq.cons (H.get 23 _) (aq.cons (H.get 25 _) (aq.cons (H.get 163 _) (aq.nil H.1)))))))))))))
theorem H8{Ax Az:aI}(a:Hid (∀W,BW V W→ko p2 p7 p19 p21 p25 Ax Az W))(h:Hid (am iv V V.heap.size A13 [0]))(i:Hid (am iv V V.heap.size A15 [1]))(j:Hid (am iv V V.heap.size A17 [0,1]))(k:Hid (BW V V0))(H:aq 210 T [(2,pT p2 0),(7,pT p7 0),(9,.bool true),(11,.bool false),(13,.slice A13 1 c13),(15,.slice A15 1 c15),(17,.slice A17 2 c17),(19,pT p19 0),(21,pT p21 0),(23,.string jA),(25,pT p25 0),(163,.bool true)])(hK:Hid (∀T' W',BW V W'→aq 210 T' [(2,pT p2 0),(19,pT p19 0),(21,pT p21 0),(23,.string jA),(25,pT p25 0),(190,.bool true)]→wpAnyH Tryz.prog .any lR (NoPanic Q) (ko p2 p7 p19 p21 p25 Ax Az) 20 (bJ 105 85) ⟨T',[]⟩ W')):wpAnyH Tryz.prog .any lR (NoPanic Q) (ko p2 p7 p19 p21 p25 Ax Az) 47 (bJ 105 58) ⟨T,[]⟩ V0:=by
 have m:=a.out _ k.out;have d:=H.g 7;refine bM 58 164 (.agg #[iv (-1),iv 0,iv 1,iv 100]) H ?_ (rI 57 163 H);intro T H;refine bM 59 165 (.agg #[iv (-1),iv 0,iv 1,iv 100]) H ?_ (rI 57 163 H);intro T H;have d:=H.g 164;have x1:=H.g 165;refine bM 60 166 (.bool true) H ?_ (rI 57 163 H);intro T H;refine fB 61 167 163 166 H fun T H=>?_
 refine z6 62 168 9 H fun T H=>?_
 refine dj 65 171 11 (.bool false) H fun T H=>?_
 have d:=H.g 13;refine bM 70 176 (.slice A13 1 c13) H ?_ (rI 69 175 H);intro T H;refine lP 71 177 (.slice (some ⟨V0.heap.size,0,none⟩) 1 1) (V0.alloc (.cells #[iv 0] 3)) H ?_ (a.out _ (bA k.out _)) (rI 69 175 H);intro T H;have d:=H.g 176;have x1:=H.g 177;refine fA 72 178 56 #[.slice A13 1 c13,.slice (some ⟨V0.heap.size,0,none⟩) 1 1] H (fJ a.out (qi (l:=[0]) c13 h.out (by decide) k.out)) ?_ (rI 69 175 H)
 rintro _ b T m ⟨rfl,f⟩ H;have K72:=Lq f;refine fB 73 179 175 178 H fun T H=>?_
 have d:=H.g 15;refine bM 75 181 (.slice A15 1 c15) H ?_ (rI 74 180 H);intro T H;refine lP 76 182 (.slice (some ⟨b.heap.size,0,none⟩) 1 1) (b.alloc (.cells #[iv 1] 3)) H ?_ (a.out _ (bA K72.out _)) (rI 74 180 H);intro T H;have d:=H.g 181;have x1:=H.g 182;refine fA 77 183 56 #[.slice A15 1 c15,.slice (some ⟨b.heap.size,0,none⟩) 1 1] H (fJ a.out (qi (l:=[1]) c15 i.out (by decide) K72.out)) ?_ (rI 74 180 H)
 rintro _ c T m ⟨rfl,f⟩ H;have K77:=Lq f;refine fB 78 184 180 183 H fun T H=>?_
 have d:=H.g 17;refine bM 80 186 (.slice A17 2 c17) H ?_ (rI 79 185 H);intro T H;refine lP 81 187 (.slice (some ⟨c.heap.size,0,none⟩) 2 2) (c.alloc (.cells #[iv 0,iv 1] 3)) H ?_ (a.out _ (bA K77.out _)) (rI 79 185 H);intro T H;have d:=H.g 186;have x1:=H.g 187;refine fA 82 188 56 #[.slice A17 2 c17,.slice (some ⟨c.heap.size,0,none⟩) 2 2] H (fJ a.out (qi (l:=[0,1]) c17 j.out (by decide) K77.out)) ?_ (rI 79 185 H)
 rintro _ n T m ⟨rfl,f⟩ H;have K82:=Lq f;refine fB 83 189 185 188 H fun T H=>?_
 exact hK.out _ _ K82.out (aq.cons (H.get 2 _) (aq.cons (H.get 19 _) (aq.cons (H.get 21 _) (aq.cons (H.get 23 _) (aq.cons (H.get 25 _) (aq.cons (H.get 190 _) (aq.nil H.1)))))))
theorem Ia{Ax Az:aI}(c:Hid (∀W,BW V W→ko p2 p7 p19 p21 p25 Ax Az W))(i:Hid (∀U,BW V U→Cs 68 #[.agg (ak (aC true) Ax),.agg (ak (aC true) Az)] U fun e w'=>e=.returned (.bool true)∧BW V w'))(f:Hid (BW V V0))(H:aq 210 T [(2,pT p2 0),(19,pT p19 0),(21,pT p21 0),(23,.string jA),(25,pT p25 0),(190,.bool true)])(hK:Hid (∀T' W',BW V W'→aq 210 T' [(0,.bool true)]→wpAnyH Tryz.prog .any lR (NoPanic Q) (ko p2 p7 p19 p21 p25 Ax Az) 0 (bJ 105 105) ⟨T',[]⟩ W')):wpAnyH Tryz.prog .any lR (NoPanic Q) (ko p2 p7 p19 p21 p25 Ax Az) 20 (bJ 105 85) ⟨T,[]⟩ V0:=by
 have d:=c.out _ f.out;have a:=H.g 19;refine bM 85 191 (.agg #[iv 500,iv 600]) H ?_ (rI 84 190 H);intro T H;refine fA 86 192 67 #[iv 500,iv 600] H (fJ c.out ((nz _ _ _).mono fun _ _ h=>⟨h.1,bT f.out h.2⟩)) ?_ (rI 84 190 H)
 rintro _ j T d ⟨rfl,b⟩ H;have K86:=Lq b;have a:=H.g 191;have x1:=H.g 192;refine bM 87 193 (.bool true) H ?_ (rI 84 190 H);intro T H;refine fB 88 194 190 193 H fun T H=>?_
 have a:=H.g 21;refine bM 90 196 (.agg #[iv 300,iv 300]) H ?_ (rI 89 195 H);intro T H;refine fA 91 197 67 #[iv 300,iv 300] H (fJ c.out ((nz _ _ _).mono fun _ _ h=>⟨h.1,bT K86.out h.2⟩)) ?_ (rI 89 195 H)
 rintro _ k T d ⟨rfl,b⟩ H;have K91:=Lq b;have a:=H.g 196;have x1:=H.g 197;refine bM 92 198 (.bool true) H ?_ (rI 89 195 H);intro T H;refine fB 93 199 195 198 H fun T H=>?_
 have a:=H.g 23;refine bM 95 201 (.string jA) H ?_ (rI 94 200 H);intro T H;refine fA 96 202 66 #[] H (fJ c.out ((AB _).mono fun _ _ h=>⟨h.1,h.2▸K91.out⟩)) ?_ (rI 94 200 H)
 rintro _ l T d ⟨rfl,b⟩ H;have K96:=Lq b;have a:=H.g 201;have x1:=H.g 202;refine bM 97 203 (.bool true) H ?_ (rI 94 200 H);intro T H;refine fB 98 204 200 203 H fun T H=>?_
 have a:=H.g 25;refine bM 100 206 (.agg (ak (aC true) Ax)) H ?_ (rI 99 205 H);intro T H;have a:=H.g 2;refine bM 101 207 (.agg (ak (aC true) Az)) H ?_ (rI 99 205 H);intro T H;have a:=H.g 206;have x1:=H.g 207;refine fA 102 208 68 #[.agg (ak (aC true) Ax),.agg (ak (aC true) Az)] H (fJ c.out (i.out _ K96.out)) ?_ (rI 99 205 H);rintro _ w102 T d ⟨rfl,b⟩ H;have K102:=Lq b;have a:=H.g 205;have x1:=H.g 208;refine bM 103 209 (.bool true) H ?_;intro T H;have a:=H.g 209;refine bM 104 0 (.bool true) H ?_;intro T H;exact hK.out _ _ K102.out (aq.cons (H.get 0 _) (aq.nil H.1))
theorem Ib{c:Code}{Ax Az:aI}(hc:c=Code.region 15 lR true)(f:Hid (∀W,BW V W→ko p2 p7 p19 p21 p25 Ax Az W))(a:am iv V V.heap.size A13 [0])(b:am iv V V.heap.size A15 [1])(d:am iv V V.heap.size A17 [0,1])(hx:aO V V.heap.size (aC true) Ax)(k:aO V V.heap.size (aC true) Az)(H:AC T p2 p7 p19 p21 p25 c13 c15 c17 A13 A15 A17)(j:∀T W,BW V W→aq 210 T [(0,.bool true)]→Q .normal ⟨T,[]⟩ W):c.wp Tryz.prog Q ⟨T,[]⟩ V:=by
 have g:=Lq a;have H15:=Lq b;have H17:=Lq d;have N6:Hid (∀U,BW V U→Cs 68 #[.agg (ak (aC true) Ax),.agg (ak (aC true) Az)] U fun e w'=>e=.returned (.bool true)∧BW V w'):=Lq fun U hb=>(Hz (aC true) Ax Az U ((hx.below hb (lr _)).more hb.size) ((k.below hb (lr _)).more hb.size) (by decide) (by decide) (by decide) (by decide) (by decide)).mono fun _ _ h=>⟨h.1,bT hb h.2⟩
 have n:=Lq j;clear j a b d hx k;refine yZ (m:=105) (r:=15) (ops:=lR) f.out (fun V0 hb0 hS=>?_) (hc:=hc)
 exact HU f (Lq hb0) H (Lq fun o p i l=>H8 f g H15 H17 (Lq i) l (Lq fun T2 V2 hb2 H2=>Ia f N6 (Lq hb2) H2 (Lq fun T5 V5 hb5 H5=>wpAnyH_done (by kernel_rfl) (NoPanic.normal (n.out T5 V5 hb5 H5)) _)))
end
structure lW(w:World)(base g6 g7 gw gi g b cap nodes:Nat)(js:Value)(out:Int)(en:Nat)(most:Int)(but:Nat)(wr:World)(es:List Ed):Prop where
 b6:aa wr g6 3 #[iv en]
 b7:aa wr g7 3 #[iv most]
 bw:aa wr gw 82 #[pT g 0]
 bi:aa wr gi 3 #[iv but]
 wb:aa wr g 89 #[.slice (some ⟨b,0,none⟩) es.length cap,iv nodes,js,iv out]
 ed:cx base wr b cap es
 on:ai w wr b
section
variable {w wr w':World} {base g6 g7 gw gi g b cap nodes:Nat} {js:Value} {out:Int} {en:Nat} {most:Int} {but:Nat} {es es':List Ed}
theorem lW.below(h:lW w base g6 g7 gw gi g b cap nodes js out en most but wr es)(a:BW wr w'):lW w base g6 g7 gw gi g b cap nodes js out en most but w' es :=
 ⟨h.b6.keep a,h.b7.keep a,h.bw.keep a,h.bi.keep a,h.wb.keep a,h.ed.below a,ie h.on (ai.of_below a b)⟩
theorem lW.pushed(h:lW w base g6 g7 gw gi g b cap nodes js out en most but wr es)(c:ai wr w' b)(d:cx base w' b cap es')(f:es'.length=es.length):lW w base g6 g7 gw gi g b cap nodes js out en most but w' es':=by
 have a:∀{k t:Nat} {cs:Array Value},aa wr k t cs→t≠154→aa w' k t cs:=fun hk ht=>hk.same (c.block _ hk.lt (fun e=>ax h.ed.row hk ht (by rw[e];rfl)))
 refine⟨a h.b6 (by decide),a h.b7 (by decide),a h.bw (by decide),a h.bi (by decide), ?_,d,ie h.on c⟩
 rw[f];exact a h.wb (by decide)
end
theorem AN(gw gi g b cap nodes d en but f:Nat)(most:Int)(js:Value)(out:Int)(es:List Ed)(base:Nat)(A:Int)(es':List Ed)(w:World)(u:aa w gw 82 #[pT g 0])(s:aa w gi 3 #[iv but])(B:aa w g 89 #[.slice (some ⟨b,0,none⟩) es.length cap,iv nodes,js,iv out])(z:cx base w b cap es)(N:nodes≤6)(D:es.length≤1000)(l:d<nodes)(E:gH nodes d en most but f 0 es=some (A,es')) :
  Cs 80 #[iv d,iv en,iv most,pT gw 0,pT gi 0] w fun e w'=>e=.returned (iv A)∧ai w w' b∧cx base w' b cap es'∧es'.length=es.length:=by
 obtain⟨x,r,p⟩:=nA w (.cells #[iv en] 3);obtain⟨g6,hg6⟩:=ex w.heap.size;obtain⟨W2,hW2,b2⟩:=nA x (.cells #[iv most] 3);obtain⟨g7,hg7⟩:=ex x.heap.size;have a:Hid (lW w base g6 g7 gw gi g b cap nodes js out en most but W2 es):=Lq ⟨by rw[←hW2];exact(by rw[←r,←hg6];exact aa.new w 3 _:aa x g6 3 #[iv en]).alloc _,by rw[←hW2,←hg7];exact aa.new x 3 _,u.keep (bT p b2),s.keep (bT p b2),B.keep (bT p b2),z.below (bT p b2),ai.of_below (bT p b2) b⟩
 have F:=Lq E;clear u s B z E p b2;go_enter Tryz.func80,Tryz.ntmps80
 go_wp2_with fail;clear r hW2 hg6 hg7
 go_loopg [9] f (fun f wr=>fun wr2=>∃(all:Int) (es2:List Ed),wr=iv all∧es2.length=es.length∧Hid (gH nodes d en most but f all es2=some (A,es'))∧Hid (lW w base g6 g7 gw gi g b cap nodes js out en most but wr2 es2))
 case atStart=>exact⟨0,es,rfl,rfl,F,a⟩
 case round =>
  clear a;obtain⟨all,es2,rfl,o,y,a⟩:=hrel;cases gk with
  | zero=>exact absurd y.out (by unfold gH;simp)
  | succ f1 =>
   obtain⟨G,H,J,I⟩:_∧_∧_∧_:=⟨a.out.b6.c 0,a.out.b7.c 0,a.out.bw.c 0,a.out.bi.c 0⟩;rcases Is y.out with⟨hle,hr⟩ | ⟨hlt,hes2,hge,hmb,k,t,es3,hpu,hnext⟩
   ·have K:decide (all<most)=false:=decide_eq_false (by omega)
    injection hr with h1 h2
    subst h1 h2;clear hle;go_wp2_with fail;go_ret
    exact⟨rfl,a.out.on,a.out.ed,o⟩
   ·have K:decide (all<most)=true:=decide_eq_true hlt;have m:=sI hpu hes2 l (by omega) (fun n _=>by split<;>omega)
    obtain⟨-,L,M,v⟩:=m;have hw1:IntKind.i64.wrap (most-all)=most-all:=by rw[IntKind.wrap_i64];omega
    have R:IntKind.i64.wrap (all+k)=all+k:=by rw[IntKind.wrap_i64];omega
    have i:=Lq (ye g b cap nodes d js out (most-all) but es2 base 82 #[pT g6 0,pT g7 0] (fun n=>if n=en then most else 0) k t es3 wr a.out.wb a.out.ed hes2 N (by omega) l (by omega) (fun n _=>by split<;>omega)
     (fun n O W C=>by
      refine(FQ n en most g6 g7 W ((a.out.below C).b6.c 0) ((a.out.below C).b7.c 0)).mono ?_;rintro e w' ⟨rfl,rfl⟩;refine⟨?_,rfl⟩;by_cases h:n=en
      ·subst h;rw[if_pos rfl,if_pos rfl]
      ·rw[if_neg h,if_neg (by omega)]) (fun _ _=>rfl) hpu)
    have j:=Lq hnext;have HL3:=Lq (v.trans o);clear hlt hes2 hpu hnext v;go_wp2_with fail;clear G H J I;refine i.out.mono ?_;rintro e w5 ⟨rfl,ho5,he5⟩;have HI5:=Lq (a.out.pushed ho5 he5 (by rw[HL3.out,o]))
    clear ho5 he5 i a;by_cases hk0:k=0
    ·have m:(k==0)=true:=by simp[hk0]
     have h:A=all∧es'=es3:=by
      rcases j.out with⟨_,h⟩ | ⟨h,_⟩
      ·injection h with h1 h2;exact⟨h1,h2⟩
      ·exact absurd hk0 h
     obtain⟨rfl,rfl⟩:=h;clear hk0;go_wp2_with fail;go_ret
     exact⟨rfl,HI5.out.on,HI5.out.ed,HL3.out⟩
    ·have m:(k==0)=false:=by simpa using hk0
     have q:Hid (gH nodes d en most but f1 (all+k) es3=some (A,es')):=by
      rcases j.out with⟨h,_⟩ | ⟨_,h⟩
      ·exact absurd h hk0
      ·exact Lq h
     clear hk0;go_wp2_with fail
     go_roundg f1
     case measure=>omega
     case rel=>exact⟨all+k,es3,rfl,HL3.out,q,HI5⟩
section
variable{W:World}
structure dY(w:World)(base gw gi g4 g6 g b cap nodes:Nat)(js:Value)(out:Int)(i:Nat)(wr:World)(lo hi:Int)(xb:Ed)(es:List Ed):Prop where
 bw:aa wr gw 82 #[pT g 0]
 bi:aa wr gi 3 #[iv i]
 b4:aa wr g4 33 #[iv lo,iv hi]
 b6:aa wr g6 154 #[iv xb.fr,iv xb.en,iv xb.lo,iv xb.hi,iv xb.now]
 wb:aa wr g 89 #[.slice (some ⟨b,0,none⟩) es.length cap,iv nodes,js,iv out]
 ed:cx base wr b cap es
 on:ai w wr b
 bl:b<w.heap.size
 l4:w.heap.size≤g4
 l6:w.heap.size≤g6
section
variable {w wr w':World} {base gw gi g4 g6 g b cap nodes:Nat} {js:Value} {out:Int} {i:Nat} {lo hi:Int} {xb:Ed} {es es':List Ed}
theorem dY.below(h:dY w base gw gi g4 g6 g b cap nodes js out i wr lo hi xb es)(a:BW wr w'):dY w base gw gi g4 g6 g b cap nodes js out i w' lo hi xb es :=
 ⟨h.bw.keep a,h.bi.keep a,h.b4.keep a,h.b6.keep a,h.wb.keep a,h.ed.below a,ie h.on (ai.of_below a b),h.bl,h.l4,h.l6⟩
theorem dY.only(h:dY w base gw gi g4 g6 g b cap nodes js out i wr lo hi xb es)(d:ai wr w' b)(j:cx base w' b cap es')(l:es'.length=es.length):dY w base gw gi g4 g6 g b cap nodes js out i w' lo hi xb es':=by
 have a:∀{k t:Nat} {cs:Array Value},aa wr k t cs→k≠b→aa w' k t cs:=fun hk hn=>hk.same (d.block _ hk.lt hn)
 have c:∀{k t:Nat} {cs:Array Value},aa wr k t cs→t≠154→k≠b:=fun hk ht e=>ax h.ed.row hk ht (by rw[e];rfl)
 have f:=h.bl;have h6:=h.l6;refine⟨a h.bw (c h.bw (by decide)),a h.bi (c h.bi (by decide)),a h.b4 (c h.b4 (by decide)),a h.b6 (by omega), ?_,j,ie h.on d,h.bl,h.l4,h.l6⟩
 rw[l];exact a h.wb (c h.wb (by decide))
theorem dY.put(h:dY w base gw gi g4 g6 g b cap nodes js out i wr lo hi xb es){d:Nat}{x:Ed}(hx:es[d]?=some x)(v:Int):dY w base gw gi g4 g6 g b cap nodes js out i (wr.setCell ⟨b,d*5+4,none⟩ (iv v)) lo hi xb (es.set d { x with now:=v }) :=
 h.only (ai.of_set (bR wr) b (d*5+4) (iv v)) (h.ed.put hx v) (by simp)
theorem dY.put4(h:dY w base gw gi g4 g6 g b cap nodes js out i wr lo hi xb es)(a:ai wr W g4){lo' hi':Int}(f:aa W g4 33 #[iv lo',iv hi']):dY w base gw gi g4 g6 g b cap nodes js out i W lo' hi' xb es:=by
 have j:=bF h.bw h.b4 (by decide)
 have n2:=bF h.bi h.b4 (by decide)
 have l:=bF h.b6 h.b4 (by decide)
 have m:=bF h.wb h.b4 (by decide)
 have n:=h.l4;have hb:=h.bl;refine⟨h.bw.same (a.block _ h.bw.lt j),h.bi.same (a.block _ h.bi.lt n2),f,h.b6.same (a.block _ h.b6.lt l),h.wb.same (a.block _ h.wb.lt m),⟨a.own h.ed.row (fun e=>by injection e with e;simp at e;omega)⟩, ?_,h.bl,h.l4,h.l6⟩
 exact⟨a.os.trans h.on.os,a.tape.trans h.on.tape,a.output.trans h.on.output,lT h.on.size a.size,fun k d c=>(a.block k (lz d h.on.size) (by omega)).trans (h.on.block k d c)⟩
theorem dY.put6(h:dY w base gw gi g4 g6 g b cap nodes js out i wr lo hi xb es)(a:ai wr W g6){x:Ed}(f:aa W g6 154 #[iv x.fr,iv x.en,iv x.lo,iv x.hi,iv x.now]):dY w base gw gi g4 g6 g b cap nodes js out i W lo hi x es:=by
 have j:=bF h.bw h.b6 (by decide)
 have n2:=bF h.bi h.b6 (by decide)
 have l:=bF h.b4 h.b6 (by decide)
 have m:=bF h.wb h.b6 (by decide)
 have n:=h.l6;have hb:=h.bl;refine⟨h.bw.same (a.block _ h.bw.lt j),h.bi.same (a.block _ h.bi.lt n2),h.b4.same (a.block _ h.b4.lt l),f,h.wb.same (a.block _ h.wb.lt m),⟨a.own h.ed.row (fun e=>by injection e with e;simp at e;omega)⟩, ?_,h.bl,h.l4,h.l6⟩
 exact⟨a.os.trans h.on.os,a.tape.trans h.on.tape,a.output.trans h.on.output,lT h.on.size a.size,fun k d c=>(a.block k (lz d h.on.size) (by omega)).trans (h.on.block k d c)⟩
end
theorem It(W:World)(g:Nat)(x:Ed):ai W (((((W.setCell ⟨g,0,none⟩ (iv x.fr)).setCell ⟨g,1,none⟩ (iv x.en)).setCell ⟨g,2,none⟩ (iv x.lo)).setCell ⟨g,3,none⟩ (iv x.hi)).setCell ⟨g,4,none⟩ (iv x.now)) g :=
 (((((ai.of_below (bR W) g).set 0 _).set 1 _).set 2 _).set 3 _).set 4 _
theorem Iu{g t:Nat}{a c d f j:Value}(h:aa W g t #[a,c,d,f,j])(x:Ed):aa (((((W.setCell ⟨g,0,none⟩ (iv x.fr)).setCell ⟨g,1,none⟩ (iv x.en)).setCell ⟨g,2,none⟩ (iv x.lo)).setCell ⟨g,3,none⟩ (iv x.hi)).setCell ⟨g,4,none⟩ (iv x.now)) g t #[iv x.fr,iv x.en,iv x.lo,iv x.hi,iv x.now]:=by
 have h:=((((h.set_ 0 (iv x.fr)).set_ 1 (iv x.en)).set_ 2 (iv x.lo)).set_ 3 (iv x.hi)).set_ 4 (iv x.now)
 simpa using h
theorem Iv{nodes i f:Nat}{es:List Ed}{r:(Int×Int)×List Ed}(h:jC nodes i f es=some r) :
  ∃x a d c k j l,es[i]?=some x∧bP nodes x=true∧gH nodes x.fr x.en (x.now-x.lo) i f 0 es=some (a,d)∧d[i]?=some c∧bP nodes c=true∧(-9000000000000≤a∧a≤9000000000000)∧bP nodes { c with now:=c.now-a }=true ∧
   gH nodes c.en c.fr (c.hi-(c.now-a)) i f 0 (d.set i { c with now:=c.now-a })=some (k,j)∧j[i]?=some l∧bP nodes l=true∧(-9000000000000≤k∧k≤9000000000000)∧r=((c.now-a,l.now+k),j.set i { l with now:=l.now+k }):=by
 unfold jC at h;split at h
 ·cases h
 ·rename_i x hx;split at h
  ·cases h
  ·rename_i q;split at h
   ·cases h
   ·rename_i a d o;split at h
    ·cases h
    ·rename_i c s;split at h
     ·cases h
     ·rename_i m;split at h
      ·cases h
      ·rename_i k j p;split at h
       ·cases h
       ·rename_i l t;split at h
        ·cases h
        ·rename_i n;injection h with h
         refine⟨x,a,d,c,k,j,l,hx,by simpa using q,o,s,by simpa using fun h=>m (.inl h),by omega,by simpa using fun h=>m (.inr (.inr (.inr h))),p,t,by simpa using fun h=>n (.inl h),by omega,h.symm⟩
end
noncomputable def Iw:Array Oper:=aU (aF Tryz.f27 2)
noncomputable def Iy:Array Oper:=aU (aF Tryz.f27 4)
noncomputable def Iz:Array Oper:=aU (aF Tryz.f27 5)
noncomputable def IA:Array Oper:=aU (aF Tryz.f27 6)
noncomputable def IB:Array Oper:=aU (aF Tryz.f27 8)
noncomputable def IC:Array Oper:=aU (aF Tryz.f27 9)
theorem AQ(g b cap d i f:Nat)(K:Value)(u:Int)(F:List Ed)(base:Nat)(lo hi:Int)(ag:List Ed)(w:World)(hW:aa w g 89 #[.slice (some ⟨b,0,none⟩) F.length cap,iv d,K,iv u])(hR:cx base w b cap F)(hn:d≤6)(L:F.length≤1000)(hp:jC d i f F=some ((lo,hi),ag)) :
  Cs 27 #[pT g 0,iv i] w fun e w'=>e=.returned (.agg #[iv lo,iv hi])∧ai w w' b∧cx base w' b cap ag:=by
 obtain⟨x,k,A,p,G,B,s,hx,ap,am,ar,M,aH,N,ab,au,O,aJ,hr⟩:=Iv hp;injection hr with hr1 hr2
 injection hr1 with hr1 hr3
 subst hr1 hr2 hr3;obtain⟨ad,aD,aC⟩:=kM ap (by omega)
 obtain⟨H,aF,R⟩:=kM M (by omega)
 obtain⟨T, -, -⟩:=kM N (by omega)
 obtain⟨X, -, -⟩:=kM O (by omega)
 have aI:i<F.length:=(lG hx);obtain⟨W1,hW1,b1⟩:=nA w (.cells #[pT g 0] 82);obtain⟨gw,hgw⟩:=ex w.heap.size;obtain⟨W2,hW2,b2⟩:=nA W1 (.cells #[iv i] 3);obtain⟨gi,hgi⟩:=ex W1.heap.size;obtain⟨W3,hW3,b3⟩:=nA W2 (.cells #[iv 0,iv 0] 33);obtain⟨g4,hg4⟩:=ex W2.heap.size;have q1:aa W3 gw 82 #[pT g 0]:=by rw[←hW3,←hW2];exact aa.alloc (aa.alloc (by rw[←hW1,←hgw];exact aa.new w 82 _) _) _
 have q2:aa W3 gi 3 #[iv i]:=by rw[←hW3];exact aa.alloc (by rw[←hW2,←hgi];exact aa.new W1 3 _) _
 have q4:aa W3 g4 33 #[iv 0,iv 0]:=by rw[←hW3,←hg4];exact aa.new W2 33 _
 have m:=bT (bT b1 b2) b3;have HQ:=Lq (And.intro q1 (And.intro q2 q4));have HWB:=Lq (hW.keep m);have HRW:=Lq (hR.below m);have HBW:=Lq m;have HG4:Hid (w.heap.size≤g4):=by rw[←hg4];exact Lq (bT b1 b2).size
 have av:=Lq hR.lt;have HX:=Lq hx;have HX1:=Lq ar;have HX3:=Lq au;have HL1:=Lq am;have HL2:=Lq ab;have HLEN:=Lq L;have hi0:=nn i;have hiz:(i:Int)<(F.length:Int):=by omega
 have aK:IntKind.i64.wrap (x.now-x.lo)=x.now-x.lo:=by rw[IntKind.wrap_i64];have:=ad.now;have:=ad.lo;omega
 have aA:IntKind.i64.wrap (p.now-k)=p.now-k:=by rw[IntKind.wrap_i64];have:=H.now;omega
 have aq:IntKind.i64.wrap (p.hi-(p.now-k))=p.hi-(p.now-k):=by rw[IntKind.wrap_i64];have:=H.hi;have:=T.now;simp only at this;omega
 have aB:IntKind.i64.wrap (s.now+G)=s.now+G:=by rw[IntKind.wrap_i64];have:=X.now;omega
 clear hp hx ap am ar M N ab au O hW hR m b1 b2 b3 q1 q2 q4 ad H T X L aC;go_enter Tryz.func27,Tryz.ntmps27
 go_upto_region 2 with fail
 clear hW1 hW2 hW3 hgw hgi hg4;have l:Hid (∀W,BW W3 W→(fun W=>cA W gw 0 (pT g 0)∧cA W gi 0 (iv i)∧cA W g 0 (.slice (some ⟨b,0,none⟩) F.length cap)∧cA W b (i*5) (iv x.fr)∧cA W b (i*5+1) (iv x.en)∧cA W b (i*5+2) (iv x.lo)∧cA W b (i*5+3) (iv x.hi)∧cA W b (i*5+4) (iv x.now)) W):=Lq fun W m=>⟨(HQ.out.1.keep m).c 0,(HQ.out.2.1.keep m).c 0,(HWB.out.keep m).c 0,(HRW.out.below m).at HX.out⟩
 refine cJ (late:=fun j=>j==8) (ops:=Iw) (r:=2) (n:=9) (S:=fun W=>cA W gw 0 (pT g 0)∧cA W gi 0 (iv i)∧cA W g 0 (.slice (some ⟨b,0,none⟩) F.length cap)∧cA W b (i*5) (iv x.fr)∧cA W b (i*5+1) (iv x.en)∧cA W b (i*5+2) (iv x.lo)∧cA W b (i*5+3) (iv x.hi)∧cA W b (i*5+4) (iv x.now)) l.out fun V0 HB0 hHeld=>?_
 refine ae 0 (pT g 0) ?_;refine ae 1 (pT g 0) ?_;refine ae 2 (pT g 0) ?_;refine ae 3 (.slice (some ⟨b,0,none⟩) F.length cap) ?_;refine ae 4 (iv i) ?_;refine ae 5 (pT b (i*5)) ?_;refine ae 6 (.agg #[iv x.fr,iv x.en,iv x.lo,iv x.hi,iv x.now]) ?_;refine aQ 7 fun K' hK=>?_
 go_simp;obtain⟨Wa,Wx,ah,aj,C,qa,ak,qx⟩:=pQ V0 154 x (iv 0) (iv 0) (iv 0) (iv 0) (iv 0);have hl6:w.heap.size≤V0.heap.size:=(bT HBW.out HB0.out).size;obtain⟨g6,hg6⟩:=ex V0.heap.size;rw[hg6]at aj qa qx hl6 ⊢;rw[ah];have HBA:=Lq (bT HB0.out ak);have HSP:Hid (dY w base gw gi g4 g6 g b cap d K u i Wx 0 0 x F):=Lq ⟨HQ.out.1.keep (bT HB0.out C),HQ.out.2.1.keep (bT HB0.out C),HQ.out.2.2.keep (bT HB0.out C),qx,HWB.out.keep (bT HB0.out C),HRW.out.below (bT HB0.out C),ai.of_below (bT HBW.out (bT HB0.out C)) b,av.out,HG4.out,hl6⟩;have HQA:=Lq qa;refine hK.out _ _ (l.out _ HBA.out) (fun hHeld=>?_)
 clear hK C qa ak qx hl6 hg6;refine bO 8 fun K' hK=>?_
 obtain⟨f0,f1,f2,f3,f4⟩:=HQA.out.f5;obtain⟨e0,e1,e2,e3,e4⟩:=HQA.out.c5;have el:=HQA.out.lt;go_simp;clear f0 f1 f2 f3 f4 e0 e1 e2 e3 e4 el ah aj HQA HBA HQ HWB HRW;refine hK.out _ _ ?_;clear hK hHeld l;refine dL ?_;obtain⟨d0,d1,d2,d3,d4⟩:=HSP.out.b6.c5;have HLD:=Lq (AN gw gi g b cap d x.fr x.en i f (x.now-x.lo) K u F base k A Wx HSP.out.bw HSP.out.bi HSP.out.wb HSP.out.ed hn HLEN.out aD HL1.out);go_wp2_with fail;clear d0 d1 d2 d3 d4;refine HLD.out.mono ?_;rintro e w5 ⟨rfl,ho5,he5,hl5⟩;have HS5:=Lq (HSP.out.only ho5 he5 hl5);have hiz1:(i:Int)<(A.length:Int):=by omega
 have ax:=Lq hl5;clear ho5 he5 hl5 HLD HSP;have l:Hid (∀W,BW w5 W→(fun W=>cA W gw 0 (pT g 0)∧cA W gi 0 (iv i)∧cA W g 0 (.slice (some ⟨b,0,none⟩) A.length cap)∧cA W b (i*5) (iv p.fr)∧cA W b (i*5+1) (iv p.en)∧cA W b (i*5+2) (iv p.lo)∧cA W b (i*5+3) (iv p.hi)∧cA W b (i*5+4) (iv p.now)) W):=Lq fun W m=>⟨(HS5.out.below m).bw.c 0,(HS5.out.below m).bi.c 0,(HS5.out.below m).wb.c 0,(HS5.out.below m).ed.at HX1.out⟩
 go_upto_region 4 with fail
 refine cJ (late:=fun j=>j==12) (ops:=Iy) (r:=4) (n:=13) (S:=fun W=>cA W gw 0 (pT g 0)∧cA W gi 0 (iv i)∧cA W g 0 (.slice (some ⟨b,0,none⟩) A.length cap)∧cA W b (i*5) (iv p.fr)∧cA W b (i*5+1) (iv p.en)∧cA W b (i*5+2) (iv p.lo)∧cA W b (i*5+3) (iv p.hi)∧cA W b (i*5+4) (iv p.now)) l.out fun V0 HB0 hHeld=>?_
 refine ae 0 (pT g 0) ?_;refine ae 1 (pT g 0) ?_;refine ae 2 (pT g 0) ?_;refine ae 3 (.slice (some ⟨b,0,none⟩) A.length cap) ?_;refine ae 4 (iv i) ?_;refine ae 5 (pT b (i*5)) ?_;refine ae 6 (pT b (i*5+4)) ?_;refine ae 7 (iv p.now) ?_;refine ae 8 (iv k) ?_;refine ae 9 (iv (p.now-k)) ?_;refine ae 10 (pT b (i*5)) ?_;refine ae 11 (pT b (i*5+4)) ?_;refine bO 12 fun K' hK=>?_
 have o:=Lq (HS5.out.below HB0.out);obtain⟨-, -, -, -,cc⟩:=o.out.ed.at HX1.out;have cf:=o.out.ed.frozen (i*5+4);have cl:=o.out.ed.lt;obtain⟨W6,hWN⟩:=ex (V0.setCell ⟨b,i*5+4,none⟩ (iv (p.now-k)));have HS6:Hid (dY w base gw gi g4 g6 g b cap d K u i W6 0 0 x (A.set i { p with now:=p.now-k })):=by have h:=o.out.put HX1.out (p.now-k);rw[hWN]at h;exact Lq h
 go_simp;clear cc cf cl hWN o HS5;refine hK.out _ _ ?_;clear hK hHeld l;refine dL ?_;obtain⟨es2,y⟩:=ex (A.set i { p with now:=p.now-k })
 rw[y]at HS6 HL2;have Z:Hid (es2[i]?=some { p with now:=p.now-k }):=by rw[←y];exact Lq (List.getElem?_set_self (lG HX1.out))
 have ab:es2.length=F.length:=by rw[←y,List.length_set];exact ax.out
 have aG:=Lq y;have hiz2:(i:Int)<(es2.length:Int):=by omega
 obtain⟨a,E⟩:=ex { p with now:=p.now-k }
 rw[E]at Z;have J:a.now=p.now-k:=by rw[←E]
 have U:a.fr=p.fr:=by rw[←E]
 have I:a.en=p.en:=by rw[←E]
 have V:a.hi=p.hi:=by rw[←E]
 rw[←J]at aq HL2 ⊢;rw[←V]at aq HL2;rw[←I,←U]at HL2;rw[←I]at R;have az:=Lq J;clear y E J U I V aA;have l:Hid (∀W,BW W6 W→(fun W=>cA W gw 0 (pT g 0)∧cA W gi 0 (iv i)∧cA W g 0 (.slice (some ⟨b,0,none⟩) es2.length cap)∧cA W b (i*5) (iv a.fr)∧cA W b (i*5+1) (iv a.en)∧cA W b (i*5+2) (iv a.lo)∧cA W b (i*5+3) (iv a.hi)∧cA W b (i*5+4) (iv a.now)) W):=Lq fun W m=>⟨(HS6.out.below m).bw.c 0,(HS6.out.below m).bi.c 0,(HS6.out.below m).wb.c 0,(HS6.out.below m).ed.at Z.out⟩
 go_upto_region 5 with fail
 refine cJ (late:=fun j=>j==9) (ops:=Iz) (r:=5) (n:=10) (S:=fun W=>cA W gw 0 (pT g 0)∧cA W gi 0 (iv i)∧cA W g 0 (.slice (some ⟨b,0,none⟩) es2.length cap)∧cA W b (i*5) (iv a.fr)∧cA W b (i*5+1) (iv a.en)∧cA W b (i*5+2) (iv a.lo)∧cA W b (i*5+3) (iv a.hi)∧cA W b (i*5+4) (iv a.now)) l.out fun V0 HB0 hHeld=>?_
 refine ae 0 (pT g 0) ?_;refine ae 1 (pT g 0) ?_;refine ae 2 (pT g 0) ?_;refine ae 3 (.slice (some ⟨b,0,none⟩) es2.length cap) ?_;refine ae 4 (iv i) ?_;refine ae 5 (pT b (i*5)) ?_;refine ae 6 (pT b (i*5+4)) ?_;refine ae 7 (iv a.now) ?_;refine ae 8 (pT g4 0) ?_;refine bO 9 fun K' hK=>?_
 have o:=Lq (HS6.out.below HB0.out);obtain⟨cc,cf,cl⟩:_∧_∧_:=⟨o.out.b4.c 0,o.out.b4.frozen 0,o.out.b4.lt⟩;obtain⟨W7,hWN⟩:=ex (V0.setCell ⟨g4,0,none⟩ (iv a.now));have HS7:Hid (dY w base gw gi g4 g6 g b cap d K u i W7 (a.now) (0) x es2):=by
  have h:=o.out.put4 (ai.of_set (bR V0) g4 0 (iv a.now)) (lo':=a.now) (hi':=0) (by have h:=o.out.b4.set_ 0 (iv a.now);simpa using h)
  rw[hWN]at h;exact Lq h
 go_simp;clear cc cf cl hWN o HS6;refine hK.out _ _ ?_;clear hK hHeld l;refine dL ?_;have l:Hid (∀W,BW W7 W→(fun W=>cA W gw 0 (pT g 0)∧cA W gi 0 (iv i)∧cA W g 0 (.slice (some ⟨b,0,none⟩) es2.length cap)∧cA W b (i*5) (iv a.fr)∧cA W b (i*5+1) (iv a.en)∧cA W b (i*5+2) (iv a.lo)∧cA W b (i*5+3) (iv a.hi)∧cA W b (i*5+4) (iv a.now)) W):=Lq fun W m=>⟨(HS7.out.below m).bw.c 0,(HS7.out.below m).bi.c 0,(HS7.out.below m).wb.c 0,(HS7.out.below m).ed.at Z.out⟩
 go_upto_region 6 with fail
 refine cJ (late:=fun j=>j==7) (ops:=IA) (r:=6) (n:=8) (S:=fun W=>cA W gw 0 (pT g 0)∧cA W gi 0 (iv i)∧cA W g 0 (.slice (some ⟨b,0,none⟩) es2.length cap)∧cA W b (i*5) (iv a.fr)∧cA W b (i*5+1) (iv a.en)∧cA W b (i*5+2) (iv a.lo)∧cA W b (i*5+3) (iv a.hi)∧cA W b (i*5+4) (iv a.now)) l.out fun V0 HB0 hHeld=>?_
 refine ae 0 (pT g 0) ?_;refine ae 1 (pT g 0) ?_;refine ae 2 (pT g 0) ?_;refine ae 3 (.slice (some ⟨b,0,none⟩) es2.length cap) ?_;refine ae 4 (iv i) ?_;refine ae 5 (pT b (i*5)) ?_;refine ae 6 (.agg #[iv a.fr,iv a.en,iv a.lo,iv a.hi,iv a.now]) ?_;refine bO 7 fun K' hK=>?_
 have o:=Lq (HS7.out.below HB0.out);obtain⟨f0,f1,f2,f3,f4⟩:=o.out.b6.f5;obtain⟨e0,e1,e2,e3,e4⟩:=o.out.b6.c5;have el:=o.out.b6.lt;obtain⟨W8,hW8⟩:=ex (((((V0.setCell ⟨g6,0,none⟩ (iv a.fr)).setCell ⟨g6,1,none⟩ (iv a.en)).setCell ⟨g6,2,none⟩ (iv a.lo)).setCell ⟨g6,3,none⟩ (iv a.hi)).setCell ⟨g6,4,none⟩ (iv a.now));have HS8:Hid (dY w base gw gi g4 g6 g b cap d K u i W8 a.now 0 a es2):=by have h:=o.out.put6 (It V0 g6 a) (Iu o.out.b6 a);rw[hW8]at h;exact Lq h
 go_simp;clear f0 f1 f2 f3 f4 e0 e1 e2 e3 e4 el hW8 o HS7;refine hK.out _ _ ?_;clear hK hHeld l;refine dL ?_;obtain⟨d0,d1,d2,d3,d4⟩:=HS8.out.b6.c5;have HLD:=Lq (AN gw gi g b cap d a.en a.fr i f (a.hi-a.now) K u es2 base G B W8 HS8.out.bw HS8.out.bi HS8.out.wb HS8.out.ed hn (by have:=HLEN.out;omega) R HL2.out)
 go_wp2_with fail;clear d0 d1 d2 d3 d4;refine HLD.out.mono ?_;rintro e w9 ⟨rfl,ao,al,an⟩;have HS9:=Lq (HS8.out.only ao al an);have hiz3:(i:Int)<(B.length:Int):=by omega
 clear ao al an HLD HS8;have l:Hid (∀W,BW w9 W→(fun W=>cA W gw 0 (pT g 0)∧cA W gi 0 (iv i)∧cA W g 0 (.slice (some ⟨b,0,none⟩) B.length cap)∧cA W b (i*5) (iv s.fr)∧cA W b (i*5+1) (iv s.en)∧cA W b (i*5+2) (iv s.lo)∧cA W b (i*5+3) (iv s.hi)∧cA W b (i*5+4) (iv s.now)) W):=Lq fun W m=>⟨(HS9.out.below m).bw.c 0,(HS9.out.below m).bi.c 0,(HS9.out.below m).wb.c 0,(HS9.out.below m).ed.at HX3.out⟩
 go_upto_region 8 with fail
 refine cJ (late:=fun j=>j==12) (ops:=IB) (r:=8) (n:=13) (S:=fun W=>cA W gw 0 (pT g 0)∧cA W gi 0 (iv i)∧cA W g 0 (.slice (some ⟨b,0,none⟩) B.length cap)∧cA W b (i*5) (iv s.fr)∧cA W b (i*5+1) (iv s.en)∧cA W b (i*5+2) (iv s.lo)∧cA W b (i*5+3) (iv s.hi)∧cA W b (i*5+4) (iv s.now)) l.out fun V0 HB0 hHeld=>?_
 refine ae 0 (pT g 0) ?_;refine ae 1 (pT g 0) ?_;refine ae 2 (pT g 0) ?_;refine ae 3 (.slice (some ⟨b,0,none⟩) B.length cap) ?_;refine ae 4 (iv i) ?_;refine ae 5 (pT b (i*5)) ?_;refine ae 6 (pT b (i*5+4)) ?_;refine ae 7 (iv s.now) ?_;refine ae 8 (iv G) ?_;refine ae 9 (iv (s.now+G)) ?_;refine ae 10 (pT b (i*5)) ?_;refine ae 11 (pT b (i*5+4)) ?_;refine bO 12 fun K' hK=>?_
 have o:=Lq (HS9.out.below HB0.out);obtain⟨-, -, -, -,cc⟩:=o.out.ed.at HX3.out;have cf:=o.out.ed.frozen (i*5+4);have cl:=o.out.ed.lt;obtain⟨W10,hWN⟩:=ex (V0.setCell ⟨b,i*5+4,none⟩ (iv (s.now+G)));have HS10:Hid (dY w base gw gi g4 g6 g b cap d K u i W10 a.now 0 a (B.set i { s with now:=s.now+G })):=by have h:=o.out.put HX3.out (s.now+G);rw[hWN]at h;exact Lq h
 go_simp;clear cc cf cl hWN o HS9;refine hK.out _ _ ?_;clear hK hHeld l;refine dL ?_;obtain⟨D,z⟩:=ex (B.set i { s with now:=s.now+G })
 rw[z]at HS10;have aw:=Lq z;have HX4:Hid (D[i]?=some { s with now:=s.now+G }):=by rw[←z];exact Lq (List.getElem?_set_self (lG HX3.out))
 have aE:(i:Int)<(D.length:Int):=by rw[←z,List.length_set];exact hiz3
 obtain⟨t,ac⟩:=ex { s with now:=s.now+G:Ed }
 rw[ac]at HX4;have Y:t.now=s.now+G:=by rw[←ac]
 have af:=Lq Y;clear z ac Y aB;have l:Hid (∀W,BW W10 W→(fun W=>cA W gw 0 (pT g 0)∧cA W gi 0 (iv i)∧cA W g 0 (.slice (some ⟨b,0,none⟩) D.length cap)∧cA W b (i*5) (iv t.fr)∧cA W b (i*5+1) (iv t.en)∧cA W b (i*5+2) (iv t.lo)∧cA W b (i*5+3) (iv t.hi)∧cA W b (i*5+4) (iv t.now)) W):=Lq fun W m=>⟨(HS10.out.below m).bw.c 0,(HS10.out.below m).bi.c 0,(HS10.out.below m).wb.c 0,(HS10.out.below m).ed.at HX4.out⟩
 go_upto_region 9 with fail
 refine cJ (late:=fun j=>j==9) (ops:=IC) (r:=9) (n:=10) (S:=fun W=>cA W gw 0 (pT g 0)∧cA W gi 0 (iv i)∧cA W g 0 (.slice (some ⟨b,0,none⟩) D.length cap)∧cA W b (i*5) (iv t.fr)∧cA W b (i*5+1) (iv t.en)∧cA W b (i*5+2) (iv t.lo)∧cA W b (i*5+3) (iv t.hi)∧cA W b (i*5+4) (iv t.now)) l.out fun V0 HB0 hHeld=>?_
 refine ae 0 (pT g 0) ?_;refine ae 1 (pT g 0) ?_;refine ae 2 (pT g 0) ?_;refine ae 3 (.slice (some ⟨b,0,none⟩) D.length cap) ?_;refine ae 4 (iv i) ?_;refine ae 5 (pT b (i*5)) ?_;refine ae 6 (pT b (i*5+4)) ?_;refine ae 7 (iv t.now) ?_;refine ae 8 (pT g4 1) ?_;refine bO 9 fun K' hK=>?_
 have o:=Lq (HS10.out.below HB0.out);obtain⟨cc,cf,cl⟩:_∧_∧_:=⟨o.out.b4.c 1,o.out.b4.frozen 1,o.out.b4.lt⟩;obtain⟨W11,hWN⟩:=ex (V0.setCell ⟨g4,1,none⟩ (iv t.now));have HS11:Hid (dY w base gw gi g4 g6 g b cap d K u i W11 (a.now) (t.now) a D):=by
  have h:=o.out.put4 (ai.of_set (bR V0) g4 1 (iv t.now)) (lo':=a.now) (hi':=t.now) (by have h:=o.out.b4.set_ 1 (iv t.now);simpa using h)
  rw[hWN]at h;exact Lq h
 go_simp;clear cc cf cl hWN o HS10;refine hK.out _ _ ?_;clear hK hHeld l;refine dL ?_;have q:=HS11.out.b4;obtain⟨c0,c1⟩:=q.c2;obtain⟨f0,f1⟩:=q.f2;have fl:=q.lt;have qs:=(q.set_ 0 (iv a.now)).set_ 1 (iv t.now);simp only[List.setIfInBounds_toArray,List.set_cons_zero,List.set_cons_succ]at qs;obtain⟨d0,d1⟩:=qs.c2;have HFI:=Lq (HS11.out.put4 (((ai.of_below (bR W11) g4).set 0 (iv a.now)).set 1 (iv t.now)) qs);clear q qs;go_wp2_with fail;exact bodyPost_ret (v:=.agg #[iv a.now,iv t.now]) (by simp[results,Tryz.results27,go_sem,d0,d1]) rfl ⟨by rw[az.out,af.out],HFI.out.on,by rw[aw.out];exact HFI.out.ed⟩
theorem ID(y:ar)(A:aI)(k:Int)(g:Nat)(w:World)(l:0≤k∧k<y.kinds.length)(m:y.kinds.length≤4)(hc:w.cell? ⟨g,0,none⟩=some (iv k)) :
  Cs 25 #[.agg (ak y A),pT g 0] w (Rt w (iv k)):=by
 obtain⟨a,d,b⟩:=nA w (.cells (ak y A) 74);obtain⟨g2,hg2⟩:=ex w.heap.size;have q1:aa a g2 74 (ak y A):=by rw[←d,←hg2];exact aa.new w 74 _
 have i:=Lq b;have x0:=q1.c 0;have l1:=q1.lt;have c1:=kC b hc;have HC:=Lq c1;have hw1:IntKind.i64.wrap ((y.kinds.length:Int)-1)=(y.kinds.length:Int)-1:=by rw[IntKind.wrap_i64];omega
 have j:Hid (∀(g:Nat) (W:World),W.cell? ⟨g,0,none⟩=some (iv k)→g<W.heap.size→Cs 26 #[iv 0,iv ((y.kinds.length:Int)-1),.slice (some ⟨g,0,none⟩) 1 1] W (Rt W (.bool false))):=Lq fun g W h1 h2=>by
  have h:=lB 0 ((y.kinds.length:Int)-1) k g W h1 h2;rw[cX l.1 (by omega)]at h
  exact h
 clear b q1 hc;go_enter Tryz.func25,Tryz.ntmps25
 go_wp2_with fail;refine(j.out _ _ ((aa.new a 3 #[iv k]).c 0) (aa.new a 3 #[iv k]).lt).mono ?_;rintro e n ⟨rfl,f⟩;have HB2:=Lq (bT (bA (bR a) _) f);clear f c1 x0;have c2:=kC HB2.out HC.out;go_wp2_with fail;go_ret
 exact⟨rfl,bT i.out HB2.out⟩
theorem AR(y:ar)(A:aI)(B i:Nat)(p:cT)(g:Nat)(w:World)(H:aO w B y A)(d:B≤w.heap.size)(j:y.papers[i]?=some p)(q:y.papers.length≤10)(hc:w.cell? ⟨g,0,none⟩=some (iv i)) :
  Cs 119 #[.agg (ak y A),pT g 0] w (Rt w (iv p.kind)):=by
 obtain⟨b,f,a⟩:=nA w (.cells (ak y A) 74);obtain⟨g2,hg2⟩:=ex w.heap.size;have q1:aa b g2 74 (ak y A):=by rw[←f,←hg2];exact aa.new w 74 _
 have l:=Lq a;have HQ:=Lq q1;have HY:=Lq (H.below a d);have HZ:=Lq (lT d a.size);have x3:=q1.c 3;have l1:=q1.lt;have c1:=kC a hc;have HC:=Lq c1;have hil:i<y.papers.length:=(lG j);have hw1:IntKind.i64.wrap ((y.papers.length:Int)-1)=(y.papers.length:Int)-1:=by rw[IntKind.wrap_i64];omega
 have m:Hid (∀(g:Nat) (W:World),W.cell? ⟨g,0,none⟩=some (iv i)→g<W.heap.size→Cs 26 #[iv 0,iv ((y.papers.length:Int)-1),.slice (some ⟨g,0,none⟩) 1 1] W (Rt W (.bool false))):=Lq fun g W h1 h2=>by
  have h:=lB 0 ((y.papers.length:Int)-1) i g W h1 h2;rw[cX (by omega) (by omega)]at h
  exact h
 have o:=nn i;have hiz:(i:Int)<(y.papers.length:Int):=by omega
 have n:=Lq j;clear a q1 hc H d j;go_enter Tryz.func119,Tryz.ntmps119
 go_wp2_with fail;refine(m.out _ _ ((aa.new b 3 #[iv i]).c 0) (aa.new b 3 #[iv i]).lt).mono ?_;rintro e r ⟨rfl,k⟩;have HB2:=Lq (bT (bA (bR b) _) k);clear k c1 x3;have c2:=kC HB2.out HC.out;obtain⟨ba,oa,hA, -,c0, -, -, -, -⟩:=(HY.out.below HB2.out HZ.out).paper n.out;have x3:=(HQ.out.keep HB2.out).c 3;rw[hA]at x3;clear hA;go_wp2_with fail;go_ret
 exact⟨rfl,bT l.out HB2.out⟩
structure IE(y:ar)(k:Int)(l:List Int)(es':List Ed)(w:World)(g b cap gj:Nat)(w':World):Prop where
 bw:BW w w'
 wb:aa w' g 89 #[.slice (some ⟨b,0,none⟩) es'.length cap,iv ((y.places.length+2:Nat):Int),.slice (some ⟨gj,0,none⟩) y.papers.length y.papers.length,iv (((ce y k l).length:Int)-1)]
 er:cx w.heap.size w' b cap es'
 jr:w'.ownsRow w.heap.size 3 1 (.slice (some ⟨gj,0,none⟩) y.papers.length y.papers.length) y.papers.length ((n8 y k l).map iv)
def IF(y:ar)(k:Int)(l:List Int)(es':List Ed)(bt:Bool)(w:World)(e:Ending)(w':World):Prop:=(bt=false∧e=.returned (.tuple #[.pointer none,iv 9])∧BW w w')∨(bt=true∧∃g b cap gj,e=.returned (.tuple #[pT g 0,iv 0])∧IE y k l es' w g b cap gj w')
theorem tc{a f:Nat}{j g:List Ed}{b:Bool}(h:dW a f j=some (b,g)):g.length=j.length:=by
 unfold dW at h;have p:∀(f s:Nat) (o:List Int) (c:List Ed) (r:Bool×List Int×List Ed),s<a→fP a s f o c=some r→r.2.2.length=c.length:=by
  intro f;induction f with
  | zero=>intro s o c r _ h;cases h
  | succ f ih =>
   intro s o c r d h;rcases xZ h with⟨_,rfl⟩ | ⟨_,hok,hsm,k,t,e2,hp,hn⟩
   ·rfl
   ·have i:=(sI hp hok d (by have:=hsm s;omega) (fun n _=>by have:=hsm n;omega)).2.2.2
    rcases hn with⟨_,rfl⟩ | ⟨_,h2⟩
    ·exact i
    ·exact(ih s _ e2 r d h2).trans i
 have m:∀(l:List Nat) (o:List Int) (c:List Ed) (r:Bool×List Ed),(∀s∈l,s<a)→cG a f l o c=some r→r.2.length=c.length:=by
  intro l;induction l with
  | nil=>intro o c r _ h;rw[cG]at h;injection h with h;rw[←h]
  | cons s l ih =>
   intro o c r i h;obtain⟨b2,o2,e2,he,hc⟩:=ya h;have h1:=p f s o c _ (i s (List.mem_cons_self ..)) he;rcases hc with⟨_,rfl⟩ | ⟨_,h2⟩
   ·exact h1
   ·exact(ih o2 e2 r (fun s d=>i s (List.mem_cons_of_mem _ d)) h2).trans h1
 exact m _ _ _ _ (fun s d=>List.mem_range.1 d) h
theorem te(y:ar)(A:aI)(B:Nat)(L:Option Addr)(l:List Int)(d f K:Nat)(h:Array Value)(k:Int)(D Y:Bool)(m:List Ed)(w:World)(H:aO w B y A)(j:B≤w.heap.size)(t:dc y)(T:l.length≤maxLen)(R:am iv w B L l)(S:jb y.papers.length l)(s:cE y l)(hc:cN y l f=some D)(hk:0≤k∧k<y.kinds.length)(o:dW (y.places.length+2) f (ce y k l)=some (Y,m))(N:∀(x:Value) (W:World),(callFunc K (#[x]++h)).run Tryz.prog W=.ok (.enter K (#[x]++h)) W)(Z:∀W,BW w W→Calls Tryz.prog K (#[.agg (ak y A)]++h) W (Rt W (iv k))) :
  Cs 24 #[.agg (ak y A),.slice L l.length d,.func (.func K) #[] h] w (IF y k l m D w):=by
 obtain⟨C,M,i⟩:=nA w (.cells (ak y A) 46);obtain⟨g3,hg3⟩:=ex w.heap.size;have q1:aa C g3 46 (ak y A):=by rw[←M,←hg3];exact aa.new w 46 _
 have X:=Lq i;have HOP:=Lq (oF y A B L l d C (H.below i j) (lT j i.size) t T (R.below i j) S);have HCL:Hid (∀W,BW C W→Cs 21 #[.agg (ak y A),.slice L l.length d] W (Rt W (.bool D))):=Lq fun W hb=>nu y A B L l d f D W (H.below (bT i hb) j) (lT j (bT i hb).size) t.pap T (R.below (bT i hb) j) s (by have:=t.kinds;omega) hc
 have z:Hid (∀W,BW C W→Cs 73 #[.agg (ak y A),iv k,.slice L l.length d] W fun e w'=>∃g b cap gj,e=.returned (pT g 0)∧pY y k l W g b cap gj w'):=Lq fun W hb=>xT y A B k L l d W (H.below (bT i hb) j) (lT j (bT i hb).size) t.pap T (R.below (bT i hb) j)
 obtain⟨kn,O⟩:∃n:Nat,k=(n:Int):=⟨k.toNat,by omega⟩
 have r:=s kn (by omega)
 rw[←O]at r;have v:=Lq r;have HBAL:=Lq o;have HPL:=Lq t.places;have HKC:Hid (∀W,BW C W→Calls Tryz.prog K (#[.agg (ak y A)]++h) W (Rt W (iv k))):=Lq fun W hb=>Z W (bT i hb)
 have V:=Lq N;obtain⟨x0,x1,x2,x3,x4⟩:=q1.c5;have l1:=q1.lt;have hkd:decide (k<0)=false:=decide_eq_false (by omega)
 clear H j t T R S s hc i q1 O r o N Z;go_enter Tryz.func24,Tryz.ntmps24
 go_wp2_with fail;refine HOP.out.mono ?_;rintro e w2 ⟨rfl,(U:Hid _)⟩;clear HOP x0 x1 x2 x3 x4 l1 M hg3;obtain⟨Wa,Wb,hWa,hWb,hbb,qa,hba,qb⟩:=fh w2 74 (.slice none 0 0) (.slice none 0 0) (.slice none 0 0) (.slice none 0 0) (.slice none 0 0) (.slice A.k y.kinds.length A.ck) (.slice A.p y.places.length A.cp) (.slice A.f y.first.length A.cf) (.slice A.a y.papers.length A.ca) (.slice A.l y.last.length A.cl);obtain⟨g8,hg8⟩:=ex w2.heap.size;rw[hg8]at hWb qa qb;obtain⟨f0,f1,f2,f3,f4⟩:=qa.f5;obtain⟨e0,e1,e2,e3,e4⟩:=qa.c5;have el:=qa.lt;obtain⟨E,F,G,I,J⟩:=qb.c5;have HBX:=Lq (bT U.out hbb);have HQ8:Hid (aa Wb g8 74 (ak y A)):=Lq qb;have HK:=Lq (HKC.out Wb HBX.out);clear hbb qa hba qb;go_wp2_with fail;rw[V.out,Oper.upon_enter];refine HK.out.mono ?_;rintro e w3 ⟨rfl,(HB3:Hid _)⟩;clear HK f0 f1 f2 f3 f4 e0 e1 e2 e3 e4 el E F G I J hWa hWb hg8;obtain⟨E,F,G,I,J⟩:_∧_∧_∧_∧_:=⟨(HQ8.out.keep HB3.out).c 0,(HQ8.out.keep HB3.out).c 1,(HQ8.out.keep HB3.out).c 2,(HQ8.out.keep HB3.out).c 3,(HQ8.out.keep HB3.out).c 4⟩;have HC:=Lq (HCL.out w3 (bT HBX.out HB3.out));go_wp2_with fail;refine HC.out.mono ?_;rintro e w4 ⟨rfl,hb⟩;have HB4:=Lq (bT HB3.out hb);clear hb HC E F G I J;cases D
 ·go_wp2_with fail
  go_ret2
  exact Or.inl ⟨rfl,rfl,bT X.out (bT HBX.out HB4.out)⟩
 ·obtain⟨E,F,G,I,J⟩:_∧_∧_∧_∧_:=⟨(HQ8.out.keep HB4.out).c 0,(HQ8.out.keep HB4.out).c 1,(HQ8.out.keep HB4.out).c 2,(HQ8.out.keep HB4.out).c 3,(HQ8.out.keep HB4.out).c 4⟩;have HW:=Lq (z.out w4 (bT HBX.out HB4.out));go_wp2_with fail;refine HW.out.mono ?_;rintro e w5 ⟨gw,b,cap,gj,rfl,hw⟩;have HWP:=Lq hw;have hpl:=HPL.out;have HBAC:=Lq (yg gw b cap (y.places.length+2) f _ _ (ce y k l) w4.heap.size Y m w5 hw.wb hw.er v.out.1 (by omega) v.out.2 HBAL.out)
  clear hw E F G I J HW;go_wp2_with fail;refine HBAC.out.mono ?_;rintro e w6 ⟨rfl,u,he⟩;have HO:=Lq (And.intro u he);clear u he;go_wp2_with fail
  go_ret2
  refine Or.inr ⟨rfl,gw,b,cap,gj,rfl, ?_⟩;have q:=bT X.out (bT HBX.out HB4.out);have u:=HO.out.1;have S:m.length=(ce y k l).length:=tc HBAL.out;refine⟨bT q (yh HWP.out u), ?_, ?_, ?_⟩
  ·rw[S];exact HWP.out.wb.same (u.block gw HWP.out.wb.lt (fun e=>ax HWP.out.er.row HWP.out.wb (by decide) (by rw[e];rfl)))
  ·exact⟨dv HO.out.2.row q.size⟩
  ·exact dv (u.own HWP.out.jr (fun e=>jI HWP.out.er.row HWP.out.jr (by decide) (g:=b) rfl e)) q.size
theorem IG(y:ar)(k:Int)(l:List Int):1≤(ce y k l).length:=by unfold ce;rw[List.length_append];simp
theorem AU(y:ar)(A:aI)(B:Nat)(L:Option Addr)(l:List Int)(g f:Nat)(k D x:Int)(M:Bool)(a es2:List Ed)(w:World)(H:aO w B y A)(E:B≤w.heap.size)(F:dc y)(S:l.length≤maxLen)(O:am iv w B L l)(R:jb y.papers.length l)(o:cE y l)(hc:cN y l f=some true)(K:0≤k∧k<y.kinds.length)(d:dW (y.places.length+2) f (ce y k l)=some (M,a))(N:Nat)(C:jC (y.places.length+2) ((ce y k l).length-1) N a=some ((D,x),es2)) :
  Cs 10 #[.agg (ak y A),.slice L l.length g,iv k] w (Rt w (.tuple #[.agg #[iv D,iv x],iv 0])):=by
 obtain⟨I,t,J⟩:=nA w (.cells (ak y A) 46);obtain⟨g3,hg3⟩:=ex w.heap.size;obtain⟨W2,hW2,b2⟩:=nA I (.cells #[iv k] 3);obtain⟨g5,hg5⟩:=ex I.heap.size;obtain⟨W3,hW3,b3⟩:=nA W2 (.cells #[iv 0,iv 0] 33);obtain⟨g6,hg6⟩:=ex W2.heap.size;have q3:aa W3 g3 46 (ak y A):=by rw[←hW3,←hW2];exact aa.alloc (aa.alloc (by rw[←t,←hg3];exact aa.new w 46 _) _) _
 have T:aa W3 g5 3 #[iv k]:=by rw[←hW3];exact aa.alloc (by rw[←hW2,←hg5];exact aa.new I 3 _) _
 have j:aa W3 g6 33 #[iv 0,iv 0]:=by rw[←hW3,←hg6];exact aa.new W2 33 _
 have u:=bT (bT J b2) b3;have HB:=Lq u;have HQ6:=Lq j;have HG6:Hid (w.heap.size≤g6):=Lq (by rw[←hg6];exact(bT J b2).size)
 have q:=Lq (te y A B L l g f 25 #[pT g5 0] k true M a W3 (H.below u E) (lT E u.size) F S (O.below u E) R o hc K d (fun _ _=>rfl) (fun W hw=>ID y A k g5 W K F.kinds.2 ((T.keep hw).c 0)))
 obtain⟨X,z⟩:∃n:Nat,k=(n:Int):=⟨k.toNat,by omega⟩
 have m:=o X (by omega)
 rw[←z]at m;have i:a.length≤1000:=by rw[tc d];exact m.2
 have s:=Lq (And.intro C i);have HPL:=Lq F.places;obtain⟨x0,x1,x2,x3,x4⟩:=q3.c5;have l3:=q3.lt;clear H E F S O R o hc d C i m J b2 b3 q3 T j u z K;go_enter Tryz.func10,Tryz.ntmps10
 go_wp2_with fail;refine q.out.mono ?_;intro e U G;rcases G with⟨h, -⟩ | ⟨-,gw,b,cap,gj,rfl,hbp⟩
 ·cases h
 have r:=Lq hbp;have x5:=hbp.wb.c 3;have l5:=hbp.wb.lt;have hpos:=IG y k l;have hcast:((ce y k l).length:Int)-1=(((ce y k l).length-1:Nat):Int):=by omega
 have V:b<U.heap.size:=hbp.er.lt;have HCA:=Lq (AQ gw b cap (y.places.length+2) ((ce y k l).length-1) N _ _ a W3.heap.size D x es2 U hbp.wb hbp.er (by have:=HPL.out;omega) s.out.2 s.out.1)
 rw[hcast]at x5;clear hbp x0 x1 x2 x3 x4 l3 t hW2 hW3 hg3 hg5 hg6 hcast hpos q;go_wp2_with fail;refine HCA.out.mono ?_;rintro e Y ⟨rfl,G, -⟩;have hb3:BW W3 Y:=G.below r.out.bw (r.out.er.row.lt b rfl).1;have HB3:=Lq hb3;have j:=HQ6.out.keep hb3;obtain⟨c0,c1⟩:=j.c2;obtain⟨f0,f1⟩:=j.f2;have l6:=j.lt;have qs:=(j.set_ 0 (iv D)).set_ 1 (iv x);simp only[List.setIfInBounds_toArray,List.set_cons_zero,List.set_cons_succ]at qs;obtain⟨d0,d1⟩:=qs.c2;clear G hb3 j qs HCA x5;go_wp2_with fail;exact bodyPost_ret (v:=.tuple #[.agg #[iv D,iv x],iv 0]) (by simp[results,Tryz.results10,go_sem,d0,d1]) rfl ⟨rfl,aH (aH (bT HB.out HB3.out) HG6.out (p:=⟨g6,0,none⟩) _) HG6.out (p:=⟨g6,1,none⟩) _⟩
noncomputable def IH:Array Oper:=aU (aF Tryz.f63 4)
theorem II(y:ar)(A:aI)(B:Nat)(L:Option Addr)(l:List Int)(o f i:Nat)(p:cT)(O J:Int)(Y:Bool)(d es2:List Ed)(w:World)(H:aO w B y A)(D:B≤w.heap.size)(I:dc y)(hm:l.length≤maxLen)(hL:am iv w B L l)(hl:jb y.papers.length l)(z:cE y l)(hc:cN y l f=some true)(R:y.papers[i]?=some p)(k:dW (y.places.length+2) f (ce y p.kind l)=some (Y,d))(Z j:Nat)(hj:(n8 y p.kind l)[i]?=some (j:Int))(N:jC (y.places.length+2) j Z d=some ((O,J),es2)) :
  Cs 63 #[.agg (ak y A),.slice L l.length o,iv i] w (Rt w (.tuple #[.agg #[iv O,iv J],iv 0])):=by
 obtain⟨U,G,V⟩:=nA w (.cells (ak y A) 46);obtain⟨g3,hg3⟩:=ex w.heap.size;obtain⟨W2,hW2,b2⟩:=nA U (.cells #[iv i] 3);obtain⟨g5,hg5⟩:=ex U.heap.size;obtain⟨W3,hW3,b3⟩:=nA W2 (.cells #[iv 0,iv 0] 33);obtain⟨g6,hg6⟩:=ex W2.heap.size;have q3:aa W3 g3 46 (ak y A):=by rw[←hW3,←hW2];exact aa.alloc (aa.alloc (by rw[←G,←hg3];exact aa.new w 46 _) _) _
 have X:aa W3 g5 3 #[iv i]:=by rw[←hW3];exact aa.alloc (by rw[←hW2,←hg5];exact aa.new U 3 _) _
 have t:aa W3 g6 33 #[iv 0,iv 0]:=by rw[←hW3,←hg6];exact aa.new W2 33 _
 have m:=bT (bT V b2) b3;have HB:=Lq m;have HQ6:=Lq t;have HQ5:=Lq X;have HG6:Hid (w.heap.size≤g6):=Lq (by rw[←hg6];exact(bT V b2).size)
 have M:=(I.pa i p R).kind;have HBA:=Lq (te y A B L l o f 119 #[pT g5 0] p.kind true Y d W3 (H.below m D) (lT D m.size) I hm (hL.below m D) hl z hc M k (fun _ _=>rfl) (fun W hw=>AR y A B i p g5 W (H.below (bT m hw) D) (lT D (bT m hw).size) R I.papers ((X.keep hw).c 0)))
 obtain⟨kn,K⟩:∃n:Nat,p.kind=(n:Int):=⟨p.kind.toNat,by omega⟩
 have x:=z kn (by omega)
 rw[←K]at x;have q:d.length≤1000:=by rw[tc k];exact x.2
 have ab:i<y.papers.length:=(lG R);have hi0:=nn i;have hiz:(i:Int)<(y.papers.length:Int):=by omega
 have F:=Lq (And.intro N q);have HPL:=Lq I.places;have HJ:=Lq hj;obtain⟨x0,x1,x2,x3,x4⟩:=q3.c5;have l3:=q3.lt;clear H D I hm hL hl z hc k N q x V b2 b3 q3 X t m K M R hj;go_enter Tryz.func63,Tryz.ntmps63
 go_wp2_with fail;refine HBA.out.mono ?_;intro e w2 s;rcases s with⟨h, -⟩ | ⟨-,gw,b,cap,gj,rfl,hbp⟩
 ·cases h
 have a:=Lq hbp;clear hbp x0 x1 x2 x3 x4 l3 G hW2 hW3 hg3 hg5 hg6 HBA;go_upto_region 4 with fail
 have T:Hid (∀W:World,W.ownsRow W3.heap.size 3 1 (.slice (some ⟨gj,0,none⟩) y.papers.length y.papers.length) y.papers.length ((n8 y p.kind l).map iv)→W.cell? ⟨gj,i,none⟩=some (iv j)):=Lq fun W h=>by
  rw[h.cellAt i (by omega),List.getElem?_map,HJ.out]
  rfl
 have u:Hid (∀W,ai w2 W b→W.cell? ⟨gw,2,none⟩=some (.slice (some ⟨gj,0,none⟩) y.papers.length y.papers.length)∧W.cell? ⟨g5,0,none⟩=some (iv i)∧W.cell? ⟨gj,i,none⟩=some (iv j)):=Lq fun W s=>by
  have C:=HQ5.out.keep a.out.bw;have k5:=C.same (s.block g5 C.lt (fun e=>ax a.out.er.row C (by decide) (by rw[e];rfl)))
  have kw:=a.out.wb.same (s.block gw a.out.wb.lt (fun e=>ax a.out.er.row a.out.wb (by decide) (by rw[e];rfl)))
  exact⟨kw.c 2,k5.c 0,T.out W (s.own a.out.jr (fun e=>jI a.out.er.row a.out.jr (by decide) (g:=b) rfl e))⟩
 refine cJ (late:=fun j=>j==9||j==10) (ops:=IH) (r:=4) (n:=11) (S:=fun W=>W.cell? ⟨gw,2,none⟩=some (.slice (some ⟨gj,0,none⟩) y.papers.length y.papers.length)∧W.cell? ⟨g5,0,none⟩=some (iv i)∧W.cell? ⟨gj,i,none⟩=some (iv j)) (fun W m=>u.out W (ai.of_below m b)) fun V0 HB0 hHeld=>?_
 refine ae 0 (pT gw 0) ?_;refine ae 1 (pT gw 0) ?_;refine ae 2 (pT gw 0) ?_;refine ae 3 (pT gw 2) ?_;refine ae 4 (.slice (some ⟨gj,0,none⟩) y.papers.length y.papers.length) ?_;refine ae 5 (iv i) ?_;refine ae 6 (pT gj i) ?_;refine ae 7 (iv j) ?_;refine aQ 8 fun K' hK=>?_
 have E:=Lq (AQ gw b cap (y.places.length+2) j Z _ _ d W3.heap.size O J es2 V0 (a.out.wb.keep HB0.out) (a.out.er.below HB0.out) (by have:=HPL.out;omega) F.out.2 F.out.1)
 go_simp;refine E.out.mono ?_;rintro e w3 ⟨rfl,s, -⟩;have ho2:=ie (ai.of_below HB0.out b) s;have hb3:BW W3 w3:=ho2.below a.out.bw (a.out.er.row.lt b rfl).1;have HB3:=Lq hb3;refine hK.out _ _ (u.out _ ho2) (fun hHeld=>?_)
 clear hK s ho2 hb3 E;refine bO 9 fun K' hK=>?_
 have t:=HQ6.out.keep HB3.out;obtain⟨c0,c1⟩:=t.c2;obtain⟨f0,f1⟩:=t.f2;have l6:=t.lt;have qs:=(t.set_ 0 (iv O)).set_ 1 (iv J);simp only[List.setIfInBounds_toArray,List.set_cons_zero,List.set_cons_succ]at qs;obtain⟨d0,d1⟩:=qs.c2;go_simp;refine hK.out _ _ ?_;clear hK hHeld u t qs c0 c1 f0 f1 l6;refine wpAny_of_held (S:=fun _=>True) _ _ _ _ ?_
 refine tk 10 (iv 0) ?_;refine dn ?_;go_wp2_with fail;exact bodyPost_ret (v:=.tuple #[.agg #[iv O,iv J],iv 0]) (by simp[results,Tryz.results63,go_sem,d0,d1]) rfl ⟨rfl,aH (aH (bT HB.out HB3.out) HG6.out (p:=⟨g6,0,none⟩) _) HG6.out (p:=⟨g6,1,none⟩) _⟩
theorem IJ(y:ar)(A:aI)(B:Nat)(L:Option Addr)(l:List Int)(a f i:Nat)(p:cT)(x:Bool)(k:List Ed)(w:World)(H:aO w B y A)(j:B≤w.heap.size)(q:dc y)(D:l.length≤maxLen)(z:am iv w B L l)(C:jb y.papers.length l)(n:cE y l)(hc:cN y l f=some false)(u:y.papers[i]?=some p)(b:dW (y.places.length+2) f (ce y p.kind l)=some (x,k)) :
  Cs 63 #[.agg (ak y A),.slice L l.length a,iv i] w (Rt w (.tuple #[.agg #[iv 0,iv 0],iv 9])):=by
 obtain⟨s,m,t⟩:=nA w (.cells (ak y A) 46);obtain⟨g3,hg3⟩:=ex w.heap.size;obtain⟨W2,hW2,b2⟩:=nA s (.cells #[iv i] 3);obtain⟨g5,hg5⟩:=ex s.heap.size;obtain⟨W3,hW3,b3⟩:=nA W2 (.cells #[iv 0,iv 0] 33);obtain⟨g6,hg6⟩:=ex W2.heap.size;have q3:aa W3 g3 46 (ak y A):=by rw[←hW3,←hW2];exact aa.alloc (aa.alloc (by rw[←m,←hg3];exact aa.new w 46 _) _) _
 have E:aa W3 g5 3 #[iv i]:=by rw[←hW3];exact aa.alloc (by rw[←hW2,←hg5];exact aa.new s 3 _) _
 have d:aa W3 g6 33 #[iv 0,iv 0]:=by rw[←hW3,←hg6];exact aa.new W2 33 _
 have g:=bT (bT t b2) b3;have HB:=Lq g;have HQ6:=Lq d;have HG6:Hid (w.heap.size≤g6):=Lq (by rw[←hg6];exact(bT t b2).size)
 have o:=(q.pa i p u).kind;have HBA:=Lq (te y A B L l a f 119 #[pT g5 0] p.kind false x k W3 (H.below g j) (lT j g.size) q D (z.below g j) C n hc o b (fun _ _=>rfl) (fun W hw=>AR y A B i p g5 W (H.below (bT g hw) j) (lT j (bT g hw).size) u q.papers ((E.keep hw).c 0)))
 obtain⟨J,K,M,N,O⟩:=q3.c5;have l3:=q3.lt;clear H j q D z C n hc b t b2 b3 q3 E d g o u;go_enter Tryz.func63,Tryz.ntmps63
 go_wp2_with fail;refine HBA.out.mono ?_;intro e I G;rcases G with⟨-,rfl,hb2⟩ | ⟨h, -⟩
 case inr=>cases h
 have F:=Lq hb2;have d:=HQ6.out.keep hb2;obtain⟨c0,c1⟩:=d.c2;obtain⟨f0,f1⟩:=d.f2;have l6:=d.lt;have qs:=(d.set_ 0 (iv 0)).set_ 1 (iv 0);simp only[List.setIfInBounds_toArray,List.set_cons_zero,List.set_cons_succ]at qs;obtain⟨Wz,hWz⟩:=ex ((I.setCell ⟨g6,0,none⟩ (iv 0)).setCell ⟨g6,1,none⟩ (iv 0));have hbz:BW w Wz:=by rw[←hWz];exact aH (aH (bT HB.out hb2) HG6.out (p:=⟨g6,0,none⟩) _) HG6.out (p:=⟨g6,1,none⟩) _
 have r:=Lq hbz;rw[hWz]at qs;obtain⟨d0,d1⟩:=qs.c2;clear hbz hb2 d qs J K M N O l3 m hW2 hW3 hg3 hg5 hg6 HBA;go_wp2_with fail;exact bodyPost_ret (v:=.tuple #[.agg #[iv 0,iv 0],iv 9]) (by simp[results,Tryz.results63,go_sem,d0,d1]) rfl ⟨rfl,r.out⟩
section
variable{x:Int}{n:Nat}
abbrev yF:ar:=aC false
abbrev yT:ar:=aC true
theorem AV{a b:ByteArray}(d:a.size≤maxLen∧du a=true)(f:b.size≤maxLen∧du b=true)(h:Lib.containsS [a] b=false):ns [a,b]:=by
 intro i s c
 match i,c with
 | 0,c=>injection c with c;subst c;exact⟨d.1,d.2,rfl⟩
 | 1,c=>injection c with c;subst c;exact⟨f.1,f.2,h⟩
theorem iL(b:Bool):dc (aC b):=by
 refine⟨⟨by cases b<;>decide,by cases b<;>decide⟩,⟨by cases b<;>decide,by cases b<;>decide⟩,by cases b<;>decide,by cases b<;>decide,by cases b<;>decide,AV ⟨by cases b<;>decide,by kernel_rfl⟩ ⟨by cases b<;>decide,by kernel_rfl⟩ (by kernel_rfl),AV ⟨by cases b<;>decide,by kernel_rfl⟩ ⟨by cases b<;>decide,by kernel_rfl⟩ (by kernel_rfl),fun i c h=>?_,fun i c h=>?_,fun i p h=>?_⟩
 ·match i,h with
  | 0,h=>injection h with h;subst h;exact⟨⟨by cases b<;>decide,by cases b<;>decide,by cases b<;>decide,by cases b<;>decide,by cases b<;>decide⟩,by simp⟩
 ·cases b
  ·match i,h with
   | 0,h=>injection h with h;subst h;exact⟨⟨by decide,by decide,by decide,by decide,by decide⟩,by simp⟩
   | 1,h=>injection h with h;subst h;exact⟨⟨by decide,by decide,by decide,by decide,by decide⟩,by decide⟩
  ·match i,h with
   | 0,h=>injection h with h;subst h;exact⟨⟨by decide,by decide,by decide,by decide,by decide⟩,by simp⟩
 ·match i,h with
  | 0,h=>injection h with h;subst h;exact⟨by cases b<;>decide,by cases b<;>decide,by cases b<;>decide,by cases b<;>decide,by cases b<;>decide,.inr ⟨1,⟨0,0,1,500,0⟩,rfl,by cases b<;>decide,rfl,rfl,rfl,rfl,rfl⟩⟩
  | 1,h=>injection h with h;subst h;exact⟨by cases b<;>decide,by cases b<;>decide,by cases b<;>decide,by cases b<;>decide,by cases b<;>decide,.inr ⟨0,⟨0,0,1,600,1⟩,rfl,by cases b<;>decide,rfl,rfl,rfl,rfl,rfl⟩⟩
  | 2,h=>injection h with h;subst h;exact⟨by cases b<;>decide,by cases b<;>decide,by cases b<;>decide,by cases b<;>decide,by cases b<;>decide,.inl rfl⟩
theorem mH(h:0≤x∧x<n):jb n [x]:=by
 intro k u a
 match k,a with
 | 0,a=>injection a with a;subst a;exact⟨h,fun z b=>by omega⟩
theorem IK{z:Int}(h:0≤x∧x<n)(c:x<z∧z<n):jb n [x,z]:=by
 intro k u a
 match k,a with
 | 0,a=>injection a with a;subst a;exact⟨h,fun z d=>by omega⟩
 | 1,a=>injection a with a;subst a;exact⟨by omega,fun v _ b=>by injection b with b;omega⟩
theorem qu:cE yF [1]∧cN yF [1] 9=some true:=⟨by unfold cE;decide +kernel,by decide +kernel⟩
theorem qv:cE yF [0]∧cN yF [0] 9=some false:=⟨by unfold cE;decide +kernel,by decide +kernel⟩
theorem AX:cE yF (bC (-1) yF.papers.length)∧cN yF (bC (-1) yF.papers.length) 9=some true:=⟨by unfold cE;decide +kernel,by decide +kernel⟩
theorem qw:cE yT (bC (-1) yT.papers.length)∧cN yT (bC (-1) yT.papers.length) 9=some true:=⟨by unfold cE;decide +kernel,by decide +kernel⟩
theorem qy:iU yF [0] yF.papers.length=false∧(iE yF 0 [0]).1=100:=⟨by decide +kernel,by decide +kernel⟩
theorem tf:nw yF 0 [0]:=by
 refine⟨fun e=>by cases e<;>decide +kernel,fun e=>by cases e<;>decide +kernel,fun i p h e=>?_⟩
 match i,h with
 | 0,h=>injection h with h;subst h;cases e<;>decide +kernel
 | 1,h=>injection h with h;subst h;cases e<;>decide +kernel
 | 2,h=>injection h with h;subst h;cases e<;>decide +kernel
def oR(s:List Int):Bool:=s==[0]||s==[1]
theorem IL:jg yT.papers.length=[[],[0],[1],[2]]++[0,1]::[[0,2],[1,2],[0,1,2]]:=by decide +kernel
theorem IM:jg yT.papers.length=[[]]++[0]::[[1],[2],[0,1],[0,2],[1,2],[0,1,2]]:=by decide +kernel
theorem tg:∀s∈([[],[0],[1],[2]]:List (List Int)),s.length≤10∧cE yT s∧cN yT s 9=some (oR s):=by intro s a;simp only[List.mem_cons,List.not_mem_nil,or_false]at a;rcases a with rfl | rfl | rfl | rfl<;>exact⟨by decide,by unfold cE;decide +kernel,by decide +kernel⟩
theorem IN{α:Type}{a P:List α}{s:α}(h:a++[s] <+: P):a=P.take a.length∧P[a.length]?=some s:=by obtain⟨t,rfl⟩:=h;simp
theorem IOa:∀a s,a++[s] <+: ([[],[0],[1],[2]]:List (List Int))→kh (a.filter oR) s=false:=by
 intro a s h;obtain⟨h1,h2⟩:=IN h;have hn:=(lG h2);obtain⟨n,e⟩:∃n,n=a.length:=⟨_,rfl⟩;rw[←e]at h1 h2 hn;rw[h1]
 match n,h2 with
 | 0,h2=>injection h2 with h2;subst h2;decide
 | 1,h2=>injection h2 with h2;subst h2;decide
 | 2,h2=>injection h2 with h2;subst h2;decide
 | 3,h2=>injection h2 with h2;subst h2;decide
theorem IP:mF (([[],[0],[1],[2]]:List (List Int)).filter oR)=[0,1]:=by
 rw[show([[],[0],[1],[2]]:List (List Int)).filter oR=[[0],[1]]by decide]
 unfold mF;rw[List.mergeSort_of_pairwise (by decide)]
 decide
theorem IQ:ke (fun i=>i != 1) yF.papers.length=[1]:=by decide +kernel
theorem AY:∀i:Nat,i<yF.papers.length→cE yF (bC i yF.papers.length)∧cN yF (bC i yF.papers.length) 9=some (i != 1):=by intro i a;have a:i<3:=a;rcases(show i=0∨i=1∨i=2 by omega)with rfl | rfl | rfl<;>exact⟨by unfold cE;decide +kernel,by decide +kernel⟩
theorem AZ{α β γ:Type}{o:Option α}{f:α→Option (β×γ)}{v:β}(h:o.map (fun r=>(f r).map Prod.fst)=some (some v)):∃r c,o=some r∧f r=some (v,c):=by
 cases o with
 | none=>cases h
 | some r =>
  simp only[Option.map_some,Option.some.injEq]at h;cases hf:f r with
  | none=>rw[hf]at h;cases h
  | some q =>
   rw[hf]at h;injection h with h
   exact⟨r,q.2,rfl,by rw[hf,←h]⟩
theorem IR:∃r c,dW (yT.places.length+2) 9 (ce yT 0 [0,1])=some r∧jC (yT.places.length+2) 4 9 r.2=some (((500,600):Int×Int),c):=AZ (by decide +kernel)
theorem jT:(n8 yT 0 [0,1])[0]?=some ((4:Nat):Int):=by decide +kernel
theorem Bb:cE yT [0,1]∧cN yT [0,1] 9=some true:=⟨by unfold cE;decide +kernel,by decide +kernel⟩
theorem IS:∃r c,dW (yF.places.length+2) 9 (ce yF 0 [1])=some r∧jC (yF.places.length+2) ((ce yF 0 [1]).length-1) 9 r.2=some (((300,300):Int×Int),c):=AZ (by decide +kernel)
theorem IT:∃r,dW (yF.places.length+2) 9 (ce yF 0 [0])=some r:=Option.isSome_iff_exists.1 (by decide +kernel)
end
theorem IU(y:ar)(A:aI)(B:Nat)(w:World)(H:aO w B y A)(c:B≤w.heap.size)(k:dc y)(d:sL y)(j:fe w) :
  Cs 64 #[.agg (ak y A)] w (Rt w (.tuple #[.string ⟨(nD y).toArray⟩,iv 0])):=by
 obtain⟨h,i,b⟩:=nA w (.cells (ak y A) 46);obtain⟨g1,hg1⟩:=ex w.heap.size;have q1:aa h g1 46 (ak y A):=by rw[←i,←hg1];exact aa.new w 46 _
 have g:=Lq (sF y A B h (H.below b c) (lT c b.size) k);have HTX:=Lq fun W (a:BW h W)=>yC y A B W (H.below (bT b a) c) (lT c (bT b a).size) d (j.below (bT b a) (lr _))
 have f:=Lq b;have HQ1:=Lq q1;obtain⟨x0,x1,x2,x3,x4⟩:=q1.c5;obtain⟨X,d⟩:=ex (⟨(nD y).toArray⟩:ByteArray);rw[d]at HTX ⊢;clear H c k j b q1 d;go_enter Tryz.func64,Tryz.ntmps64
 go_wp2_with fail;refine g.out.mono ?_;rintro e l ⟨rfl,a⟩;have HB2:=Lq a;have q:=HQ1.out.keep a;clear x0 x1 x2 x3 x4;obtain⟨x0,x1,x2,x3,x4⟩:=q.c5;clear q a;go_wp2_with fail;refine(HTX.out _ HB2.out).mono ?_;rintro e w3 ⟨rfl,a⟩;have HB3:=Lq (bT f.out (bT HB2.out a));clear a;go_wp2_with fail
 go_ret2
 exact⟨rfl,HB3.out⟩
end Go.Proofs.YtbillnhcmkpohaaGreatDoor
