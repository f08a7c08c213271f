/- hull: a change's words (printed by mkHW5.py). hull: what Read lays (printed by mkHW6.py). .. -/
import Derived.Recover
import Derived.Test.YtbillnhcmkpohaaGreatDoorM14
set_option maxRecDepth 1000000
set_option maxHeartbeats 0
namespace Go.Proofs.YtbillnhcmkpohaaGreatDoor
open Go.RowKit Go.Shelf
attribute [local go_sem] Oper.semAt_some
theorem cO.put10{w W:World}{g t:Nat}{A:Option Addr}{c:Nat}{l:List ByteArray}{s u v x y z B C D E:Value}(h:cO w W g t 68 A c l #[s,u,v,x,y,z,B,C,D,E])(a:g<t)(b:w.heap.size=t)(d f i j m n o p q r:Value):cO w ((((((((((W.setCell ⟨t,0,none⟩ d).setCell ⟨t,1,none⟩ f).setCell ⟨t,2,none⟩ i).setCell ⟨t,3,none⟩ j).setCell ⟨t,4,none⟩ m).setCell ⟨t,5,none⟩ n).setCell ⟨t,6,none⟩ o).setCell ⟨t,7,none⟩ p).setCell ⟨t,8,none⟩ q).setCell ⟨t,9,none⟩ r) g t 68 A c l #[d,f,i,j,m,n,o,p,q,r]:=by have k:=((((((((((h.put a b 0 d).put a b 1 f).put a b 2 i).put a b 3 j).put a b 4 m).put a b 5 n).put a b 6 o).put a b 7 p).put a b 8 q).put a b 9 r);exact⟨k.only,px _ _ _ _ _ _ _ _ _ _ h.blk,k.wd⟩
def pW(g:Nat)(wh dy:Int)(nm:ByteArray)(p:ah)(w:World)(e:Ending)(w':World):Prop:=∃A c,e=.returned (.agg #[iv wh,iv dy,.string nm,.string p.name,iv p.kind,iv p.first,iv p.last,.slice A p.on.length c,iv p.wlo,iv p.whi])∧ai w w' g∧am .string w' g A p.on∧p.on.length≤c∧(∀a,A=some a→a.block+1=g)∧c≤maxLen
theorem FB(g c:Nat)(A:Option Addr)(dy:Int)(i:ByteArray)(f d h j k:Int)(a:List ByteArray)(o n p q r s:ByteArray)(u:ByteArray)(w:World)(H:fH w g A c (u::iX::o::n::p::q::r::s::a))(E:jR u dy)(F:ni ⟨i,f,d,h,a,j,k⟩ o n p q r s) :
  Cs 111 #[.pointer (some ⟨g,0,none⟩)] w (pW g 1 dy ⟨#[]⟩ ⟨i,f,d,h,a,j,k⟩ w):=by
 have G:=Lq F;clear F;obtain⟨W1,hW1,b1⟩:=nA w (.cells #[iv 0,iv 0,.string ⟨#[]⟩,.string ⟨#[]⟩,iv 0,iv 0,iv 0,.slice none 0 0,iv 0,iv 0] 68);have q1:aa W1 w.heap.size 68 #[iv 0,iv 0,.string ⟨#[]⟩,.string ⟨#[]⟩,iv 0,iv 0,iv 0,.slice none 0 0,iv 0,iv 0]:=by rw[←hW1];exact aa.new w 68 _
 have z:=H.blk.lt;obtain⟨t,ht⟩:=ex w.heap.size;rw[ht]at q1 z;have HN1:=Lq (mB g c A u dy _ W1 (H.below b1) E);have hT0:cO w W1 g t 68 A c (u::iX::o::n::p::q::r::s::a) #[iv 0,iv 0,.string ⟨#[]⟩,.string ⟨#[]⟩,iv 0,iv 0,iv 0,.slice none 0 0,iv 0,iv 0]:=⟨ai.of_below b1 g,q1,H.below b1⟩;have HT0:=Lq hT0;have HTT:Hid (w.heap.size=t):=Lq ht;clear H b1 q1 hT0 E;go_enter Tryz.func111,Tryz.ntmps111
 go_wp2_with fail;clear hW1 ht;refine HN1.out.mono ?_;rintro e K ⟨rfl,l,B,c1,b⟩;have T1:=HT0.out.step (by omega) l b
 have I:=Lq T1;have f1:=T1.blk.frozen 1;have x1:=T1.blk.c 1;have l1:=T1.blk.lt;have hT1:=(T1.put (by omega) HTT.out 1 (iv dy))
 obtain⟨C,m⟩:=ex (K.setCell ⟨t,1,none⟩ (iv dy));rw[m]at hT1;have HT1:Hid (cO w C g t 68 B c1 (iX::o::n::p::q::r::s::a) #[iv 0,iv dy,.string ⟨#[]⟩,.string ⟨#[]⟩,iv 0,iv 0,iv 0,.slice none 0 0,iv 0,iv 0]):=Lq hT1;clear l b hT1;have HN2:=Lq (kP g c1 B iX _ C HT1.out.wd);clear T1;go_wp2_with fail;clear f1 x1 l1 m;refine HN2.out.mono ?_;rintro e v2 ⟨rfl,l,A2,c2,b⟩;have HT2:=Lq (HT1.out.step (by omega) l b)
 have x:=Lq (sy g c2 A2 ⟨i,f,d,h,a,j,k⟩ o n p q r s v2 b G.out);clear l b;go_wp2_with fail;refine x.out.mono ?_;rintro e v3 ⟨A3,c3,rfl,l,b⟩;have T1:=HT2.out.step (by omega) l b
 have J:=Lq T1;have f0:=T1.blk.frozen 0;have x0:=T1.blk.c 0;have f3:=T1.blk.frozen 3;have x3:=T1.blk.c 3;have f4:=T1.blk.frozen 4;have x4:=T1.blk.c 4;have f5:=T1.blk.frozen 5;have x5:=T1.blk.c 5;have f6:=T1.blk.frozen 6;have x6:=T1.blk.c 6;have f7:=T1.blk.frozen 7;have x7:=T1.blk.c 7;have f8:=T1.blk.frozen 8;have x8:=T1.blk.c 8;have f9:=T1.blk.frozen 9;have x9:=T1.blk.c 9;have l1:=T1.blk.lt;have hT1:=((((((((T1.put (by omega) HTT.out 0 (iv 1)).put (by omega) HTT.out 3 (.string i)).put (by omega) HTT.out 4 (iv f)).put (by omega) HTT.out 5 (iv d)).put (by omega) HTT.out 6 (iv h)).put (by omega) HTT.out 7 (.slice A3 a.length c3)).put (by omega) HTT.out 8 (iv j)).put (by omega) HTT.out 9 (iv k))
 obtain⟨D,y⟩:=ex ((((((((v3.setCell ⟨t,0,none⟩ (iv 1)).setCell ⟨t,3,none⟩ (.string i)).setCell ⟨t,4,none⟩ (iv f)).setCell ⟨t,5,none⟩ (iv d)).setCell ⟨t,6,none⟩ (iv h)).setCell ⟨t,7,none⟩ (.slice A3 a.length c3)).setCell ⟨t,8,none⟩ (iv j)).setCell ⟨t,9,none⟩ (iv k));rw[y]at hT1;have HT3:Hid (cO w D g t 68 A3 c3 (a) #[iv 1,iv dy,.string ⟨#[]⟩,.string i,iv f,iv d,iv h,.slice A3 a.length c3,iv j,iv k]):=Lq hT1;clear l b hT1;have HTA:=Lq (HT3.out.put10 (by omega) HTT.out (iv 1) (iv dy) (.string ⟨#[]⟩) (.string i) (iv f) (iv d) (iv h) (.slice A3 a.length c3) (iv j) (iv k))
 obtain⟨L,M,N,O,R,S,T,U,V,W⟩:=HT3.out.blk.c10;obtain⟨g0,g1,g2,g3,g4,g5,g6,g7,g8,g9⟩:=HT3.out.blk.f10;have l9:=HT3.out.blk.lt;obtain⟨VA,hVA⟩:=ex ((((((((((D.setCell ⟨t,0,none⟩ (iv 1)).setCell ⟨t,1,none⟩ (iv dy)).setCell ⟨t,2,none⟩ (.string ⟨#[]⟩)).setCell ⟨t,3,none⟩ (.string i)).setCell ⟨t,4,none⟩ (iv f)).setCell ⟨t,5,none⟩ (iv d)).setCell ⟨t,6,none⟩ (iv h)).setCell ⟨t,7,none⟩ (.slice A3 a.length c3)).setCell ⟨t,8,none⟩ (iv j)).setCell ⟨t,9,none⟩ (iv k));rw[hVA]at HTA;obtain⟨y0,y1,y2,y3,y4,y5,y6,y7,y8,y9⟩:=HTA.out.blk.c10;go_wp2_with fail;exact bodyPost_ret (v:=.agg #[iv 1,iv dy,.string ⟨#[]⟩,.string i,iv f,iv d,iv h,.slice A3 a.length c3,iv j,iv k]) (by simp[results,Tryz.results111,go_sem,y0,y1,y2,y3,y4,y5,y6,y7,y8,y9]) rfl ⟨A3,c3,rfl,HTA.out.only,HTA.out.wd.rd,HTA.out.wd.le,HTA.out.wd.here,HTA.out.wd.max⟩
theorem FC(g c:Nat)(A:Option Addr)(dy:Int)(a:ByteArray)(l:ByteArray)(w:World)(H:fH w g A c [l,iY,a])(s:jR l dy) :
  Cs 111 #[.pointer (some ⟨g,0,none⟩)] w (pW g 2 dy a ⟨⟨#[]⟩,0,0,0,[],0,0⟩ w):=by
 obtain⟨n,j,k⟩:=nA w (.cells #[iv 0,iv 0,.string ⟨#[]⟩,.string ⟨#[]⟩,iv 0,iv 0,iv 0,.slice none 0 0,iv 0,iv 0] 68);have q1:aa n w.heap.size 68 #[iv 0,iv 0,.string ⟨#[]⟩,.string ⟨#[]⟩,iv 0,iv 0,iv 0,.slice none 0 0,iv 0,iv 0]:=by rw[←j];exact aa.new w 68 _
 have o:=H.blk.lt;obtain⟨t,ht⟩:=ex w.heap.size;rw[ht]at q1 o;have HN1:=Lq (mB g c A l dy _ n (H.below k) s);have hT0:cO w n g t 68 A c ([l,iY,a]) #[iv 0,iv 0,.string ⟨#[]⟩,.string ⟨#[]⟩,iv 0,iv 0,iv 0,.slice none 0 0,iv 0,iv 0]:=⟨ai.of_below k g,q1,H.below k⟩;have HT0:=Lq hT0;have HTT:Hid (w.heap.size=t):=Lq ht;clear H k q1 hT0 s;go_enter Tryz.func111,Tryz.ntmps111
 go_wp2_with fail;clear j ht;refine HN1.out.mono ?_;rintro e y ⟨rfl,d,p,c1,b⟩;have T1:=HT0.out.step (by omega) d b
 have u:=Lq T1;have f1:=T1.blk.frozen 1;have x1:=T1.blk.c 1;have l1:=T1.blk.lt;have hT1:=(T1.put (by omega) HTT.out 1 (iv dy))
 obtain⟨q,f⟩:=ex (y.setCell ⟨t,1,none⟩ (iv dy));rw[f]at hT1;have HT1:Hid (cO w q g t 68 p c1 ([iY,a]) #[iv 0,iv dy,.string ⟨#[]⟩,.string ⟨#[]⟩,iv 0,iv 0,iv 0,.slice none 0 0,iv 0,iv 0]):=Lq hT1;clear d b hT1;have HN2:=Lq (kP g c1 p iY _ q HT1.out.wd);clear T1;go_wp2_with fail;clear f1 x1 l1 f;refine HN2.out.mono ?_;rintro e v2 ⟨rfl,d,A2,c2,b⟩;have HT2:=Lq (HT1.out.step (by omega) d b)
 have m:=Lq (kP g c2 A2 a _ v2 b);clear d b;go_wp2_with fail;refine m.out.mono ?_;rintro e v3 ⟨rfl,d,A3,c3,b⟩;have T1:=HT2.out.step (by omega) d b
 have x:=Lq T1;have f0:=T1.blk.frozen 0;have x0:=T1.blk.c 0;have f2:=T1.blk.frozen 2;have x2:=T1.blk.c 2;have l1:=T1.blk.lt;have hT1:=((T1.put (by omega) HTT.out 0 (iv 2)).put (by omega) HTT.out 2 (.string a))
 obtain⟨r,i⟩:=ex ((v3.setCell ⟨t,0,none⟩ (iv 2)).setCell ⟨t,2,none⟩ (.string a));rw[i]at hT1;have HT3:Hid (cO w r g t 68 A3 c3 ([]) #[iv 2,iv dy,.string a,.string ⟨#[]⟩,iv 0,iv 0,iv 0,.slice none 0 0,iv 0,iv 0]):=Lq hT1;clear d b hT1;have d0:=HT3.out.wd.blk.c 0;go_wp2_with fail;refine(nh _).mono ?_;rintro e v ⟨rfl,hv⟩;replace hv:=hv.symm;subst hv;clear f0 x0 f2 x2 l1 i T1;have HTA:=Lq (HT3.out.put10 (by omega) HTT.out (iv 2) (iv dy) (.string a) (.string ⟨#[]⟩) (iv 0) (iv 0) (iv 0) (.slice none 0 0) (iv 0) (iv 0))
 obtain⟨z,B,C,D,E,F,G,I,J,K⟩:=HT3.out.blk.c10;obtain⟨g0,g1,g2,g3,g4,g5,g6,g7,g8,g9⟩:=HT3.out.blk.f10;have l9:=HT3.out.blk.lt;obtain⟨VA,hVA⟩:=ex ((((((((((r.setCell ⟨t,0,none⟩ (iv 2)).setCell ⟨t,1,none⟩ (iv dy)).setCell ⟨t,2,none⟩ (.string a)).setCell ⟨t,3,none⟩ (.string ⟨#[]⟩)).setCell ⟨t,4,none⟩ (iv 0)).setCell ⟨t,5,none⟩ (iv 0)).setCell ⟨t,6,none⟩ (iv 0)).setCell ⟨t,7,none⟩ (.slice none 0 0)).setCell ⟨t,8,none⟩ (iv 0)).setCell ⟨t,9,none⟩ (iv 0));rw[hVA]at HTA;obtain⟨y0,y1,y2,y3,y4,y5,y6,y7,y8,y9⟩:=HTA.out.blk.c10;go_wp2_with fail;exact bodyPost_ret (v:=.agg #[iv 2,iv dy,.string a,.string ⟨#[]⟩,iv 0,iv 0,iv 0,.slice none 0 0,iv 0,iv 0]) (by simp[results,Tryz.results111,go_sem,y0,y1,y2,y3,y4,y5,y6,y7,y8,y9]) rfl ⟨none,0,rfl,HTA.out.only,fun _ _ h=>(by cases h),Nat.zero_le _,fun _ h=>(by cases h),Nat.zero_le _⟩
theorem FD(g c:Nat)(A:Option Addr)(dy:Int)(k:ByteArray)(i h j l m:Int)(a:List ByteArray)(o n p q r s:ByteArray)(b:ByteArray)(y:ByteArray)(w:World)(H:fH w g A c (y::dR::b::o::n::p::q::r::s::a))(I:jR y dy)(J:ni ⟨k,i,h,j,a,l,m⟩ o n p q r s) :
  Cs 111 #[.pointer (some ⟨g,0,none⟩)] w (pW g 3 dy b ⟨k,i,h,j,a,l,m⟩ w):=by
 have K:=Lq J;clear J;obtain⟨W1,hW1,b1⟩:=nA w (.cells #[iv 0,iv 0,.string ⟨#[]⟩,.string ⟨#[]⟩,iv 0,iv 0,iv 0,.slice none 0 0,iv 0,iv 0] 68);have q1:aa W1 w.heap.size 68 #[iv 0,iv 0,.string ⟨#[]⟩,.string ⟨#[]⟩,iv 0,iv 0,iv 0,.slice none 0 0,iv 0,iv 0]:=by rw[←hW1];exact aa.new w 68 _
 have C:=H.blk.lt;obtain⟨t,ht⟩:=ex w.heap.size;rw[ht]at q1 C;have HN1:=Lq (mB g c A y dy _ W1 (H.below b1) I);have hT0:cO w W1 g t 68 A c (y::dR::b::o::n::p::q::r::s::a) #[iv 0,iv 0,.string ⟨#[]⟩,.string ⟨#[]⟩,iv 0,iv 0,iv 0,.slice none 0 0,iv 0,iv 0]:=⟨ai.of_below b1 g,q1,H.below b1⟩;have HT0:=Lq hT0;have HTT:Hid (w.heap.size=t):=Lq ht;clear H b1 q1 hT0 I;go_enter Tryz.func111,Tryz.ntmps111
 go_wp2_with fail;clear hW1 ht;refine HN1.out.mono ?_;rintro e O ⟨rfl,f,D,c1,d⟩;have T1:=HT0.out.step (by omega) f d
 have L:=Lq T1;have f1:=T1.blk.frozen 1;have x1:=T1.blk.c 1;have l1:=T1.blk.lt;have hT1:=(T1.put (by omega) HTT.out 1 (iv dy))
 obtain⟨E,u⟩:=ex (O.setCell ⟨t,1,none⟩ (iv dy));rw[u]at hT1;have HT1:Hid (cO w E g t 68 D c1 (dR::b::o::n::p::q::r::s::a) #[iv 0,iv dy,.string ⟨#[]⟩,.string ⟨#[]⟩,iv 0,iv 0,iv 0,.slice none 0 0,iv 0,iv 0]):=Lq hT1;clear f d hT1;have HN2:=Lq (kP g c1 D dR _ E HT1.out.wd);clear T1;go_wp2_with fail;clear f1 x1 l1 u;refine HN2.out.mono ?_;rintro e v2 ⟨rfl,f,A2,c2,d⟩;have HT2:=Lq (HT1.out.step (by omega) f d)
 have z:=Lq (kP g c2 A2 b _ v2 d);clear f d;go_wp2_with fail;refine z.out.mono ?_;rintro e v3 ⟨rfl,f,A3,c3,d⟩;have T1:=HT2.out.step (by omega) f d
 have M:=Lq T1;have f0:=T1.blk.frozen 0;have x0:=T1.blk.c 0;have f2:=T1.blk.frozen 2;have x2:=T1.blk.c 2;have l1:=T1.blk.lt;have hT1:=((T1.put (by omega) HTT.out 0 (iv 3)).put (by omega) HTT.out 2 (.string b))
 obtain⟨F,x⟩:=ex ((v3.setCell ⟨t,0,none⟩ (iv 3)).setCell ⟨t,2,none⟩ (.string b));rw[x]at hT1;have HT3:Hid (cO w F g t 68 A3 c3 (o::n::p::q::r::s::a) #[iv 3,iv dy,.string b,.string ⟨#[]⟩,iv 0,iv 0,iv 0,.slice none 0 0,iv 0,iv 0]):=Lq hT1;clear f d hT1;have HP4:=Lq (sy g c3 A3 ⟨k,i,h,j,a,l,m⟩ o n p q r s F HT3.out.wd K.out);clear T1;go_wp2_with fail;clear f0 x0 f2 x2 l1 x;refine HP4.out.mono ?_;rintro e v5 ⟨A5,c5,rfl,f,d⟩;have T1:=HT3.out.step (by omega) f d
 have N:=Lq T1;have f3:=T1.blk.frozen 3;have x3:=T1.blk.c 3;have f4:=T1.blk.frozen 4;have x4:=T1.blk.c 4;have f5:=T1.blk.frozen 5;have x5:=T1.blk.c 5;have f6:=T1.blk.frozen 6;have x6:=T1.blk.c 6;have f7:=T1.blk.frozen 7;have x7:=T1.blk.c 7;have f8:=T1.blk.frozen 8;have x8:=T1.blk.c 8;have f9:=T1.blk.frozen 9;have x9:=T1.blk.c 9;have l1:=T1.blk.lt;have hT1:=(((((((T1.put (by omega) HTT.out 3 (.string k)).put (by omega) HTT.out 4 (iv i)).put (by omega) HTT.out 5 (iv h)).put (by omega) HTT.out 6 (iv j)).put (by omega) HTT.out 7 (.slice A5 a.length c5)).put (by omega) HTT.out 8 (iv l)).put (by omega) HTT.out 9 (iv m))
 obtain⟨G,B⟩:=ex (((((((v5.setCell ⟨t,3,none⟩ (.string k)).setCell ⟨t,4,none⟩ (iv i)).setCell ⟨t,5,none⟩ (iv h)).setCell ⟨t,6,none⟩ (iv j)).setCell ⟨t,7,none⟩ (.slice A5 a.length c5)).setCell ⟨t,8,none⟩ (iv l)).setCell ⟨t,9,none⟩ (iv m));rw[B]at hT1;have HT5:Hid (cO w G g t 68 A5 c5 (a) #[iv 3,iv dy,.string b,.string k,iv i,iv h,iv j,.slice A5 a.length c5,iv l,iv m]):=Lq hT1;clear f d hT1;have HTA:=Lq (HT5.out.put10 (by omega) HTT.out (iv 3) (iv dy) (.string b) (.string k) (iv i) (iv h) (iv j) (.slice A5 a.length c5) (iv l) (iv m))
 obtain⟨R,S,T,U,V,W,X,Y,Z,i9⟩:=HT5.out.blk.c10;obtain⟨g0,g1,g2,g3,g4,g5,g6,g7,g8,g9⟩:=HT5.out.blk.f10;have l9:=HT5.out.blk.lt;obtain⟨VA,hVA⟩:=ex ((((((((((G.setCell ⟨t,0,none⟩ (iv 3)).setCell ⟨t,1,none⟩ (iv dy)).setCell ⟨t,2,none⟩ (.string b)).setCell ⟨t,3,none⟩ (.string k)).setCell ⟨t,4,none⟩ (iv i)).setCell ⟨t,5,none⟩ (iv h)).setCell ⟨t,6,none⟩ (iv j)).setCell ⟨t,7,none⟩ (.slice A5 a.length c5)).setCell ⟨t,8,none⟩ (iv l)).setCell ⟨t,9,none⟩ (iv m));rw[hVA]at HTA;obtain⟨y0,y1,y2,y3,y4,y5,y6,y7,y8,y9⟩:=HTA.out.blk.c10;go_wp2_with fail;exact bodyPost_ret (v:=.agg #[iv 3,iv dy,.string b,.string k,iv i,iv h,iv j,.slice A5 a.length c5,iv l,iv m]) (by simp[results,Tryz.results111,go_sem,y0,y1,y2,y3,y4,y5,y6,y7,y8,y9]) rfl ⟨A5,c5,rfl,HTA.out.only,HTA.out.wd.rd,HTA.out.wd.le,HTA.out.wd.here,HTA.out.wd.max⟩
section
variable{csb:Array Value}{Q:Exit→Act→World→Prop}{g8 lo n t2:Nat}{va vc zA zB zK zL zM zN zO zP zQ zR zS zT zU zV zW zX zY zZ za zb zc zd zD ze zf zg zh zi zj zk zl zm zn zE zo zp zq zr zs zt zu zv zw zx zF zy zz zAA zAB zAC zAD zAE zAF zAG zAH zG zAI zAJ zAK zAL zAM zAN zAO zAP zH zJ:Value}{V W:World}
theorem Tryz.info68:(Tryz.prog.info? 68).map (fun i=>(i.zero,i.size,i.bytes))=some (some (.agg #[iv 0,iv 0,.string ⟨#[]⟩,.string ⟨#[]⟩,iv 0,iv 0,iv 0,.slice none 0 0,iv 0,iv 0]),10,112):=by kernel_rfl
structure lJ(V W:World)(g t:Nat)(row:Option Nat):Prop where
 os:W.os=V.os
 tape:W.tape=V.tape
 output:W.output=V.output
 size:V.heap.size≤W.heap.size
 same:∀k,k<V.heap.size→k≠g→k≠t→some k≠row→W.heap[k]?=V.heap[k]?
structure jS(W:World)(bk:Nat)(p:ah)(A:Option Addr)(c:Nat):Prop where
 rd:am .string W (bk+1) A p.on
 le:p.on.length≤c
 here:∀a,A=some a→a.block=bk
 max:c≤maxLen
theorem lJ.made{j m o:World}{g t:Nat}{f:Option Nat}{l:World}(a:ai V j g)(b:BW j l)(c:l.grownBy m f)(d:ai m o t):lJ V o g t f :=
 ⟨d.os.trans (c.os.trans (b.os.trans a.os)),d.tape.trans (c.tape.trans (b.tape.trans a.tape)),d.output.trans (c.output.trans (b.output.trans a.output)),lT a.size (lT b.size (lT c.size d.size)),fun k i p r q =>
  have h:=lz i a.size;have a2:=lz h b.size;have a3:=lz a2 c.size
  (d.block k a3 r).trans ((c.block k a2 q).trans ((b.block k h).trans (a.block k i p)))⟩
theorem jS.same{X:World}{d:Nat}{p:ah}{A:Option Addr}{c:Nat}(h:jS W d p A c)(j:X.heap[d]?=W.heap[d]?):jS X d p A c:=by
 refine⟨fun i x hx=>?_,h.le,h.here,h.max⟩
 obtain⟨b,g,e,f,hc⟩:=h.rd i x hx;have hb:=h.here _ e;simp only at hb;subst hb;exact⟨b,g,e,f,(World.cell?_of_block (w:=W) (a:=⟨b,_,none⟩) j).trans hc⟩
theorem iC{k:Nat}{t s:TypeId}{cs a:Array Value}(h:aa W k t cs)(b:aa W k s a):t=s:=by cases h.symm.trans b;rfl
noncomputable def xL:Array Oper:=aU (aF Tryz.f49 12)
theorem FE{xs:List Value}{p:ah}{L:List Deferred}(X:lo≤V.heap.size)(hn:n≤1000)(T:t2≠g8)(U:0<g8)(s:V.ownsRow lo 50 7 va n xs)(I:va.ownBlock≠some g8)(J:aa V t2 27 #[va,vc])(z:aa V (g8-1) 9 csb)(M:∀W,BW V W→Cs 110 #[.pointer (some ⟨g8,0,none⟩)] W ((xK g8 p) W))(N:∀u38 u39 u40 u41 u42 u43 u44 u45 wx v' i l,(lJ V wx g8 t2 va.ownBlock∧aa wx t2 27 #[v',vc]∧wx.ownsRow lo 50 7 v' (n+1) (xs++[.string p.name,iv p.kind,iv p.first,iv p.last,.slice i p.on.length l,iv p.wlo,iv p.whi])∧jS wx (g8-1) p i l)→Q .normal ⟨(zA::zB::.pointer (some ⟨t2,0,none⟩)::zD::zE::zF::zG::zH::.pointer (some ⟨g8,0,none⟩)::zJ::zK::zL::zM::zN::zO::zP::zQ::zR::zS::zT::zU::zV::zW::zX::zY::zZ::za::zb::zc::zd::ze::zf::zg::zh::zi::zj::zk::zl::u38::u39::u40::u41::u42::u43::u44::u45::zu::zv::zw::zx::zy::zz::zAA::zAB::zAC::zAD::zAE::zAF::zAG::zAH::zAI::zAJ::zAK::zAL::zAM::zAN::zAO::zAP::[]).toArray,L⟩ wx) :
  (aF Tryz.f49 12).wp Tryz.prog Q ⟨(zA::zB::.pointer (some ⟨t2,0,none⟩)::zD::zE::zF::zG::zH::.pointer (some ⟨g8,0,none⟩)::zJ::zK::zL::zM::zN::zO::zP::zQ::zR::zS::zT::zU::zV::zW::zX::zY::zZ::za::zb::zc::zd::ze::zf::zg::zh::zi::zj::zk::zl::zm::zn::zo::zp::zq::zr::zs::zt::zu::zv::zw::zx::zy::zz::zAA::zAB::zAC::zAD::zAE::zAF::zAG::zAH::zAI::zAJ::zAK::zAL::zAM::zAN::zAO::zAP::[]).toArray,L⟩ V:=by
 obtain⟨Z,H,B,C,D⟩:=info_parts Tryz.info50;have HC:=Lq M;have HB0:=Lq (fc (bR V));have HQ:=Lq N;have HO:=Lq s;have HT:=Lq J;have HBK:=Lq z;have HSV:Hid (∀W:World,W.heap[t2]?=V.heap[t2]?→cA W t2 0 va):=Lq fun W hs=>(J.same hs).c 0
 clear M N s J z;have e:aF Tryz.f49 12=Code.region 12 xL true:=by kernel_rfl
 rw[e];refine wp_region_noPanic ?_;refine lZ (S:=(fun W=>cA W t2 0 va)) (late:=(fun k=>k==8)) (by kernel_rfl) ?_
 have b:=HSV.out _ (HB0.out.block t2 HT.out.lt);have hsz:xL.size=9:=by kernel_rfl
 have t:Array.replicate 9 false=#[false,false,false,false,false,false,false,false,false]:=by kernel_rfl
 rw[hsz,t];clear e hsz t;generalize V.drew=V0 at HB0 b ⊢;refine ae 0 (.pointer (some ⟨t2,0,none⟩)) ?_;refine ae 1 (.pointer (some ⟨t2,0,none⟩)) ?_;refine ae 2 (va) ?_;refine aQ 3 fun G hK=>?_
 go_simp;refine(HC.out _ HB0.out).mono ?_;rintro e m ⟨i,l,rfl,O,A⟩;have ho1:ai V m g8:=(ai.of_below HB0.out g8).join O;have hs1:m.heap[t2]?=V.heap[t2]?:=ho1.block t2 HT.out.lt T;have HO1:=Lq (ho1.own HO.out I);have HOV:=Lq ho1;have HL1:Hid (jS m (g8-1) p i l):=Lq (by
  have E:=And.intro A.rd (And.intro A.le (And.intro A.here A.max));refine⟨(show g8-1+1=g8 by omega)▸E.1,E.2.1,fun a ha=>?_,E.2.2.2⟩
  have:=E.2.2.1 a ha;omega)
 have q:=Lq (HBK.out.same (ho1.block _ HBK.out.lt (by omega)))
 have y:=Lq (HT.out.same hs1);refine hK.out _ _ (HSV.out _ hs1) (fun b=>?_)
 clear hK O ho1 A;refine aQ 4 fun G hK=>?_
 go_simp;have o:=Lq (aN HO1.out (bA (bR m) (.cells #[.string p.name,iv p.kind,iv p.first,iv p.last,.slice i p.on.length l,iv p.wlo,iv p.whi] 50)));have hb2:BW m (m.alloc (.cells #[.string p.name,iv p.kind,iv p.first,iv p.last,.slice i p.on.length l,iv p.wlo,iv p.whi] 50)):=bA (bR m) _;have HQ2:=Lq (aa.new m 50 #[.string p.name,iv p.kind,iv p.first,iv p.last,.slice i p.on.length l,iv p.wlo,iv p.whi]);obtain⟨w2,hw2⟩:=ex (m.alloc (.cells #[.string p.name,iv p.kind,iv p.first,iv p.last,.slice i p.on.length l,iv p.wlo,iv p.whi] 50));obtain⟨g1,hg1⟩:=ex m.heap.size;rw[hw2]at o hb2 HQ2;rw[hg1]at HQ2
 (try rw[hw2,hg1])
 have v:=Lq hb2;have HT2:=Lq (y.out.keep hb2);have HBK2:=Lq (q.out.keep hb2);have HL2:=Lq (HL1.out.same (hb2.block _ q.out.lt));have hs2:w2.heap[t2]?=V.heap[t2]?:=(hb2.block _ y.out.lt).trans hs1;have HS2:=Lq hs2;refine hK.out _ _ (HSV.out _ hs2) (fun b=>?_)
 clear hK hw2 hg1 hs1 hs2;refine aQ 5 fun G hK=>?_
 refine kX (by rfl) _ _ 22 (by rfl) lo 50 Z _ 7 80 Tryz.underlying22 H B C D rfl (by decide) va n _ (by rfl) o.out (.slice (some ⟨g1,0,none⟩) 1 1) 1 [.string p.name,iv p.kind,iv p.first,iv p.last,.slice i p.on.length l,iv p.wlo,iv p.whi] (by rfl) (.inr ⟨⟨g1,0,none⟩,1,rfl,rfl,fun j u Y=>(by rw[kW,HQ2.out.cell];simpa using Y),by simp[Value.oneCell']⟩) (by unfold maxLen;omega) (by omega) (by have:=v.out.size;have:=HOV.out.size;omega) ?_
 intro v9 F d g;have hn2:=ax o.out HT2.out (by decide)
 have f:=Lq (HT2.out.grown g hn2);have HS3:Hid (F.heap[t2]?=V.heap[t2]?):=Lq ((g.block t2 HT2.out.lt hn2).trans HS2.out);have hn9:=ax o.out HBK2.out (by decide)
 have r:=Lq (HBK2.out.grown g hn9);have HL3:=Lq (HL2.out.same (g.block _ HBK2.out.lt hn9));have HG3:=Lq g;obtain⟨gv,cv,rfl,_,_,_⟩:=gI d (by omega)
 have x:=Lq d;refine hK.out _ _ (HSV.out _ HS3.out) (fun b=>?_)
 clear hK hn2 hn9 g d;refine ae 6 (.pointer (some ⟨t2,0,none⟩)) ?_;refine ae 7 (.pointer (some ⟨t2,0,none⟩)) ?_;refine bO 8 fun G hK=>?_
 have R:=f.out.c 0;have fg:=f.out.frozen 0;have lg:=f.out.lt;go_simp;refine hK.out _ _ ?_;clear hK R fg lg;refine wpAny_of_held (S:=fun _=>True) _ _ _ _ ?_
 refine wpAnyH_done (by kernel_rfl) ?_ _
 have K:ai F (F.setCell ⟨t2,0,none⟩ (.slice (some ⟨gv,0,none⟩) (n+1) cv)) t2:=ai.of_set (bR F) t2 0 _;have hne3:g8-1≠t2:=fun e=>by have h:=f.out;rw[←e]at h;exact absurd (iC r.out h) (by decide)
 refine NoPanic.normal (HQ.out _ _ _ _ _ _ _ _ _ _ i l ⟨lJ.made HOV.out v.out HG3.out K,f.out.set_ 0 _, ?_,HL3.out.same (K.block _ r.out.lt hne3)⟩);exact K.own x.out (fun e=>ax x.out f.out (by decide) e.symm)
noncomputable def xM:Array Oper:=aU (aF Tryz.f49 13)
theorem sB{xs:List Value}{p:ah}{O:List Deferred}{wh dy:Int}{cn:ByteArray}(ab:lo≤V.heap.size)(hn:n≤1000)(Y:t2≠g8)(Z:0<g8)(s:V.ownsRow lo 68 10 vc n xs)(L:vc.ownBlock≠some g8)(M:aa V t2 27 #[va,vc])(z:aa V (g8-1) 9 csb)(R:∀W,BW V W→Cs 111 #[.pointer (some ⟨g8,0,none⟩)] W ((pW g8 wh dy cn p) W))(T:∀u46 u47 u48 u49 u50 u51 wx v' i l,(lJ V wx g8 t2 vc.ownBlock∧aa wx t2 27 #[va,v']∧wx.ownsRow lo 68 10 v' (n+1) (xs++[iv wh,iv dy,.string cn,.string p.name,iv p.kind,iv p.first,iv p.last,.slice i p.on.length l,iv p.wlo,iv p.whi])∧jS wx (g8-1) p i l)→Q .normal ⟨(zA::zB::.pointer (some ⟨t2,0,none⟩)::zD::zE::zF::zG::zH::.pointer (some ⟨g8,0,none⟩)::zJ::zK::zL::zM::zN::zO::zP::zQ::zR::zS::zT::zU::zV::zW::zX::zY::zZ::za::zb::zc::zd::ze::zf::zg::zh::zi::zj::zk::zl::zm::zn::zo::zp::zq::zr::zs::zt::u46::u47::u48::u49::u50::u51::zAA::zAB::zAC::zAD::zAE::zAF::zAG::zAH::zAI::zAJ::zAK::zAL::zAM::zAN::zAO::zAP::[]).toArray,O⟩ wx) :
  (aF Tryz.f49 13).wp Tryz.prog Q ⟨(zA::zB::.pointer (some ⟨t2,0,none⟩)::zD::zE::zF::zG::zH::.pointer (some ⟨g8,0,none⟩)::zJ::zK::zL::zM::zN::zO::zP::zQ::zR::zS::zT::zU::zV::zW::zX::zY::zZ::za::zb::zc::zd::ze::zf::zg::zh::zi::zj::zk::zl::zm::zn::zo::zp::zq::zr::zs::zt::zu::zv::zw::zx::zy::zz::zAA::zAB::zAC::zAD::zAE::zAF::zAG::zAH::zAI::zAJ::zAK::zAL::zAM::zAN::zAO::zAP::[]).toArray,O⟩ V:=by
 obtain⟨iT,K,E,F,G⟩:=info_parts Tryz.info68;have HC:=Lq R;have HB0:=Lq (fc (bR V));have HQ:=Lq T;have HO:=Lq s;have HT:=Lq M;have HBK:=Lq z;have HSV:Hid (∀W:World,W.heap[t2]?=V.heap[t2]?→cA W t2 1 vc):=Lq fun W hs=>(M.same hs).c 1
 clear R T s M z;have e:aF Tryz.f49 13=Code.region 13 xM true:=by kernel_rfl
 rw[e];refine wp_region_noPanic ?_;refine lZ (S:=(fun W=>cA W t2 1 vc)) (late:=(fun k=>k==6)) (by kernel_rfl) ?_
 have b:=HSV.out _ (HB0.out.block t2 HT.out.lt);have hsz:xM.size=7:=by kernel_rfl
 have t:Array.replicate 7 false=#[false,false,false,false,false,false,false]:=by kernel_rfl
 rw[hsz,t];clear e hsz t;generalize V.drew=V0 at HB0 b ⊢;refine ae 0 (.pointer (some ⟨t2,1,none⟩)) ?_;refine ae 1 (vc) ?_;refine aQ 2 fun J hK=>?_
 go_simp;refine(HC.out _ HB0.out).mono ?_;rintro e m ⟨i,l,rfl,U,D,B,A,C⟩;have ho1:ai V m g8:=(ai.of_below HB0.out g8).join U;have hs1:m.heap[t2]?=V.heap[t2]?:=ho1.block t2 HT.out.lt Y;have HO1:=Lq (ho1.own HO.out L);have HOV:=Lq ho1;have HL1:Hid (jS m (g8-1) p i l):=Lq (by
  have H:=And.intro D (And.intro B (And.intro A C));refine⟨(show g8-1+1=g8 by omega)▸H.1,H.2.1,fun a ha=>?_,H.2.2.2⟩
  have:=H.2.2.1 a ha;omega)
 have q:=Lq (HBK.out.same (ho1.block _ HBK.out.lt (by omega)))
 have y:=Lq (HT.out.same hs1);refine hK.out _ _ (HSV.out _ hs1) (fun b=>?_)
 clear hK U ho1 D B A C;refine aQ 3 fun J hK=>?_
 go_simp;have o:=Lq (aN HO1.out (bA (bR m) (.cells #[iv wh,iv dy,.string cn,.string p.name,iv p.kind,iv p.first,iv p.last,.slice i p.on.length l,iv p.wlo,iv p.whi] 68)));have hb2:BW m (m.alloc (.cells #[iv wh,iv dy,.string cn,.string p.name,iv p.kind,iv p.first,iv p.last,.slice i p.on.length l,iv p.wlo,iv p.whi] 68)):=bA (bR m) _;have HQ2:=Lq (aa.new m 68 #[iv wh,iv dy,.string cn,.string p.name,iv p.kind,iv p.first,iv p.last,.slice i p.on.length l,iv p.wlo,iv p.whi]);obtain⟨w2,hw2⟩:=ex (m.alloc (.cells #[iv wh,iv dy,.string cn,.string p.name,iv p.kind,iv p.first,iv p.last,.slice i p.on.length l,iv p.wlo,iv p.whi] 68));obtain⟨g1,hg1⟩:=ex m.heap.size;rw[hw2]at o hb2 HQ2;rw[hg1]at HQ2
 (try rw[hw2,hg1])
 have v:=Lq hb2;have HT2:=Lq (y.out.keep hb2);have HBK2:=Lq (q.out.keep hb2);have HL2:=Lq (HL1.out.same (hb2.block _ q.out.lt));have hs2:w2.heap[t2]?=V.heap[t2]?:=(hb2.block _ y.out.lt).trans hs1;have HS2:=Lq hs2;refine hK.out _ _ (HSV.out _ hs2) (fun b=>?_)
 clear hK hw2 hg1 hs1 hs2;refine aQ 4 fun J hK=>?_
 refine kX (by rfl) _ _ 25 (by rfl) lo 68 iT _ 10 112 Tryz.underlying25 K E F G rfl (by decide) vc n _ (by rfl) o.out (.slice (some ⟨g1,0,none⟩) 1 1) 1 [iv wh,iv dy,.string cn,.string p.name,iv p.kind,iv p.first,iv p.last,.slice i p.on.length l,iv p.wlo,iv p.whi] (by rfl) (.inr ⟨⟨g1,0,none⟩,1,rfl,rfl,fun j u hu=>(by rw[kW,HQ2.out.cell];simpa using hu),by simp[Value.oneCell']⟩) (by unfold maxLen;omega) (by omega) (by have:=v.out.size;have:=HOV.out.size;omega) ?_
 intro v9 I d g;have hn2:=ax o.out HT2.out (by decide)
 have f:=Lq (HT2.out.grown g hn2);have HS3:Hid (I.heap[t2]?=V.heap[t2]?):=Lq ((g.block t2 HT2.out.lt hn2).trans HS2.out);have hn9:=ax o.out HBK2.out (by decide)
 have r:=Lq (HBK2.out.grown g hn9);have HL3:=Lq (HL2.out.same (g.block _ HBK2.out.lt hn9));have HG3:=Lq g;obtain⟨gv,cv,rfl,_,_,_⟩:=gI d (by omega)
 have x:=Lq d;refine hK.out _ _ (HSV.out _ HS3.out) (fun b=>?_)
 clear hK hn2 hn9 g d;refine ae 5 (.pointer (some ⟨t2,1,none⟩)) ?_;refine bO 6 fun J hK=>?_
 have X:=f.out.c 1;have fg:=f.out.frozen 1;have lg:=f.out.lt;go_simp;refine hK.out _ _ ?_;clear hK X fg lg;refine wpAny_of_held (S:=fun _=>True) _ _ _ _ ?_
 refine wpAnyH_done (by kernel_rfl) ?_ _
 have N:ai I (I.setCell ⟨t2,1,none⟩ (.slice (some ⟨gv,0,none⟩) (n+1) cv)) t2:=ai.of_set (bR I) t2 1 _;have hne3:g8-1≠t2:=fun e=>by have h:=f.out;rw[←e]at h;exact absurd (iC r.out h) (by decide)
 refine NoPanic.normal (HQ.out _ _ _ _ _ _ _ _ i l ⟨lJ.made HOV.out v.out HG3.out N,f.out.set_ 1 _, ?_,HL3.out.same (N.block _ r.out.lt hne3)⟩);exact N.own x.out (fun e=>ax x.out f.out (by decide) e.symm)
end
section
variable{x ys:Array Value}{cs:List ao}{ms:List aj}{c g t2 t3:Nat}{A:Option Addr}{v' va vc:Value}{V W X w0:World}
attribute [local go_sem] Oper.semAt_some
inductive di where
 | part (nm kw w1 w2 w3 w4:ByteArray) (p:ah)
 | add (dw nm kw w1 w2 w3 w4:ByteArray) (dy:Int) (p:ah)
 | take (dw nm:ByteArray) (dy:Int)
 | swap (dw old nm kw w1 w2 w3 w4:ByteArray) (dy:Int) (p:ah)
def di.words:di→List ByteArray
 | .part nm kw w1 w2 w3 w4 p=>jO::nm::kw::w1::w2::w3::w4::p.on
 | .add dw nm kw w1 w2 w3 w4 _ p=>dw::iX::nm::kw::w1::w2::w3::w4::p.on
 | .take dw nm _=>[dw,iY,nm]
 | .swap dw old nm kw w1 w2 w3 w4 _ p=>dw::dR::old::nm::kw::w1::w2::w3::w4::p.on
def sC(dw:ByteArray)(dy:Int):Prop:=jR dw dy∧(dw.toList==[112,97,114,116])=false
def di.ok:di→Prop
 | .part nm kw w1 w2 w3 w4 p=>ni p nm kw w1 w2 w3 w4
 | .add dw nm kw w1 w2 w3 w4 dy p=>sC dw dy∧ni p nm kw w1 w2 w3 w4
 | .take dw _ dy=>sC dw dy
 | .swap dw _ nm kw w1 w2 w3 w4 dy p=>sC dw dy∧ni p nm kw w1 w2 w3 w4
def sD:ah:=⟨⟨#[]⟩,0,0,0,[],0,0⟩
def di.p?:di→List ah
 | .part _ _ _ _ _ _ p=>[p]
 | _=>[]
def di.c?:di→List bQ
 | .part ..=>[]
 | .add _ _ _ _ _ _ _ dy p=>[⟨1,dy,⟨#[]⟩,p⟩]
 | .take _ nm dy=>[⟨2,dy,nm,sD⟩]
 | .swap _ old _ _ _ _ _ _ dy p=>[⟨3,dy,old,p⟩]
def jU(l:List di):List ah:=l.flatMap di.p?
def jV(l:List di):List bQ:=l.flatMap di.c?
structure nj(r r':ByteArray)(ln:di):Prop where
 ok:ln.ok
 sz:r.size≤6000
 less:r'.size<r.size
 some':r.toList.isEmpty=false
 row:∃row:ByteArray,Lib.cut r.data.toList [10]=(row.data.toList,r'.data.toList,true)∧row.size≤6000∧Lib.splitB hZ 0 (Lib.countB row hZ) row=ln.words∧Lib.countB row hZ+1=ln.words.length∧ln.words.length≤1000
structure xN(s:ByteArray)(rest:Nat→ByteArray)(lns:List di):Prop where
 first:rest 0=s
 last:(rest lns.length).toList.isEmpty=true
 len:lns.length≤100
 line:∀k ln,lns[k]?=some ln→nj (rest k) (rest (k+1)) ln
structure no(W:World)(m:aj):Prop where
 bk:∃b cs,aa W b 9 cs∧∀a,m.A=some a→a.block=b
 ok:aR W W.heap.size m
theorem no.same{m:aj}(h:no W m)(q:W.heap.size≤V.heap.size)(p:∀b cs,aa W b 9 cs→V.heap[b]?=W.heap[b]?):no V m:=by
 obtain⟨⟨b,cs,o,n⟩,d⟩:=h;have e:=p b cs o;refine⟨⟨b,cs,o.same e,n⟩,⟨fun i x hx=>?_,d.le,d.cm,d.nm,d.ons,d.sz⟩⟩
 obtain⟨k,j,l,f,hc⟩:=d.on i x hx;have h2:=n _ l;simp only at h2;subst h2;exact⟨k,j,l,lz f q,(World.cell?_of_block (w:=W) (a:=⟨k,_,none⟩) e).trans hc⟩
structure gC(w0 W:World)(t2 t3:Nat)(va vc:Value)(ms:List aj)(cs:List ao):Prop where
 bw:BW w0 W
 plan:aa W t2 27 #[va,vc]
 err:aa W t3 34 #[iv 0]
 rowA:W.ownsRow w0.heap.size 50 7 va ms.length (ms.flatMap aJ)
 rowC:W.ownsRow w0.heap.size 68 10 vc cs.length (cs.flatMap ld)
 got:∀m∈ms,no W m
 gotc:∀c∈cs,no W c.part∧c.name.size≤maxLen
theorem gC.below(h:gC w0 W t2 t3 va vc ms cs)(a:BW W V):gC w0 V t2 t3 va vc ms cs :=
 ⟨bT h.bw a,h.plan.keep a,h.err.keep a,aN h.rowA a,aN h.rowC a,fun m d=>(h.got m d).same a.size fun b _ hB=>a.block b hB.lt,fun c hc=>⟨(h.gotc c hc).1.same a.size fun b _ hB=>a.block b hB.lt,(h.gotc c hc).2⟩⟩
theorem jW{base:Nat}{e:TypeId}{size n:Nat}{v:Value}{xs:List Value}(h:W.ownsRow base e size v n xs)(d:∀k cur,v.ownBlock=some k→aa W k e cur→X.heap[k]?=W.heap[k]?):X.ownsRow base e size v n xs:=by obtain⟨a,b⟩:=h;refine⟨a,b.imp id ?_⟩;rintro⟨g,cap,cur,hv,hb,hh,r⟩;exact⟨g,cap,cur,hv,hb,(d g cur (by rw[hv];rfl) hh).trans hh,r⟩
theorem gC.only(h:gC w0 W t2 t3 va vc ms cs)(f:aa W g 196 x)(i:w0.heap.size≤g)(a:ai W V g):gC w0 V t2 t3 va vc ms cs:=by
 have d:∀{b:Nat} {t:TypeId} {ys:Array Value},aa W b t ys→t≠196→b≠g:=fun hb ht e=>by subst e;exact ht (iC hb f)
 refine⟨a.below h.bw i,h.plan.same (a.block _ h.plan.lt (d h.plan (by decide))),h.err.same (a.block _ h.err.lt (d h.err (by decide))),a.own h.rowA (fun e=>ax h.rowA f (by decide) e.symm),a.own h.rowC (fun e=>ax h.rowC f (by decide) e.symm),fun m hm=>(h.got m hm).same a.size fun b ys hb=>a.block b hb.lt (d hb (by decide)),fun c hc=>⟨(h.gotc c hc).1.same a.size fun b ys hb=>a.block b hb.lt (d hb (by decide)),(h.gotc c hc).2⟩⟩
structure mC(p:ah):Prop where
 nm:p.name.size≤maxLen
 ons:∀o∈p.on,o.size≤maxLen
 on:p.on.length≤1000
theorem xO{a:Nat}{p:ah}(h:jS X a p A c)(d:aa X a 9 ys)(b:mC p):no X ⟨p,A,c⟩ :=
 ⟨⟨a,ys,d,h.here⟩,⟨h.rd.more (by have:=d.lt;omega),h.le,h.max,b.nm,b.ons,by have:=b.on;show p.on.length*16≤_;omega⟩⟩
theorem gC.addP{p:ah}(h:gC w0 V t2 t3 va vc ms cs)(q:aa V g 196 x)(z:w0.heap.size≤g)(v:w0.heap.size≤t2)(d:lJ V X g t2 va.ownBlock)(o:aa X t2 27 #[v',vc])(j:X.ownsRow w0.heap.size 50 7 v' (ms.length+1) (ms.flatMap aJ++[.string p.name,iv p.kind,iv p.first,iv p.last,.slice A p.on.length c,iv p.wlo,iv p.whi]))(s:jS X (g-1) p A c)(f:aa V (g-1) 9 ys)(u:mC p) :
  gC w0 X t2 t3 v' vc (ms++[⟨p,A,c⟩]) cs:=by
 have l:∀{b:Nat} {t:TypeId} {n:Array Value},aa V b t n→t≠196→t≠27→t≠50→X.heap[b]?=V.heap[b]?:=fun{b t n} a h1 h2 h3=>d.same b a.lt (fun e=>by subst e;exact h1 (iC a q)) (fun e=>by subst e;exact h2 (iC a h.plan)) (ax h.rowA a h3)
 refine⟨⟨d.os.trans h.bw.os,d.tape.trans h.bw.tape,d.output.trans h.bw.output,lT h.bw.size d.size,fun k i=>?_⟩,o,h.err.same (l h.err (by decide) (by decide) (by decide)), ?_, ?_,fun m hm=>?_,fun c' hc=>⟨(h.gotc c' hc).1.same d.size fun b n a=>l a (by decide) (by decide) (by decide),(h.gotc c' hc).2⟩⟩
 ·exact(d.same k (lz i h.bw.size) (by omega) (by omega) (fun e=>by have:=(h.rowA.lt k e.symm).1;omega)).trans (h.bw.block k i)
 ·rw[List.length_append,List.flatMap_append]
  simpa[aJ]using j
 ·exact jW h.rowC fun k r y a=>d.same k a.lt (fun e=>by subst e;exact absurd (iC a q) (by decide)) (fun e=>by subst e;exact absurd (iC a h.plan) (by decide)) (fun e=>jI h.rowC h.rowA (by decide) y e.symm)
 ·rcases List.mem_append.1 hm with hm | hm
  ·exact(h.got m hm).same d.size fun b n a=>l a (by decide) (by decide) (by decide)
  ·rw[List.mem_singleton.1 hm];exact xO s (f.same (l f (by decide) (by decide) (by decide))) u
theorem gC.addC{wh dy:Int}{cn:ByteArray}{p:ah}(h:gC w0 V t2 t3 va vc ms cs)(r:aa V g 196 x)(B:w0.heap.size≤g)(y:w0.heap.size≤t2)(d:lJ V X g t2 vc.ownBlock)(q:aa X t2 27 #[va,v'])(j:X.ownsRow w0.heap.size 68 10 v' (cs.length+1) (cs.flatMap ld++[iv wh,iv dy,.string cn,.string p.name,iv p.kind,iv p.first,iv p.last,.slice A p.on.length c,iv p.wlo,iv p.whi]))(u:jS X (g-1) p A c)(f:aa V (g-1) 9 ys)(v:mC p)(o:cn.size≤maxLen) :
  gC w0 X t2 t3 va v' ms (cs++[⟨wh,dy,cn,⟨p,A,c⟩⟩]):=by
 have l:∀{b:Nat} {t:TypeId} {n:Array Value},aa V b t n→t≠196→t≠27→t≠68→X.heap[b]?=V.heap[b]?:=fun{b t n} a h1 h2 h3=>d.same b a.lt (fun e=>by subst e;exact h1 (iC a r)) (fun e=>by subst e;exact h2 (iC a h.plan)) (ax h.rowC a h3)
 refine⟨⟨d.os.trans h.bw.os,d.tape.trans h.bw.tape,d.output.trans h.bw.output,lT h.bw.size d.size,fun k i=>?_⟩,q,h.err.same (l h.err (by decide) (by decide) (by decide)), ?_, ?_,fun m hm=>(h.got m hm).same d.size fun b n a=>l a (by decide) (by decide) (by decide),fun c' hc=>?_⟩
 ·exact(d.same k (lz i h.bw.size) (by omega) (by omega) (fun e=>by have:=(h.rowC.lt k e.symm).1;omega)).trans (h.bw.block k i)
 ·exact jW h.rowA fun k s z a=>d.same k a.lt (fun e=>by subst e;exact absurd (iC a r) (by decide)) (fun e=>by subst e;exact absurd (iC a h.plan) (by decide)) (fun e=>jI h.rowA h.rowC (by decide) z e.symm)
 ·rw[List.length_append,List.flatMap_append]
  simpa[ld]using j
 ·rcases List.mem_append.1 hc with hm | hm
  ·exact⟨(h.gotc c' hm).1.same d.size fun b n a=>l a (by decide) (by decide) (by decide),(h.gotc c' hm).2⟩
  ·rw[List.mem_singleton.1 hm];exact⟨xO u (f.same (l f (by decide) (by decide) (by decide))) v,o⟩
theorem gC.planAt(h:gC w0 W t2 t3 va vc ms cs)(d:∀c∈cs,Lit.wf (.int .i64 c.what)=true):∃A C cap capc,va=.slice A ms.length cap∧vc=.slice C cs.length capc∧fF W A C cap capc ms cs:=by
 obtain⟨A,cap,b,f,n,i,j⟩:=jp cH h.rowA;obtain⟨C,capc,f1,k2,k3,k4,k5⟩:=jp (show ∀c:ao,(ld c).length=10 from fun _=>rfl) h.rowC
 refine⟨A,C,cap,capc,b,f1,⟨⟨⟨f,fun m l=>(h.got m l).ok⟩,i,j,fun hA=>?_,fun a ha=>?_⟩,⟨k2,fun c hc=>⟨(h.gotc c hc).1.ok,(h.gotc c hc).2⟩,k4,k5⟩,d⟩⟩
 ·rcases h.rowA.2 with⟨hv,_⟩ | ⟨g',c',cur,hv,_⟩
  ·rw[b]at hv;injection hv
  ·rw[b,hA]at hv;injection hv with hv
   cases hv
 ·rcases h.rowA.2 with⟨hv,_⟩ | ⟨g',c',cur,hv,_⟩
  ·rw[b,ha]at hv;injection hv with hv
   cases hv
  ·have k:=(h.rowA.lt g' (by rw[hv];rfl)).2
   rw[b,ha]at hv;injection hv with hv
   injection hv with hv
   subst hv;exact⟨rfl,k⟩
theorem FF(t2 t3:Nat)(w:World) :
  CallsD Tryz.prog 105 #[.pointer (some ⟨t2,0,none⟩),.pointer (some ⟨t3,0,none⟩)] .returning w fun e d w'=>e=.returned (.tuple #[])∧d=.returning∧w'=w:=by
 refine callsD_of_wpS Tryz.func105 rfl fun b cs a=>?_
 apply wpS_seq;apply wpS_region;simp[wpOpsS,go_sem,recoverD,a,Tryz.ntmps105,Exit.thenS];apply wpS_seq;apply wpS_region;simp[wpOpsS,go_sem,recoverD,a,Exit.thenS];refine wpS_cond (t:=false) (by simp[Act.eval,Array.replicate]) ?_
 simp only[Bool.false_eq_true,if_false];refine wpS_of_wp (wp_skip ?_);cases b;simp_all [bodyPostS,results,Tryz.results105]
def ja:Value→Nat
 | .string s=>s.size
 | _=>0
def FG(lns:List di)(w:World)(e:Ending)(w':World):Prop:=∃(A C:Option Addr) (cap capc:Nat) (ms:List aj) (cs:List ao),e=.returned (.tuple #[.agg #[.slice A ms.length cap,.slice C cs.length capc],iv 0])∧fF w' A C cap capc ms cs∧ab ms=jU lns∧an cs=jV lns∧BW w w'
theorem FH(s:ByteArray)(rest:Nat→ByteArray)(b:List di)(m:Int)(w:World)(ht:fe w)(hm:w.cell? ⟨0,0,none⟩=some (iv m))(hT:xN s rest b)(hs:s.size≤6000)(ag:bS (jU b) (jV b))(ah:(⟨(lF (jU b) (jV b)).toArray⟩:ByteArray)=s)(H:∀p∈jU b,mC p)(ai:∀c∈jV b,mC c.part∧c.name.size≤maxLen)(hp:∀p∈jU b,lI p∧(aM (jP p)).length≤100000)(hc:∀c∈jV b,1≤c.what∧c.what≤3∧(-9223372036854775808≤c.day∧c.day≤9223372036854775807)∧(c.what≠2→lI c.part)∧(aM (ic c)).length≤100000) :
  Cs 49 #[.string s] w (FG b w):=by
 have aB:∀(fn:Fn) (first cap:Array Value) (w:World),(Instr.makeFunc fn first cap).run Tryz.prog w=.ok (.func fn first cap) w:=fun _ _ _ _=>rfl
 obtain⟨W1,T,b1⟩:=nA w (.cells #[.slice none 0 0,.slice none 0 0] 27);obtain⟨W2,hW2,b2⟩:=nA W1 (.cells #[iv 0] 34);obtain⟨t2,ht2⟩:=ex w.heap.size;obtain⟨t3,ht3⟩:=ex W1.heap.size;have q1:aa W1 t2 27 #[.slice none 0 0,.slice none 0 0]:=by rw[←T,←ht2];exact aa.new w 27 _
 have q2:aa W2 t3 34 #[iv 0]:=by rw[←hW2,←ht3];exact aa.new W1 34 _
 have av:Hid (gC w W2 t2 t3 (.slice none 0 0) (.slice none 0 0) [] []):=Lq ⟨bT b1 b2,q1.keep b2,q2,World.ownsRow_nil _ _ _ _,World.ownsRow_nil _ _ _ _,fun _ h=>(by cases h),fun _ h=>(by cases h)⟩
 have HT:=Lq hT;have HTS:Hid (w.heap.size≤t2∧t2<t3):=Lq (by
  have:W1.heap.size=w.heap.size+1:=by rw[←T];simp
  omega)
 have ae:=Lq ht;have HM:=Lq hm;have HOK:=Lq ag;have HTX:=Lq ah;have HP:=Lq hp;have HC:=Lq hc;have HZ:=Lq H;have HZC:=Lq ai;have hl:¬(6000<s.size):=by omega
 have hf:=hT.first;clear ht hm hT ag ah hp hc H ai b1 b2 q1 q2
 go_enter_defers Tryz.func49,Tryz.ntmps49
 go_wp2_with fail;clear T hW2 ht2 ht3;go_loopw [4] (fun r wr=>∃(k:Nat) (ms:List aj) (cs:List ao) (va vc:Value),k≤b.length∧r=.string (rest k)∧ab ms=jU (b.take k)∧an cs=jV (b.take k)∧ms.length+cs.length≤k∧Hid (gC w wr t2 t3 va vc ms cs)) (fun r _=>ja r)
 case atStart=>exact⟨0,[],[],_,_,Nat.zero_le _,by rw[hf],rfl,rfl,Nat.zero_le _,av⟩
 case round =>
  obtain⟨k,ms,cs,va,vc,hk,rfl,B,y,aA,M⟩:=hrel;by_cases hlt:k<b.length
  ·obtain⟨z,G⟩:=gX (l:=b) (i:=k) hlt;have hL:=HT.out.line k z G;obtain⟨r,hr⟩:=ex (rest k);obtain⟨r',hr'⟩:=ex (rest (k+1));rw[hr,hr']at hL;rw[hr];have hse:=hL.some';obtain⟨row,hcut,hrs,hsp,hcn,hwl⟩:=hL.row;have hmr:wr.cell? ⟨0,0,none⟩=some (iv m):=(World.cell?_of_block (w:=w) (a:=⟨0,0,none⟩) (M.out.bw.block 0 (br HM.out))).trans HM.out;have hcu:=xJ r pO m wr (by have:=hL.sz;omega) hmr
   rw[show pO.data.toList=[10]from rfl,hcut]at hcu
   have e1:(⟨row.data.toList.toArray⟩:ByteArray)=row:=by simp
   have e2:(⟨r'.data.toList.toArray⟩:ByteArray)=r':=by simp
   simp only[e1,e2]at hcu;have au:=Lq hcu;have HSP:Hid (∀W,BW wr W→Cs 108 #[.string row,.string hZ] W fun e w'=>e=.returned (.slice (some ⟨W.heap.size,0,none⟩) z.words.length z.words.length)∧w'=W.alloc (.cells (z.words.map Value.string).toArray 9)):=Lq fun W hb=>by
    have h:=Tryz.strings_Split row hZ m W (by omega) ((World.cell?_of_block (w:=wr) (a:=⟨0,0,none⟩) (hb.block 0 (br hmr))).trans hmr) (by decide)
    rw[hcn,hsp]at h;exact h
   have D:=Lq hL;have HWL:=Lq hwl;clear hL hcut hrs hsp hcn hwl hmr hcu e1 e2;go_wp2_with fail;refine au.out.mono ?_;rintro e w1 ⟨rfl,(HB1:Hid _)⟩;go_wp2_with fail;refine(nh _).mono ?_;rintro e w2 ⟨rfl,hw2⟩;subst hw2;go_wp2_with fail;refine(HSP.out _ HB1.out).mono ?_;rintro e w3 ⟨rfl,hw3⟩;have hb3:BW w2 w3:=by rw[hw3];exact bA (bR w2) _
   have ac:aa w3 w2.heap.size 9 (z.words.map Value.string).toArray:=by rw[hw3];exact aa.new w2 9 _
   have L:w3.heap.size=w2.heap.size+1:=by rw[hw3];simp
   obtain⟨bk,af⟩:=ex w2.heap.size;rw[af]at ac L;obtain⟨n,hn⟩:=ex z.words.length;have HWN:=Lq hn;simp only[hn,af];obtain⟨Wa,W5,hWa,hW5,hb5,hqa,hba,hq5⟩:=gg w3 196 (.slice none 0 0) (.slice (some ⟨bk,0,none⟩) n n);obtain⟨g8,hg8⟩:=ex w3.heap.size;rw[hg8]at hW5 hqa hq5 L;have hq5b:=ac.keep hb5;have HWD:Hid (fH W5 g8 (some ⟨bk,0,none⟩) n z.words):=Lq ⟨by rw[hn];exact hq5,by
    intro i x hx;refine⟨bk,0,rfl,by omega, ?_⟩
    rw[hq5b.cell,Nat.zero_add,List.getElem?_toArray,List.getElem?_map,hx];rfl,by omega,fun a ha=>(by injection ha with ha;subst ha;exact L.symm),by have:=HWL.out;unfold maxLen;omega⟩
   have d:=Lq (M.out.below (bT HB1.out (bT hb3 hb5)));have HQ5:=Lq hq5;have HBK5:Hid (aa W5 (g8-1) 9 (z.words.map Value.string).toArray):=Lq (by rw[show g8-1=bk by omega];exact hq5b)
   have F:w.heap.size≤g8:=by have h1:=M.out.bw.size;have h2:=HB1.out.size;omega
   have K:0<g8:=by omega
   have f0:=hqa.frozen 0;have x0:=hqa.c 0;have l0:=hqa.lt;have d0:=hq5.c 0;have hn0:0<n:=by rw[←hn];cases z<;>simp[di.words]
   have c0:∀u,(z.words[0]?)=some u→W5.cell? ⟨bk,0,none⟩=some (.string u):=fun u hu=>by rw[hq5b.cell,List.getElem?_toArray,List.getElem?_map,hu];rfl
   clear hb3 ac hw3 hn hb5 hqa hba hq5 hq5b L;have J:Hid (jU (b.take (k+1))=ab ms++z.p?):=Lq (by unfold jU at B ⊢;rw[List.take_add_one,G,List.flatMap_append,B];simp)
   have I:Hid (jV (b.take (k+1))=an cs++z.c?):=Lq (by unfold jV at y ⊢;rw[List.take_add_one,G,List.flatMap_append,y];simp)
   have az:∀p∈z.p?,p∈jU b:=fun p hp=>List.mem_flatMap.2 ⟨z,mG ⟨k,G⟩,hp⟩
   have Z:∀c∈z.c?,c∈jV b:=fun c hc=>List.mem_flatMap.2 ⟨z,mG ⟨k,G⟩,hc⟩
   have aw:=HT.out.len;have htg:t2≠g8:=fun e=>by have h:=d.out.plan;rw[e]at h;exact absurd (iC h HQ5.out) (by decide)
   cases z with
   | part nm kw w1' w2' w3' w4' p =>
    have c0:=c0 jO rfl;have HN84:=Lq (kP g8 n (some ⟨bk,0,none⟩) jO (nm::kw::w1'::w2'::w3'::w4'::p.on) W5 HWD.out);go_wp2_with fail;refine HN84.out.mono ?_;rintro e v6 ⟨rfl,ho,A6,c6,hw⟩;have HR6:=Lq (d.out.only HQ5.out F ho);have HBK6:=Lq (HBK5.out.same (ho.block _ HBK5.out.lt (by omega)))
    have R:=Lq hw;clear ho hw hW5 hWa hg8;go_wp2_with fail;refine FE (p:=p) (by have:=HR6.out.bw.size;omega) (by omega) htg K HR6.out.rowA (fun e=>ax HR6.out.rowA R.out.blk (by decide) e.symm) HR6.out.plan HBK6.out (fun W hb=>sy g8 c6 A6 p nm kw w1' w2' w3' w4' W (R.out.below hb) D.out.ok) ?_
    rintro aC aD aE aF aG aH aI aJ wx v' O S ⟨q,v,j,t⟩;have hrx:=HR6.out.addP R.out.blk F HTS.out.1 q v j t HBK6.out (HZ.out p (az p (List.mem_singleton.2 rfl)));have HRX:=Lq hrx;clear hrx q v j t;go_wp2_with fail;go_roundw
    case measure =>
     show ja (.string r')<ja (.string r)
     exact D.out.less
    case rel =>
     refine⟨k+1,ms++[⟨p,O,S⟩],cs,v',vc,by omega,by rw[hr'],by rw[J.out];simp[di.p?],by rw[I.out];simp[di.c?],by simp;omega,HRX⟩
   | add dw nm kw w1' w2' w3' w4' dy p =>
    have c0:=c0 dw rfl;have hdw:=D.out.ok.1.2;go_wp2_with fail;refine sB (p:=p) (wh:=1) (dy:=dy) (cn:=⟨#[]⟩) (by have:=d.out.bw.size;omega) (by omega) htg K d.out.rowC (fun e=>ax d.out.rowC HQ5.out (by decide) e.symm) d.out.plan HBK5.out (fun W hb=>FB g8 n _ dy p.name p.kind p.first p.last p.wlo p.whi p.on nm kw w1' w2' w3' w4' dw W (HWD.out.below hb) D.out.ok.1.1 D.out.ok.2) ?_
    rintro ak al am ap aq ar wx v' O S ⟨q,v,j,t⟩;have H:=HZC.out _ (Z _ (List.mem_singleton.2 rfl));have hrx:=d.out.addC HQ5.out F HTS.out.1 q v j t HBK5.out H.1 H.2;have HRX:=Lq hrx;clear hrx q v j t;go_wp2_with fail;go_roundw
    case measure =>
     show ja (.string r')<ja (.string r)
     exact D.out.less
    case rel =>
     refine⟨k+1,ms,cs++[⟨1,dy,⟨#[]⟩,⟨p,O,S⟩⟩],va,v',by omega,by rw[hr'],by rw[J.out];simp[di.p?],by rw[I.out];simp[di.c?,an,ao.c],by simp;omega,HRX⟩
   | take dw nm dy =>
    have c0:=c0 dw rfl;have hdw:=D.out.ok.2;go_wp2_with fail;refine sB (p:=sD) (wh:=2) (dy:=dy) (cn:=nm) (by have:=d.out.bw.size;omega) (by omega) htg K d.out.rowC (fun e=>ax d.out.rowC HQ5.out (by decide) e.symm) d.out.plan HBK5.out (fun W hb=>FC g8 n _ dy nm dw W (HWD.out.below hb) D.out.ok.1) ?_
    rintro ak al am ap aq ar wx v' O S ⟨q,v,j,t⟩;have H:=HZC.out _ (Z _ (List.mem_singleton.2 rfl));have hrx:=d.out.addC HQ5.out F HTS.out.1 q v j t HBK5.out H.1 H.2;have HRX:=Lq hrx;clear hrx q v j t;go_wp2_with fail;go_roundw
    case measure =>
     show ja (.string r')<ja (.string r)
     exact D.out.less
    case rel =>
     refine⟨k+1,ms,cs++[⟨2,dy,nm,⟨sD,O,S⟩⟩],va,v',by omega,by rw[hr'],by rw[J.out];simp[di.p?],by rw[I.out];simp[di.c?,an,ao.c],by simp;omega,HRX⟩
   | swap dw old nm kw w1' w2' w3' w4' dy p =>
    have c0:=c0 dw rfl;have hdw:=D.out.ok.1.2;go_wp2_with fail;refine sB (p:=p) (wh:=3) (dy:=dy) (cn:=old) (by have:=d.out.bw.size;omega) (by omega) htg K d.out.rowC (fun e=>ax d.out.rowC HQ5.out (by decide) e.symm) d.out.plan HBK5.out (fun W hb=>FD g8 n _ dy p.name p.kind p.first p.last p.wlo p.whi p.on nm kw w1' w2' w3' w4' old dw W (HWD.out.below hb) D.out.ok.1.1 D.out.ok.2) ?_
    rintro ak al am ap aq ar wx v' O S ⟨q,v,j,t⟩;have H:=HZC.out _ (Z _ (List.mem_singleton.2 rfl));have hrx:=d.out.addC HQ5.out F HTS.out.1 q v j t HBK5.out H.1 H.2;have HRX:=Lq hrx;clear hrx q v j t;go_wp2_with fail;go_roundw
    case measure =>
     show ja (.string r')<ja (.string r)
     exact D.out.less
    case rel =>
     refine⟨k+1,ms,cs++[⟨3,dy,old,⟨p,O,S⟩⟩],va,v',by omega,by rw[hr'],by rw[J.out];simp[di.p?],by rw[I.out];simp[di.c?,an,ao.c],by simp;omega,HRX⟩
  ·obtain rfl:k=b.length:=by omega
   rw[List.take_of_length_le (lr _)]at B y;have Y:=HT.out.last;obtain⟨r,hr⟩:=ex (rest b.length);rw[hr]at Y ⊢;have hwf:∀c∈cs,Lit.wf (.int .i64 c.what)=true:=fun c hc=>by
    have h:=HC.out c.c (by rw[←y];exact List.mem_map_of_mem hc)
    have h1:1≤c.what:=h.1;have h2:c.what≤3:=h.2.1;rcases(show c.what=1∨c.what=2∨c.what=3 by omega)with e | e | e<;>rw[e]<;>rfl
   obtain⟨A,C,cap,o,rfl,rfl,E⟩:=M.out.planAt hwf;have HPA:=Lq E;have HMS:=Lq B;have HCS:=Lq y;have aw:=HT.out.len;have HCK:=Lq (rH A C ms cs wr.heap.size cap o wr (lr _) E.sl E.ch E.wf);have HTX2:Hid (∀W,BW wr W→Cs 104 #[.agg #[.slice A ms.length cap,.slice C cs.length o]] W (Rt W (.string s))):=Lq fun W hb=>by
    have h:=xI A C cap o ms cs W (E.below hb) (ae.out.below (bT M.out.bw hb) (lr _)) (fun m hm=>HP.out _ (by rw[←B];exact List.mem_map_of_mem hm)) (fun c hc=>HC.out c.c (by rw[←y];exact List.mem_map_of_mem hc)) (by omega) (by omega)
    rw[B,y,HTX.out]at h;exact h
   have d0:=M.out.plan.c 0;have d1:=M.out.plan.c 1;clear B y hwf E hr;go_wp2_with fail;refine HCK.out.mono ?_;rintro e w2 ⟨p,i,r0,rfl,hr0,hb⟩;rw[HMS.out,HCS.out]at hr0;obtain rfl:=hr0.2 HOK.out;have HB2:=Lq hb;have HR2:=Lq (M.out.below hb);have e0:=HR2.out.plan.c 0;have e1:=HR2.out.plan.c 1;clear hr0 hb d0 d1;go_wp2_with fail;refine(HTX2.out _ HB2.out).mono ?_;rintro e w3 ⟨rfl,hb⟩;have HR3:=Lq (HR2.out.below hb);have HPA3:=Lq (HPA.out.below (bT HB2.out hb));clear hb e0 e1;go_wp2_with fail;refine(nh _).mono ?_;rintro e w4 ⟨rfl,hw4⟩;subst hw4;have htt:t2≠t3:=by have:=HTS.out;omega
   have N:=HR3.out.plan;have qe:=HR3.out.err;obtain⟨W6,hW6⟩:=ex (((w4.setCell ⟨t2,0,none⟩ (.slice A ms.length cap)).setCell ⟨t2,1,none⟩ (.slice C cs.length o)).setCell ⟨t3,0,none⟩ (iv 0));have qp6:aa W6 t2 27 #[.slice A ms.length cap,.slice C cs.length o]:=by rw[←hW6];exact((N.set_ 0 _).set_ 1 _).far htt _
   have ad:aa W6 t3 34 #[iv 0]:=by rw[←hW6];exact((qe.far (Ne.symm htt) _).far (Ne.symm htt) _).set_ 0 _
   have U:BW w4 W6:=by
    refine⟨by rw[←hW6];rfl,by rw[←hW6];rfl,by rw[←hW6];rfl,by rw[←hW6];simp,fun k hk=>?_⟩
    by_cases h2:k=t2
    ·rw[h2];exact qp6.trans N.symm
    ·by_cases h3:k=t3
     ·rw[h3];exact ad.trans qe.symm
     ·rw[←hW6,Below.heap_setCell _ _ _ _ h3,Below.heap_setCell _ _ _ _ h2,Below.heap_setCell _ _ _ _ h2]
   have d0:=N.c 0;have d1:=N.c 1;have f0:=N.frozen 0;have f1:=N.frozen 1;have l0:=N.lt;have x0:=qe.c 0;have g0:=qe.frozen 0;have l1:=qe.lt;have y0:=qp6.c 0;have y1:=qp6.c 1;have y2:=ad.c 0;have HPA6:=Lq (HPA3.out.below U);have HB6:=Lq (bT HR3.out.bw U);clear N qe qp6 ad U;go_wp2_with fail;refine leaves_cons (f:=105) (args:=#[.pointer (some ⟨t2,0,none⟩),.pointer (some ⟨t3,0,none⟩)]) (by simp) (by simp[go_sem]) ?_
   refine(FF t2 t3 _).mono ?_;rintro e u' aK ⟨rfl,rfl,rfl⟩;simp only[Leaves,settle];exact⟨.tuple #[.agg #[.slice A ms.length cap,.slice C cs.length o],iv 0],by simp[results,Tryz.results49,go_sem,y0,y1,y2],A,C,cap,o,ms,cs,rfl,HPA6.out,HMS.out,HCS.out,HB6.out⟩
end
section
variable{t t2 t3:Nat}{v va vf vk vl vp:Value}{V W w0:World}
attribute [local go_sem] Oper.semAt_some
theorem mD(w:World):Cs 122 #[.bool true] w fun e w'=>e=.returned (.tuple #[])∧w'=w:=by
 go_enter Tryz.func122,Tryz.ntmps122
 go_wp2_with fail;exact⟨rfl,.tuple #[],by simp[results,Tryz.results122,go_sem],rfl,rfl⟩
def oC(x:ByteArray)(n:Int)(mn:Bool):Prop:=mn=true∧x=iB∧n = -1∨jR x n∧0≤n∧(mn=true→(x.toList==[45])=false)
theorem pX(x:ByteArray)(n:Int)(c:Bool)(w:World)(hx:oC x n c):Cs 186 #[.string x,.bool c] w (Rt w (iv n)):=by
 rcases hx with⟨rfl,rfl,rfl⟩ | ⟨hw,h0,a⟩
 ·go_enter Tryz.func186,Tryz.ntmps186
  go_wp2_with fail;go_ret
  exact⟨rfl,bR w⟩
 ·have d:=Lq (Tryz.strconv_Atoi x n hw.sz hw.at' w);have q199:∀w:World,(binOp .eql 235 .nilIface .nilIface).run Tryz.prog w=.ok (.bool true) w:=fun w=>by simp[go_sem]
  clear hw;cases c;all_goals
   (try have a:=a rfl)
   go_enter Tryz.func186,Tryz.ntmps186
   go_wp2_with fail;refine d.out.mono ?_;rintro e f ⟨rfl,t,b⟩;have HB:Hid (BW w f):=Lq (by rw[b];exact Go.Joins.below_bytesWorld _ _ _ _ (lr _))
   clear b;go_wp2_with fail;refine(mD _).mono ?_;rintro e g ⟨rfl,rfl⟩;go_wp2_with fail;go_ret
   exact⟨rfl,HB.out⟩
def ii(W:World)(v:Value)(l:List ByteArray):Prop:=(v=.slice none 0 0∧l=[])∨∃(b o c:Nat) (cs:Array Value),v=.slice (some ⟨b,o,none⟩) l.length c∧aa W b 9 cs∧(∀(j:Nat) x,l[j]?=some x→cs[o+j]?=some (.string x))∧l.length≤c∧c≤maxLen
theorem ii.same{l:List ByteArray}(h:ii W v l)(a:∀b cs,aa W b 9 cs→V.heap[b]?=W.heap[b]?):ii V v l:=by
 rcases h with h | ⟨b,o,c,cs,hv,hb,hc,hl,hm⟩
 ·exact .inl h
 ·exact .inr ⟨b,o,c,cs,hv,hb.same (a b cs hb),hc,hl,hm⟩
def nr(l:List ByteArray)(x:ByteArray)(r:Int)(mn:Bool):Prop:=0<l.length∧Lib.idxOfS l x=r∧(0≤r∨mn=true∧x=iB∧r = -1)
theorem oD(l:List ByteArray)(x:ByteArray)(a:Bool)(r:Int)(v:Value)(w:World)(h:ii w v l)(hx:nr l x r a) :
  Cs 185 #[v,.string x,.bool a] w fun e w'=>e=.returned (iv r)∧w'=w:=by
 obtain⟨d,f,g⟩:=hx;rcases h with⟨-,rfl⟩ | ⟨b,o,c,cs,rfl,hb,hc,hl,hm⟩
 ·simp at d
 have H:=Lq (Tryz.slices_Index_string b o l.length c l x w (lr _) (by unfold maxLen at hm;omega) (fun j hj=>by rw[hb.cell];exact hc j _ (by rw[List.getD_eq_getElem?_getD,gE hj];rfl)))
 rw[List.take_of_length_le (lr _),f]at H;clear hb hc hl hm f d;rcases g with h1 | ⟨rfl,rfl,rfl⟩
 ·cases a;all_goals
   go_enter Tryz.func185,Tryz.ntmps185
   go_wp2_with fail;refine H.out.mono ?_;rintro e i ⟨rfl,rfl⟩;go_wp2_with fail;refine(mD _).mono ?_;rintro e w4 ⟨rfl,rfl⟩;go_wp2_with fail;go_ret
   exact⟨rfl,rfl⟩
 ·go_enter Tryz.func185,Tryz.ntmps185
  go_wp2_with fail;refine H.out.mono ?_;rintro e i ⟨rfl,rfl⟩;go_wp2_with fail;refine(mD _).mono ?_;rintro e w4 ⟨rfl,rfl⟩;go_wp2_with fail;go_ret
  exact⟨rfl,rfl⟩
structure RS(w0 W:World)(t2 t3 t:Nat)(y:ar)(vk vp vf va vl:Value):Prop where
 bw:BW w0 W
 lo:w0.heap.size≤t2∧w0.heap.size≤t3∧w0.heap.size≤t
 res:aa W t2 46 #[.slice none 0 0,.slice none 0 0,.slice none 0 0,.slice none 0 0,.slice none 0 0]
 err:aa W t3 34 #[iv 0]
 yd:aa W t 74 #[vk,vp,vf,va,vl]
 kn:ii W vk y.kinds
 pl:ii W vp y.places
 rf:W.ownsRow w0.heap.size 42 4 vf y.first.length (y.first.flatMap dq)
 ra:W.ownsRow w0.heap.size 53 5 va y.papers.length (y.papers.flatMap iS)
 rl:W.ownsRow w0.heap.size 42 4 vl y.last.length (y.last.flatMap dq)
 zf:y.first=[]→vf=.slice none 0 0
 zl:y.last=[]→vl=.slice none 0 0
theorem RS.below{y:ar}(h:RS w0 W t2 t3 t y vk vp vf va vl)(a:BW W V):RS w0 V t2 t3 t y vk vp vf va vl :=
 ⟨bT h.bw a,h.lo,h.res.keep a,h.err.keep a,h.yd.keep a,h.kn.same fun b _ c=>a.block b c.lt,h.pl.same fun b _ c=>a.block b c.lt,aN h.rf a,aN h.ra a,aN h.rl a,h.zf,h.zl⟩
theorem RS.put{a:ar}{n o g m j:Value}{i:Nat}(l:BW w0 W)(q:w0.heap.size≤t2∧w0.heap.size≤t3∧w0.heap.size≤t)(f:aa W t2 46 #[.slice none 0 0,.slice none 0 0,.slice none 0 0,.slice none 0 0,.slice none 0 0])(d:aa W t3 34 #[iv 0])(r:aa W t 74 #[vk,vp,vf,va,vl])(s:#[vk,vp,vf,va,vl].setIfInBounds i v=#[n,o,g,m,j])(u:ii W n a.kinds)(x:ii W o a.places)(z:W.ownsRow w0.heap.size 42 4 g a.first.length (a.first.flatMap dq))(y:W.ownsRow w0.heap.size 53 5 m a.papers.length (a.papers.flatMap iS))(A:W.ownsRow w0.heap.size 42 4 j a.last.length (a.last.flatMap dq))(B:a.first=[]→g=.slice none 0 0)(C:a.last=[]→j=.slice none 0 0) :
  RS w0 (W.setCell ⟨t,i,none⟩ v) t2 t3 t a n o g m j:=by
 have c:∀{b:Nat} {t':TypeId} {zs:Array Value},aa W b t' zs→t'≠74→b≠t:=fun l h1 e=>by subst e;exact h1 (iC l r)
 have sm:∀{b:Nat},b≠t→(W.setCell ⟨t,i,none⟩ v).heap[b]?=W.heap[b]?:=fun h=>Below.heap_setCell _ _ _ _ h
 exact⟨aH l q.2.2 (p:=⟨t,i,none⟩) _,q,f.same (sm (c f (by decide))),d.same (sm (c d (by decide))),by have h:=r.set_ i v;rwa [s]at h,u.same fun b _ hB=>sm (c hB (by decide)),x.same fun b _ hB=>sm (c hB (by decide)),jW z fun k cur _ hB=>sm (c hB (by decide)),jW y fun k cur _ hB=>sm (c hB (by decide)),jW A fun k cur _ hB=>sm (c hB (by decide)),B,C⟩
end
end Go.Proofs.YtbillnhcmkpohaaGreatDoor
namespace Go.Proofs.YtbillnhcmkpohaaGreatDoor
open Go.RowKit
structure xP(y:ar)(i:Nat)(p:cT):Prop where
 kind:0≤p.kind∧p.kind<y.kinds.length
 fr:-1≤p.fr∧p.fr<y.places.length
 en:-1≤p.en∧p.en<y.places.length
 ne:p.fr≠p.en
 kilos:0≤p.kilos∧p.kilos≤1000000
 copy:p.copy = -1∨∃(c:Nat) (q:cT),p.copy=c∧c≠i∧y.papers[c]?=some q∧q.kind=p.kind∧q.fr=p.fr∧q.en=p.en∧q.copy=i
theorem FI(y:ar)(A:aI)(B i:Nat)(p:cT)(w:World)(H:aO w B y A)(C:B≤w.heap.size)(Z:y.kinds.length≤4)(R:y.places.length≤4)(O:y.papers.length≤10)(N:xP y i p) :
  Cs 132 #[.agg (ak y A),iv i,.agg #[iv p.kind,iv p.fr,iv p.en,iv p.kilos,iv p.copy]] w (Rt w (iv 0)):=by
 obtain⟨o,l,k⟩:=nA w (.cells (ak y A) 74);obtain⟨g3,hg3⟩:=ex w.heap.size;obtain⟨W2,hW2,b2⟩:=nA o (.cells #[iv p.kind,iv p.fr,iv p.en,iv p.kilos,iv p.copy] 53);obtain⟨g5,hg5⟩:=ex o.heap.size;have q3:aa W2 g3 74 (ak y A):=by rw[←hW2];exact(by rw[←l,←hg3];exact aa.new w 74 _:aa o g3 74 (ak y A)).alloc _
 have s:aa W2 g5 53 #[iv p.kind,iv p.fr,iv p.en,iv p.kilos,iv p.copy]:=by rw[←hW2,←hg5];exact aa.new o 53 _
 have F:=Lq (bT k b2);have HG5:Hid (w.heap.size≤g5):=Lq (by rw[←hg5];exact k.size)
 have a:=Lq q3;have HQ5:=Lq s;have HY:=Lq (H.below (bT k b2) C);have HZB:=Lq (lT C (bT k b2).size);obtain⟨⟨k1,k2⟩,⟨f1,f2⟩,⟨e1,e2⟩,hne,⟨c1,c2⟩,hcopy⟩:=N;have HO:Hid (∀(lo hi x:Int) (g:Nat) (W:World),lo≤x→x≤hi→cA W g 0 (iv x)→g<W.heap.size→Cs 26 #[iv lo,iv hi,.slice (some ⟨g,0,none⟩) 1 1] W (Rt W (.bool false))):=Lq fun lo hi x g W h3 h4 h1 h2=>by have h:=lB lo hi x g W h1 h2;rw[cX h3 h4]at h;exact h
 have I:Hid (∀(lo hi x z:Int) (g:Nat) (W:World),lo≤x→x≤hi→lo≤z→z≤hi→cA W g 0 (iv x)→cA W g 1 (iv z)→g<W.heap.size→Cs 26 #[iv lo,iv hi,.slice (some ⟨g,0,none⟩) 2 2] W (Rt W (.bool false))):=Lq fun lo hi x z g W h3 h4 h5 r h1 h1' h2=>by have h:=uX lo hi x z g W h1 h1' h2;rw[cX h3 h4,cX h5 r]at h;exact h
 have S:IntKind.i64.wrap ((y.kinds.length:Int)-1)=(y.kinds.length:Int)-1:=by rw[IntKind.wrap_i64];omega
 have T:IntKind.i64.wrap ((y.places.length:Int)-1)=(y.places.length:Int)-1:=by rw[IntKind.wrap_i64];omega
 have U:IntKind.i64.wrap ((y.papers.length:Int)-1)=(y.papers.length:Int)-1:=by rw[IntKind.wrap_i64];omega
 have M:(p.fr==p.en)=false:=by simpa using hne
 have j:=Lq (And.intro k1 k2);have HFB:=Lq (And.intro f1 f2);have HEB:=Lq (And.intro e1 e2);have HCB:=Lq (And.intro c1 c2);have HCY:=Lq hcopy;obtain⟨x0,x1,x2,x3,x4⟩:=q3.c5;obtain⟨y0,y1,y2,y3,y4⟩:=s.c5;obtain⟨l3,l5⟩:_∧_:=⟨q3.lt,s.lt⟩;clear H C k1 k2 f1 f2 e1 e2 c1 c2 hne hcopy k b2 q3 s;go_enter Tryz.func132,Tryz.ntmps132
 go_wp2_with fail;refine(HO.out _ _ p.kind _ _ j.out.1 (by have:=j.out.2;omega) ((aa.new W2 3 #[iv p.kind]).c 0) (aa.new W2 3 #[iv p.kind]).lt).mono ?_
 rintro e t ⟨rfl,b⟩;have HB3:=Lq (bT (bA (bR W2) _) b);clear x0 x1 x2 x3 x4 y0 y1 y2 y3 y4 l3 l5 b l hW2 hg3 hg5;obtain⟨x1,x3⟩:_∧_:=⟨(a.out.keep HB3.out).c 1,(a.out.keep HB3.out).c 3⟩;obtain⟨y1,y2⟩:_∧_:=⟨(HQ5.out.keep HB3.out).c 1,(HQ5.out.keep HB3.out).c 2⟩;go_wp2_with fail;refine(I.out _ _ p.fr p.en _ _ HFB.out.1 (by have:=HFB.out.2;omega) HEB.out.1 (by have:=HEB.out.2;omega) ((aa.new t 3 #[iv p.fr,iv p.en]).c 0) ((aa.new t 3 #[iv p.fr,iv p.en]).c 1) (aa.new t 3 #[iv p.fr,iv p.en]).lt).mono ?_
 rintro e E ⟨rfl,b⟩;have HB4:=Lq (bT HB3.out (bT (bA (bR t) _) b));clear x1 x3 y1 y2 b;obtain⟨y0,y1,y2,y3,y4⟩:_∧_∧_∧_∧_:=⟨(HQ5.out.keep HB4.out).c 0,(HQ5.out.keep HB4.out).c 1,(HQ5.out.keep HB4.out).c 2,(HQ5.out.keep HB4.out).c 3,(HQ5.out.keep HB4.out).c 4⟩;go_wp2_with fail;refine(HO.out _ _ p.kilos _ _ HCB.out.1 HCB.out.2 ((aa.new E 3 #[iv p.kilos]).c 0) (aa.new E 3 #[iv p.kilos]).lt).mono ?_;rintro e w5 ⟨rfl,b⟩;have HB5:=Lq (bT HB4.out (bT (bA (bR E) _) b));clear y0 y1 y2 y3 y4 b;obtain⟨x1,x3⟩:_∧_:=⟨(a.out.keep HB5.out).c 1,(a.out.keep HB5.out).c 3⟩;obtain⟨y0,y1,y2,y3,y4⟩:_∧_∧_∧_∧_:=⟨(HQ5.out.keep HB5.out).c 0,(HQ5.out.keep HB5.out).c 1,(HQ5.out.keep HB5.out).c 2,(HQ5.out.keep HB5.out).c 3,(HQ5.out.keep HB5.out).c 4⟩;rcases HCY.out with hc | ⟨c,q,hc,hci,hq,hq1,hq2,hq3,hq4⟩
 ·have m:(p.copy == -1)=true:=by simp[hc]
  clear hc;go_wp2_with fail;go_ret
  exact⟨rfl,bT F.out HB5.out⟩
 have m:(p.copy == -1)=false:=by simp[hc]
 have L:c<y.papers.length:=(lG hq);have HQF:=Lq (And.intro hq1 (And.intro hq2 (And.intro hq3 hq4)));have HQQ:=Lq hq;have hcib:((c:Int)==(i:Int))=false:=by simp;omega
 have D:=nn c;have hcz:(c:Int)<(y.papers.length:Int):=by omega
 have u:=Lq (And.intro (HQ5.out.frozen 0) trivial);rw[hc]at y4 m;have HCE:=Lq hc;clear hq hq1 hq2 hq3 hq4 hc hci u;go_wp2_with fail;refine(HO.out _ _ c _ _ D (by omega) ((aa.new w5 3 #[iv c]).c 0) (aa.new w5 3 #[iv c]).lt).mono ?_
 rintro e G ⟨rfl,b⟩;have HB6:=Lq (bT HB5.out (bT (bA (bR w5) _) b));clear x1 x3 y0 y1 y2 y3 y4 b;obtain⟨x1,x3⟩:_∧_:=⟨(a.out.keep HB6.out).c 1,(a.out.keep HB6.out).c 3⟩;have q6:=HQ5.out.keep HB6.out;rw[HCE.out]at q6;obtain⟨y0,y1,y2,y3,y4⟩:=q6.c5;obtain⟨ba,oa,hA, -,d0,d1,d2,d3,d4⟩:=(HY.out.below HB6.out HZB.out).paper HQQ.out;rw[hA]at x3;obtain⟨r1,r2,r3,r4⟩:=HQF.out;rw[r1]at d0;rw[r2]at d1;rw[r3]at d2;rw[r4]at d4;obtain⟨Wa,Wb,hWa,hWb,hbb,qa,hba,qb⟩:=fh G 53 (iv 0) (iv 0) (iv 0) (iv 0) (iv 0) (iv p.kind) (iv p.fr) (iv p.en) (iv q.kilos) (iv i);obtain⟨g7,hg7⟩:=ex G.heap.size;rw[hg7]at hWb qa qb;obtain⟨f0,f1,f2,f3,f4⟩:=qa.f5;obtain⟨e0,e1,e2,e3,e4⟩:=qa.c5;have el:=qa.lt;have q6b:=q6.keep hbb;have z3:=q6b.c 3;have hgne:g5≠g7:=by rw[←hg7];have:=q6.lt;omega
 obtain⟨v,f⟩:=ex (Wb.setCell ⟨g7,3,none⟩ (iv p.kilos));have qc:aa v g7 53 #[iv p.kind,iv p.fr,iv p.en,iv p.kilos,iv i]:=by rw[←f];have h:=qb.set_ 3 (iv p.kilos);simpa using h
 have d:aa v g5 53 #[iv p.kind,iv p.fr,iv p.en,iv p.kilos,iv c]:=by rw[←f];exact q6b.far hgne _
 obtain⟨V,J,bl⟩:_∧_∧_:=⟨qb.c 3,qb.frozen 3,qb.lt⟩;obtain⟨Wd,hWd⟩:=ex (v.setCell ⟨g5,4,none⟩ (iv i));have qd:aa Wd g7 53 #[iv p.kind,iv p.fr,iv p.en,iv p.kilos,iv i]:=by rw[←hWd];exact qc.far (fun e=>hgne e.symm) _
 have n:aa Wd g5 53 #[iv p.kind,iv p.fr,iv p.en,iv p.kilos,iv i]:=by rw[←hWd];have h:=d.set_ 4 (iv i);simpa using h
 obtain⟨X,K,Y⟩:_∧_∧_:=⟨d.c 4,d.frozen 4,d.lt⟩;obtain⟨s0,s1,s2,s3,s4⟩:=qd.c5;obtain⟨t0,t1,t2,t3,t4⟩:=n.c5;have HBD:Hid (BW w Wd):=by
  rw[←hWd,←f];have r:=bT F.out HB6.out;refine Lq (aH (aH (bT r hbb) (p:=⟨g7,3,none⟩) ?_ _) (p:=⟨g5,4,none⟩) HG5.out _);show w.heap.size≤g7
  rw[←hg7];exact r.size
 clear q6 qa hba qb hbb q6b qc d qd n hA hgne r1 r2 r3 r4;go_wp2_with fail;go_ret
 exact⟨rfl,HBD.out⟩
end Go.Proofs.YtbillnhcmkpohaaGreatDoor
