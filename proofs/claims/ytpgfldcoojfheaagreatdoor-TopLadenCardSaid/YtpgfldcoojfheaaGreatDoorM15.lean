/- drawn: what a ship draws (printed by mkHF2.py). -/
import Derived.Test.YtpgfldcoojfheaaGreatDoorM0
import Derived.Test.YtpgfldcoojfheaaGreatDoorM11
import Derived.Test.YtpgfldcoojfheaaGreatDoorM14
set_option maxRecDepth 1000000
set_option maxHeartbeats 16000000
namespace Go.Proofs.YtpgfldcoojfheaaGreatDoor
open Go.RowKit
noncomputable def ops12_1 : Array Oper:=opsOf (regionOf Tryz.f12 1)
theorem reg12_1 {Q : Exit → Act → World → Prop} {V : World} {g2 g4 : Nat} {tons lo hi q m s1 s2 q2 m2 : Int} {z0 z3 z5 z6 z7 z8 z9 z10 z11 z12 z13 z14 z15 z16 z17 z18 : Value} (ha : ¬ tons = 0) (hq : IntKind.i64.wrap (lo.tdiv tons) = q) (hm : min 1500 q = m) (hs1 : IntKind.i64.wrap (hi + tons) = s1) (hs2 : IntKind.i64.wrap (s1 - 1) = s2) (hq2 : IntKind.i64.wrap (s2.tdiv tons) = q2) (hm2 : min 1500 q2 = m2) (h4 : Blk V g4 29 #[iv 0,iv 0])
  (hS : ∀ W,BW V W → W.cell? ⟨g2,0,none⟩ = some (iv lo) ∧ W.cell? ⟨g2,1,none⟩ = some (iv hi))
  (hQ : ∀ u5 u6 u7 u8 u9 u10 u11 u12 u13 u14 u15 u16 u17 u18 W',BW V W' → Q .normal ⟨#[z0,iv tons,.pointer (some ⟨g2,0,none⟩),z3,.pointer (some ⟨g4,0,none⟩),u5,u6,u7,u8,u9,u10,u11,u12,u13,u14,u15,u16,u17,u18],[]⟩ ((W'.setCell ⟨g4,0,none⟩ (iv m)).setCell ⟨g4,1,none⟩ (iv m2))) :
  (regionOf Tryz.f12 1).wp Tryz.prog Q ⟨#[z0,iv tons,.pointer (some ⟨g2,0,none⟩),z3,.pointer (some ⟨g4,0,none⟩),z5,z6,z7,z8,z9,z10,z11,z12,z13,z14,z15,z16,z17,z18],[]⟩ V:=by
 have HS:=Lq hS;have HB0:=Lq (belowDq (belowR V));have HQ:=Lq hQ;have HG:=Lq h4;clear hS hQ h4;have e : regionOf Tryz.f12 1 = Code.region 1 ops12_1 true:=by kernel_rfl
 rw [e];refine wp_region_noPanic ?_;refine wp_region_late (S:=(fun W=>W.cell? ⟨g2,0,none⟩ = some (iv lo) ∧ W.cell? ⟨g2,1,none⟩ = some (iv hi))) (late:=(fun k=>k == 14)) (by rfl) ?_
 have hHeld:=HS.out _ HB0.out;have hsz : ops12_1.size = 15:=by kernel_rfl
 have hrep : Array.replicate 15 false = #[false,false,false,false,false,false,false,false,false,false,false,false,false,false,false]:=by kernel_rfl
 rw [hsz,hrep];clear e hsz hrep;generalize V.drew = V0 at HB0 hHeld ⊢;refine tkL 0 (.pointer (some ⟨g2,0,none⟩)) ?_;refine tkL 1 (iv lo) ?_;refine tkL 2 (iv tons) ?_;refine tkL 3 (iv q) ?_;refine tkL 4 (iv m) ?_;refine tkL 5 (.pointer (some ⟨g2,1,none⟩)) ?_;refine tkL 6 (iv hi) ?_;refine tkL 7 (iv tons) ?_;refine tkL 8 (iv s1) ?_;refine tkL 9 (iv s2) ?_;refine tkL 10 (iv tons) ?_;refine tkL 11 (iv q2) ?_;refine tkL 12 (iv m2) ?_;refine tkL 13 (.agg #[iv m,iv m2]) ?_;refine rdT 14 fun K' hK=>?_
 have bg:=HG.out.keep HB0.out;have c0:=bg.c 0;have c1:=bg.c 1;have f0:=bg.frozen 0;have f1:=bg.frozen 1;have lg:=bg.lt;clear bg;go_simp;refine hK.out _ _ ?_;clear c0 c1 f0 f1 lg;clear hK;refine wpAny_of_held (S:=fun _=>True) _ _ _ _ ?_
 refine wpAnyH_done (by kernel_rfl) ?_ _
 exact NoPanic.normal (HQ.out _ _ _ _ _ _ _ _ _ _ _ _ _ _ _ HB0.out)
theorem i64_small {x : Int} (h0 : -100000000 ≤ x) (h1 : x ≤ 100000000) : IntKind.i64.wrap x = x:=by rw [IntKind.wrap_i64]; omega
theorem drawn12_any (lo hi tons : Int) (w : World) (h0 : 0 ≤ lo) (h1 : lo ≤ hi) (h2 : hi ≤ 12000000) (ht : 1 ≤ tons ∧ tons ≤ 70000) :
  Calls Tryz.prog 12 #[.agg #[iv lo,iv hi],iv tons] w (Rt w (.agg #[iv (drawnS lo hi tons).dlo,iv (drawnS lo hi tons).dhi])):=by
 obtain ⟨W1,hW1⟩:=ex (w.alloc (.cells #[iv lo,iv hi] 29));obtain ⟨V,hV⟩:=ex (W1.alloc (.cells #[iv 0,iv 0] 29));have b1 : BW w W1:=by rw [← hW1]; exact belowA (belowR w) _
 have b2 : BW W1 V:=by rw [← hV]; exact belowA (belowR _) _
 have q1 : Blk W1 w.heap.size 29 #[iv lo,iv hi]:=by rw [← hW1]; exact Blk.new w 29 _
 have q4 : Blk V W1.heap.size 29 #[iv 0,iv 0]:=by rw [← hV]; exact Blk.new W1 29 _
 have hz : W1.heap.size = w.heap.size + 1:=by rw [← hW1]; simp
 obtain ⟨g2,hg2⟩:=ex w.heap.size;obtain ⟨g4,hg4⟩:=ex W1.heap.size;rw [hg2] at q1;rw [hg4] at q4;have hwg : w.heap.size ≤ g4:=by omega
 have q12:=q1.keep b2;have HS : Hid (∀ W,BW V W → W.cell? ⟨g2,0,none⟩ = some (iv lo) ∧ W.cell? ⟨g2,1,none⟩ = some (iv hi)):=Lq fun W hb=>⟨(q12.keep hb).c 0,(q12.keep hb).c 1⟩
 have HQ4:=Lq q4;have HB:=Lq (belowT b1 b2);have HWG:=Lq hwg;have e1 : lo.tdiv tons = lo / tons:=Int.tdiv_eq_ediv_of_nonneg h0;have e2 : (hi + tons - 1).tdiv tons = (hi + tons - 1) / tons:=Int.tdiv_eq_ediv_of_nonneg (by omega)
 have p1 : 0 ≤ lo / tons:=Int.ediv_nonneg h0 (by omega)
 have p2 : lo / tons ≤ lo:=Int.ediv_le_self _ h0;have p3 : 0 ≤ (hi + tons - 1) / tons:=Int.ediv_nonneg (by omega) (by omega)
 have p4 : (hi + tons - 1) / tons ≤ hi + tons - 1:=Int.ediv_le_self _ (by omega)
 have k1 : IntKind.i64.wrap (lo.tdiv tons) = lo.tdiv tons:=i64_small (by omega) (by omega)
 have k2 : IntKind.i64.wrap (hi + tons) = hi + tons:=i64_small (by omega) (by omega)
 have k3 : IntKind.i64.wrap (hi + tons - 1) = hi + tons - 1:=i64_small (by omega) (by omega)
 have k4 : IntKind.i64.wrap ((hi + tons - 1).tdiv tons) = (hi + tons - 1).tdiv tons:=i64_small (by omega) (by omega)
 have ht0 : ¬ tons = 0:=by omega
 simp only [drawnS];obtain ⟨m,hm⟩:=ex (min 1500 (lo.tdiv tons));obtain ⟨m2,hm2⟩:=ex (min 1500 ((hi + tons - 1).tdiv tons));rw [hm,hm2];clear b1 b2 q1 q4 q12 hz hwg e1 e2 p1 p2 p3 p4;go_enter Tryz.func12,Tryz.ntmps12
 go_wp2_with fail
 clear hW1 hV hg2 hg4;go_upto_region 1 with fail
 refine reg12_1 ht0 k1 hm k2 k3 k4 hm2 HQ4.out HS.out ?_;intro u5 u6 u7 u8 u9 u10 u11 u12 u13 u14 u15 u16 u17 u18 w9 hb9;have hq:=HQ4.out.keep hb9;have HB9:=Lq (belowT HB.out hb9);obtain ⟨W9,hW9⟩:=ex ((w9.setCell ⟨g4,0,none⟩ (iv m)).setCell ⟨g4,1,none⟩ (iv m2));have hq9 : Blk W9 g4 29 #[iv m,iv m2]:=by
  rw [← hW9];have h:=(hq.set_ 0 (iv m)).set_ 1 (iv m2)
  simpa using h
 have HBX : Hid (BW w W9):=Lq (by
  rw [← hW9];exact belowS (belowS HB9.out HWG.out _) HWG.out _)
 obtain ⟨d0,d1⟩:=hq9.c2;rw [hW9];clear hq hW9 hq9 hb9;go_wp2_with fail
 exact bodyPost_ret (v:=.agg #[iv m,iv m2]) (by simp [results,Tryz.results12,go_sem,d0,d1]) rfl ⟨rfl,HBX.out⟩
end Go.Proofs.YtpgfldcoojfheaaGreatDoor
