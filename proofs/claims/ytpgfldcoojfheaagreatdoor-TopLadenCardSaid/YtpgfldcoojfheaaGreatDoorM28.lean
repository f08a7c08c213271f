/- hull: what Read lays (printed by mkHW6.py). hull: Read (printed by mkHW7.py). The reference compares (printed by mkHE1.py). The reference compares parts (printed by mkHE2.py). The reference compares ships (printed by mkHE3.py). -/
import Derived.Recover
import Derived.Test.YtpgfldcoojfheaaGreatDoorM0
import Derived.Test.YtpgfldcoojfheaaGreatDoorM5
import Derived.Test.YtpgfldcoojfheaaGreatDoorM26
import Derived.Test.YtpgfldcoojfheaaGreatDoorM27
set_option maxRecDepth 1000000
set_option maxHeartbeats 16000000
namespace Go.Proofs.YtpgfldcoojfheaaGreatDoor
open Go.RowKit Go.Shelf
section
variable {V W : World} {va vc z0 z1 z10 z11 z12 z13 z14 z15 z16 z17 z18 z19 z20 z21 z22 z23 z24 z25 z26 z27 z28 z29 z3 z30 z31 z32 z33 z34 z35 z36 z37 z38 z39 z4 z40 z41 z42 z43 z44 z45 z46 z47 z48 z49 z5 z50 z51 z52 z53 z54 z55 z56 z57 z58 z59 z6 z60 z61 z62 z63 z64 z65 z66 z67 z7 z9 : Value} {g8 lo n t2 : Nat} {csb : Array Value} {Q : Exit → Act → World → Prop}
theorem Tryz.info49 : (Tryz.prog.info? 49).map (fun i=>(i.zero,i.size,i.bytes)) = some (some (.agg #[.int .i64 0,.int .i64 0,.string ⟨#[]⟩,.string ⟨#[]⟩,.int .i64 0,.int .i64 0,.int .i64 0,.slice none 0 0,.int .i64 0,.int .i64 0]),10,112):=by kernel_rfl
structure Kept3 (V W : World) (g t : Nat) (row : Option Nat) : Prop where
 os : W.os = V.os
 tape : W.tape = V.tape
 output : W.output = V.output
 size : V.heap.size ≤ W.heap.size
 same : ∀ k,k < V.heap.size → k ≠ g → k ≠ t → some k ≠ row → W.heap[k]? = V.heap[k]?
structure Laid (W : World) (bk : Nat) (p : HuP) (A : Option Addr) (c : Nat) : Prop where
 rd : Rd1 .string W (bk + 1) A p.on
 le : p.on.length ≤ c
 here : ∀ a,A = some a → a.block = bk
 max : c ≤ maxLen
theorem Kept3.made {v1 w3 wx : World} {g t : Nat} {row : Option Nat} {w2 : World} (h1 : OnlyAt V v1 g) (h2 : BW v1 w2) (h3 : w2.grownBy w3 row) (h4 : OnlyAt w3 wx t) : Kept3 V wx g t row :=
 ⟨h4.os.trans (h3.os.trans (h2.os.trans h1.os)),h4.tape.trans (h3.tape.trans (h2.tape.trans h1.tape)),h4.output.trans (h3.output.trans (h2.output.trans h1.output)),Nat.le_trans h1.size (Nat.le_trans h2.size (Nat.le_trans h3.size h4.size)),fun k hk hg ht hr =>
  have a1:=Nat.lt_of_lt_of_le hk h1.size;have a2:=Nat.lt_of_lt_of_le a1 h2.size;have a3:=Nat.lt_of_lt_of_le a2 h3.size
  (h4.block k a3 ht).trans ((h3.block k a2 hr).trans ((h2.block k a1).trans (h1.block k hk hg)))⟩
theorem Laid.same {X : World} {bk : Nat} {p : HuP} {A : Option Addr} {c : Nat} (h : Laid W bk p A c) (hs : X.heap[bk]? = W.heap[bk]?) : Laid X bk p A c:=by
 refine ⟨fun i x hx=>?_,h.le,h.here,h.max⟩
 obtain ⟨b,off,e,hlt,hc⟩:=h.rd i x hx;have hb:=h.here _ e;simp only at hb;subst hb;exact ⟨b,off,e,hlt,(World.cell?_of_block (w:=W) (a:=⟨b,_,none⟩) hs).trans hc⟩
theorem blk_types {k : Nat} {t s : TypeId} {cs ds : Array Value} (h : Blk W k t cs) (h' : Blk W k s ds) : t = s:=by
 cases h.symm.trans h';rfl
noncomputable def ops29_12 : Array Oper:=opsOf (regionOf Tryz.f29 12)
theorem reg29_12 {xs : List Value} {p : HuP} {ds : List Deferred} (hlo : lo ≤ V.heap.size) (hn : n ≤ 1000) (hg : t2 ≠ g8) (hg0 : 0 < g8) (hown : V.ownsRow lo 47 7 va n xs) (hog : va.ownBlock ≠ some g8) (ht : Blk V t2 27 #[va,vc]) (hbk : Blk V (g8 - 1) 9 csb)
  (hC : ∀ W,BW V W → Calls Tryz.prog 85 #[.pointer (some ⟨g8,0,none⟩)] W ((TakenPost g8 p) W))
  (hQ : ∀ u38 u39 u40 u41 u42 u43 u44 u45 wx v' A9 c9,(Kept3 V wx g8 t2 va.ownBlock ∧ Blk wx t2 27 #[v',vc] ∧ wx.ownsRow lo 47 7 v' (n + 1) (xs ++ [.string p.name,iv p.kind,iv p.first,iv p.last,.slice A9 p.on.length c9,iv p.wlo,iv p.whi]) ∧ Laid wx (g8 - 1) p A9 c9) → Q .normal ⟨(z0::z1::.pointer (some ⟨t2,0,none⟩)::z3::z4::z5::z6::z7::.pointer (some ⟨g8,0,none⟩)::z9::z10::z11::z12::z13::z14::z15::z16::z17::z18::z19::z20::z21::z22::z23::z24::z25::z26::z27::z28::z29::z30::z31::z32::z33::z34::z35::z36::z37::u38::u39::u40::u41::u42::u43::u44::u45::z46::z47::z48::z49::z50::z51::z52::z53::z54::z55::z56::z57::z58::z59::z60::z61::z62::z63::z64::z65::z66::z67::[]).toArray,ds⟩ wx) :
  (regionOf Tryz.f29 12).wp Tryz.prog Q ⟨(z0::z1::.pointer (some ⟨t2,0,none⟩)::z3::z4::z5::z6::z7::.pointer (some ⟨g8,0,none⟩)::z9::z10::z11::z12::z13::z14::z15::z16::z17::z18::z19::z20::z21::z22::z23::z24::z25::z26::z27::z28::z29::z30::z31::z32::z33::z34::z35::z36::z37::z38::z39::z40::z41::z42::z43::z44::z45::z46::z47::z48::z49::z50::z51::z52::z53::z54::z55::z56::z57::z58::z59::z60::z61::z62::z63::z64::z65::z66::z67::[]).toArray,ds⟩ V:=by
 obtain ⟨iT,hiT,hzT0,hzT1,hzT2⟩:=info_parts Tryz.info47;have HC:=Lq hC;have HB0:=Lq (belowDq (belowR V));have HQ:=Lq hQ;have HO:=Lq hown;have HT:=Lq ht;have HBK:=Lq hbk;have HSV : Hid (∀ W : World,W.heap[t2]? = V.heap[t2]? → W.cell? ⟨t2,0,none⟩ = some va):=Lq fun W hs=>(ht.same hs).c 0
 clear hC hQ hown ht hbk;have e : regionOf Tryz.f29 12 = Code.region 12 ops29_12 true:=by kernel_rfl
 rw [e];refine wp_region_noPanic ?_;refine wp_region_late (S:=(fun W=>W.cell? ⟨t2,0,none⟩ = some va)) (late:=(fun k=>k == 8)) (by kernel_rfl) ?_
 have hHeld:=HSV.out _ (HB0.out.block t2 HT.out.lt);have hsz : ops29_12.size = 9:=by kernel_rfl
 have hrep : Array.replicate 9 false = #[false,false,false,false,false,false,false,false,false]:=by kernel_rfl
 rw [hsz,hrep];clear e hsz hrep;generalize V.drew = V0 at HB0 hHeld ⊢;refine tkL 0 (.pointer (some ⟨t2,0,none⟩)) ?_;refine tkL 1 (.pointer (some ⟨t2,0,none⟩)) ?_;refine tkL 2 (va) ?_;refine rdL1 3 fun K' hK=>?_
 go_simp;refine (HC.out _ HB0.out).mono ?_;rintro e v1 ⟨A9,c9,rfl,ho,hw⟩;have ho1 : OnlyAt V v1 g8:=(OnlyAt.of_below HB0.out g8).join ho;have hs1 : v1.heap[t2]? = V.heap[t2]?:=ho1.block t2 HT.out.lt hg;have HO1:=Lq (ho1.own HO.out hog);have HOV:=Lq ho1;have HL1 : Hid (Laid v1 (g8 - 1) p A9 c9):=Lq (by
  have hf:=And.intro hw.rd (And.intro hw.le (And.intro hw.here hw.max));refine ⟨(show g8 - 1 + 1 = g8 by omega) ▸ hf.1,hf.2.1,fun a ha=>?_,hf.2.2.2⟩
  have:=hf.2.2.1 a ha;omega)
 have HBK1:=Lq (HBK.out.same (ho1.block _ HBK.out.lt (by omega)))
 have HT1:=Lq (HT.out.same hs1);refine hK.out _ _ (HSV.out _ hs1) (fun hHeld=>?_)
 clear hK ho ho1 hw;refine rdL1 4 fun K' hK=>?_
 go_simp;have HO2:=Lq (own_below HO1.out (belowA (belowR v1) (.cells #[.string p.name,iv p.kind,iv p.first,iv p.last,.slice A9 p.on.length c9,iv p.wlo,iv p.whi] 47)));have hb2 : BW v1 (v1.alloc (.cells #[.string p.name,iv p.kind,iv p.first,iv p.last,.slice A9 p.on.length c9,iv p.wlo,iv p.whi] 47)):=belowA (belowR v1) _;have HQ2:=Lq (Blk.new v1 47 #[.string p.name,iv p.kind,iv p.first,iv p.last,.slice A9 p.on.length c9,iv p.wlo,iv p.whi]);obtain ⟨w2,hw2⟩:=ex (v1.alloc (.cells #[.string p.name,iv p.kind,iv p.first,iv p.last,.slice A9 p.on.length c9,iv p.wlo,iv p.whi] 47));obtain ⟨g1,hg1⟩:=ex v1.heap.size;rw [hw2] at HO2 hb2 HQ2;rw [hg1] at HQ2
 (try rw [hw2,hg1])
 have HB2:=Lq hb2;have HT2:=Lq (HT1.out.keep hb2);have HBK2:=Lq (HBK1.out.keep hb2);have HL2:=Lq (HL1.out.same (hb2.block _ HBK1.out.lt));have hs2 : w2.heap[t2]? = V.heap[t2]?:=(hb2.block _ HT1.out.lt).trans hs1;have HS2:=Lq hs2;refine hK.out _ _ (HSV.out _ hs2) (fun hHeld=>?_)
 clear hK hw2 hg1 hs1 hs2;refine rdL1 5 fun K' hK=>?_
 refine step_append_any (by rfl) _ _ 22 (by rfl) lo 47 iT _ 7 80 Tryz.underlying22 hiT hzT0 hzT1 hzT2 rfl (by decide) va n _ (by rfl) HO2.out (.slice (some ⟨g1,0,none⟩) 1 1) 1 [.string p.name,iv p.kind,iv p.first,iv p.last,.slice A9 p.on.length c9,iv p.wlo,iv p.whi] (by rfl) (.inr ⟨⟨g1,0,none⟩,1,rfl,rfl,fun j u hu=>(by rw [add_bk,HQ2.out.cell]; simpa using hu),by simp [Value.oneCell']⟩) (by unfold maxLen; omega) (by omega) (by have:=HB2.out.size; have:=HOV.out.size; omega) ?_
 intro v9 w3 hown3 hg3;have hn2:=own_ne HO2.out HT2.out (by decide)
 have HT3:=Lq (HT2.out.grown hg3 hn2);have HS3 : Hid (w3.heap[t2]? = V.heap[t2]?):=Lq ((hg3.block t2 HT2.out.lt hn2).trans HS2.out);have hn9:=own_ne HO2.out HBK2.out (by decide)
 have HBK3:=Lq (HBK2.out.grown hg3 hn9);have HL3:=Lq (HL2.out.same (hg3.block _ HBK2.out.lt hn9));have HG3:=Lq hg3;obtain ⟨gv,cv,rfl,_,_,_⟩:=own_form hown3 (by omega)
 have HO3:=Lq hown3;refine hK.out _ _ (HSV.out _ HS3.out) (fun hHeld=>?_)
 clear hK hn2 hn9 hg3 hown3;refine tkL 6 (.pointer (some ⟨t2,0,none⟩)) ?_;refine tkL 7 (.pointer (some ⟨t2,0,none⟩)) ?_;refine rdT 8 fun K' hK=>?_
 have cg:=HT3.out.c 0;have fg:=HT3.out.frozen 0;have lg:=HT3.out.lt;go_simp;refine hK.out _ _ ?_;clear hK cg fg lg;refine wpAny_of_held (S:=fun _=>True) _ _ _ _ ?_
 refine wpAnyH_done (by kernel_rfl) ?_ _
 have o4 : OnlyAt w3 (w3.setCell ⟨t2,0,none⟩ (.slice (some ⟨gv,0,none⟩) (n + 1) cv)) t2:=OnlyAt.of_set (belowR w3) t2 0 _;have hne3 : g8 - 1 ≠ t2:=fun e=>by
  have h:=HT3.out;rw [← e] at h;exact absurd (blk_types HBK3.out h) (by decide)
 refine NoPanic.normal (HQ.out _ _ _ _ _ _ _ _ _ _ A9 c9 ⟨Kept3.made HOV.out HB2.out HG3.out o4,HT3.out.set_ 0 _, ?_,HL3.out.same (o4.block _ HBK3.out.lt hne3)⟩);exact o4.own HO3.out (fun e=>own_ne HO3.out HT3.out (by decide) e.symm)
noncomputable def ops29_13 : Array Oper:=opsOf (regionOf Tryz.f29 13)
theorem reg29_13 {xs : List Value} {p : HuP} {ds : List Deferred} {wh dy : Int} {cn : ByteArray} (hlo : lo ≤ V.heap.size) (hn : n ≤ 1000) (hg : t2 ≠ g8) (hg0 : 0 < g8) (hown : V.ownsRow lo 49 10 vc n xs) (hog : vc.ownBlock ≠ some g8) (ht : Blk V t2 27 #[va,vc]) (hbk : Blk V (g8 - 1) 9 csb)
  (hC : ∀ W,BW V W → Calls Tryz.prog 86 #[.pointer (some ⟨g8,0,none⟩)] W ((ChgdPost g8 wh dy cn p) W))
  (hQ : ∀ u46 u47 u48 u49 u50 u51 wx v' A9 c9,(Kept3 V wx g8 t2 vc.ownBlock ∧ Blk wx t2 27 #[va,v'] ∧ wx.ownsRow lo 49 10 v' (n + 1) (xs ++ [iv wh,iv dy,.string cn,.string p.name,iv p.kind,iv p.first,iv p.last,.slice A9 p.on.length c9,iv p.wlo,iv p.whi]) ∧ Laid wx (g8 - 1) p A9 c9) → Q .normal ⟨(z0::z1::.pointer (some ⟨t2,0,none⟩)::z3::z4::z5::z6::z7::.pointer (some ⟨g8,0,none⟩)::z9::z10::z11::z12::z13::z14::z15::z16::z17::z18::z19::z20::z21::z22::z23::z24::z25::z26::z27::z28::z29::z30::z31::z32::z33::z34::z35::z36::z37::z38::z39::z40::z41::z42::z43::z44::z45::u46::u47::u48::u49::u50::u51::z52::z53::z54::z55::z56::z57::z58::z59::z60::z61::z62::z63::z64::z65::z66::z67::[]).toArray,ds⟩ wx) :
  (regionOf Tryz.f29 13).wp Tryz.prog Q ⟨(z0::z1::.pointer (some ⟨t2,0,none⟩)::z3::z4::z5::z6::z7::.pointer (some ⟨g8,0,none⟩)::z9::z10::z11::z12::z13::z14::z15::z16::z17::z18::z19::z20::z21::z22::z23::z24::z25::z26::z27::z28::z29::z30::z31::z32::z33::z34::z35::z36::z37::z38::z39::z40::z41::z42::z43::z44::z45::z46::z47::z48::z49::z50::z51::z52::z53::z54::z55::z56::z57::z58::z59::z60::z61::z62::z63::z64::z65::z66::z67::[]).toArray,ds⟩ V:=by
 obtain ⟨iT,hiT,hzT0,hzT1,hzT2⟩:=info_parts Tryz.info49;have HC:=Lq hC;have HB0:=Lq (belowDq (belowR V));have HQ:=Lq hQ;have HO:=Lq hown;have HT:=Lq ht;have HBK:=Lq hbk;have HSV : Hid (∀ W : World,W.heap[t2]? = V.heap[t2]? → W.cell? ⟨t2,1,none⟩ = some vc):=Lq fun W hs=>(ht.same hs).c 1
 clear hC hQ hown ht hbk;have e : regionOf Tryz.f29 13 = Code.region 13 ops29_13 true:=by kernel_rfl
 rw [e];refine wp_region_noPanic ?_;refine wp_region_late (S:=(fun W=>W.cell? ⟨t2,1,none⟩ = some vc)) (late:=(fun k=>k == 6)) (by kernel_rfl) ?_
 have hHeld:=HSV.out _ (HB0.out.block t2 HT.out.lt);have hsz : ops29_13.size = 7:=by kernel_rfl
 have hrep : Array.replicate 7 false = #[false,false,false,false,false,false,false]:=by kernel_rfl
 rw [hsz,hrep];clear e hsz hrep;generalize V.drew = V0 at HB0 hHeld ⊢;refine tkL 0 (.pointer (some ⟨t2,1,none⟩)) ?_;refine tkL 1 (vc) ?_;refine rdL1 2 fun K' hK=>?_
 go_simp;refine (HC.out _ HB0.out).mono ?_;rintro e v1 ⟨A9,c9,rfl,ho,hrd,hle,hhe,hmx⟩;have ho1 : OnlyAt V v1 g8:=(OnlyAt.of_below HB0.out g8).join ho;have hs1 : v1.heap[t2]? = V.heap[t2]?:=ho1.block t2 HT.out.lt hg;have HO1:=Lq (ho1.own HO.out hog);have HOV:=Lq ho1;have HL1 : Hid (Laid v1 (g8 - 1) p A9 c9):=Lq (by
  have hf:=And.intro hrd (And.intro hle (And.intro hhe hmx));refine ⟨(show g8 - 1 + 1 = g8 by omega) ▸ hf.1,hf.2.1,fun a ha=>?_,hf.2.2.2⟩
  have:=hf.2.2.1 a ha;omega)
 have HBK1:=Lq (HBK.out.same (ho1.block _ HBK.out.lt (by omega)))
 have HT1:=Lq (HT.out.same hs1);refine hK.out _ _ (HSV.out _ hs1) (fun hHeld=>?_)
 clear hK ho ho1 hrd hle hhe hmx;refine rdL1 3 fun K' hK=>?_
 go_simp;have HO2:=Lq (own_below HO1.out (belowA (belowR v1) (.cells #[iv wh,iv dy,.string cn,.string p.name,iv p.kind,iv p.first,iv p.last,.slice A9 p.on.length c9,iv p.wlo,iv p.whi] 49)));have hb2 : BW v1 (v1.alloc (.cells #[iv wh,iv dy,.string cn,.string p.name,iv p.kind,iv p.first,iv p.last,.slice A9 p.on.length c9,iv p.wlo,iv p.whi] 49)):=belowA (belowR v1) _;have HQ2:=Lq (Blk.new v1 49 #[iv wh,iv dy,.string cn,.string p.name,iv p.kind,iv p.first,iv p.last,.slice A9 p.on.length c9,iv p.wlo,iv p.whi]);obtain ⟨w2,hw2⟩:=ex (v1.alloc (.cells #[iv wh,iv dy,.string cn,.string p.name,iv p.kind,iv p.first,iv p.last,.slice A9 p.on.length c9,iv p.wlo,iv p.whi] 49));obtain ⟨g1,hg1⟩:=ex v1.heap.size;rw [hw2] at HO2 hb2 HQ2;rw [hg1] at HQ2
 (try rw [hw2,hg1])
 have HB2:=Lq hb2;have HT2:=Lq (HT1.out.keep hb2);have HBK2:=Lq (HBK1.out.keep hb2);have HL2:=Lq (HL1.out.same (hb2.block _ HBK1.out.lt));have hs2 : w2.heap[t2]? = V.heap[t2]?:=(hb2.block _ HT1.out.lt).trans hs1;have HS2:=Lq hs2;refine hK.out _ _ (HSV.out _ hs2) (fun hHeld=>?_)
 clear hK hw2 hg1 hs1 hs2;refine rdL1 4 fun K' hK=>?_
 refine step_append_any (by rfl) _ _ 25 (by rfl) lo 49 iT _ 10 112 Tryz.underlying25 hiT hzT0 hzT1 hzT2 rfl (by decide) vc n _ (by rfl) HO2.out (.slice (some ⟨g1,0,none⟩) 1 1) 1 [iv wh,iv dy,.string cn,.string p.name,iv p.kind,iv p.first,iv p.last,.slice A9 p.on.length c9,iv p.wlo,iv p.whi] (by rfl) (.inr ⟨⟨g1,0,none⟩,1,rfl,rfl,fun j u hu=>(by rw [add_bk,HQ2.out.cell]; simpa using hu),by simp [Value.oneCell']⟩) (by unfold maxLen; omega) (by omega) (by have:=HB2.out.size; have:=HOV.out.size; omega) ?_
 intro v9 w3 hown3 hg3;have hn2:=own_ne HO2.out HT2.out (by decide)
 have HT3:=Lq (HT2.out.grown hg3 hn2);have HS3 : Hid (w3.heap[t2]? = V.heap[t2]?):=Lq ((hg3.block t2 HT2.out.lt hn2).trans HS2.out);have hn9:=own_ne HO2.out HBK2.out (by decide)
 have HBK3:=Lq (HBK2.out.grown hg3 hn9);have HL3:=Lq (HL2.out.same (hg3.block _ HBK2.out.lt hn9));have HG3:=Lq hg3;obtain ⟨gv,cv,rfl,_,_,_⟩:=own_form hown3 (by omega)
 have HO3:=Lq hown3;refine hK.out _ _ (HSV.out _ HS3.out) (fun hHeld=>?_)
 clear hK hn2 hn9 hg3 hown3;refine tkL 5 (.pointer (some ⟨t2,1,none⟩)) ?_;refine rdT 6 fun K' hK=>?_
 have cg:=HT3.out.c 1;have fg:=HT3.out.frozen 1;have lg:=HT3.out.lt;go_simp;refine hK.out _ _ ?_;clear hK cg fg lg;refine wpAny_of_held (S:=fun _=>True) _ _ _ _ ?_
 refine wpAnyH_done (by kernel_rfl) ?_ _
 have o4 : OnlyAt w3 (w3.setCell ⟨t2,1,none⟩ (.slice (some ⟨gv,0,none⟩) (n + 1) cv)) t2:=OnlyAt.of_set (belowR w3) t2 1 _;have hne3 : g8 - 1 ≠ t2:=fun e=>by
  have h:=HT3.out;rw [← e] at h;exact absurd (blk_types HBK3.out h) (by decide)
 refine NoPanic.normal (HQ.out _ _ _ _ _ _ _ _ A9 c9 ⟨Kept3.made HOV.out HB2.out HG3.out o4,HT3.out.set_ 1 _, ?_,HL3.out.same (o4.block _ HBK3.out.lt hne3)⟩);exact o4.own HO3.out (fun e=>own_ne HO3.out HT3.out (by decide) e.symm)
end
section
variable {V W X w0 : World} {v' va vc : Value} {cs : List HcM} {x ys : Array Value} {c g t2 t3 : Nat} {A : Option Addr} {ms : List HuM}
attribute [local go_sem] Oper.semAt_some
inductive LnW where
 | part (nm kw w1 w2 w3 w4 : ByteArray) (p : HuP)
 | add (dw nm kw w1 w2 w3 w4 : ByteArray) (dy : Int) (p : HuP)
 | take (dw nm : ByteArray) (dy : Int)
 | swap (dw old nm kw w1 w2 w3 w4 : ByteArray) (dy : Int) (p : HuP)
def LnW.words : LnW → List ByteArray
 | .part nm kw w1 w2 w3 w4 p=>sPart::nm::kw::w1::w2::w3::w4::p.on
 | .add dw nm kw w1 w2 w3 w4 _ p=>dw::sAdd::nm::kw::w1::w2::w3::w4::p.on
 | .take dw nm _=>[dw,sTake,nm]
 | .swap dw old nm kw w1 w2 w3 w4 _ p=>dw::sSwap::old::nm::kw::w1::w2::w3::w4::p.on
def DayW (dw : ByteArray) (dy : Int) : Prop:=NumW dw dy ∧ (dw.toList == [112,97,114,116]) = false
def LnW.ok : LnW → Prop
 | .part nm kw w1 w2 w3 w4 p=>PartW p nm kw w1 w2 w3 w4
 | .add dw nm kw w1 w2 w3 w4 dy p=>DayW dw dy ∧ PartW p nm kw w1 w2 w3 w4
 | .take dw _ dy=>DayW dw dy
 | .swap dw _ nm kw w1 w2 w3 w4 dy p=>DayW dw dy ∧ PartW p nm kw w1 w2 w3 w4
def noP : HuP:=⟨⟨#[]⟩,0,0,0,[],0,0⟩
def LnW.p? : LnW → List HuP
 | .part _ _ _ _ _ _ p=>[p]
 | _=>[]
def LnW.c? : LnW → List HuC
 | .part ..=>[]
 | .add _ _ _ _ _ _ _ dy p=>[⟨1,dy,⟨#[]⟩,p⟩]
 | .take _ nm dy=>[⟨2,dy,nm,noP⟩]
 | .swap _ old _ _ _ _ _ _ dy p=>[⟨3,dy,old,p⟩]
def psT (l : List LnW) : List HuP:=l.flatMap LnW.p?
def csT (l : List LnW) : List HuC:=l.flatMap LnW.c?
structure LineOk (r r' : ByteArray) (ln : LnW) : Prop where
 ok : ln.ok
 sz : r.size ≤ 6000
 less : r'.size < r.size
 some' : r.toList.isEmpty = false
 row : ∃ row : ByteArray,Lib.cut r.data.toList [10] = (row.data.toList,r'.data.toList,true) ∧ row.size ≤ 6000 ∧ Lib.splitB sSp 0 (Lib.countB row sSp) row = ln.words ∧ Lib.countB row sSp + 1 = ln.words.length ∧ ln.words.length ≤ 1000
structure TextOk (s : ByteArray) (rest : Nat → ByteArray) (lns : List LnW) : Prop where
 first : rest 0 = s
 last : (rest lns.length).toList.isEmpty = true
 len : lns.length ≤ 100
 line : ∀ k ln,lns[k]? = some ln → LineOk (rest k) (rest (k + 1)) ln
structure Got (W : World) (m : HuM) : Prop where
 bk : ∃ b cs,Blk W b 9 cs ∧ ∀ a,m.A = some a → a.block = b
 ok : MOk W W.heap.size m
theorem Got.same {m : HuM} (h : Got W m) (hs : W.heap.size ≤ V.heap.size) (hk : ∀ b cs,Blk W b 9 cs → V.heap[b]? = W.heap[b]?) : Got V m:=by
 obtain ⟨⟨b,cs,hb,ha⟩,hm⟩:=h;have e:=hk b cs hb;refine ⟨⟨b,cs,hb.same e,ha⟩,⟨fun i x hx=>?_,hm.le,hm.cm,hm.nm,hm.ons,hm.sz⟩⟩
 obtain ⟨b',off,eA,hlt,hc⟩:=hm.on i x hx;have h2:=ha _ eA;simp only at h2;subst h2;exact ⟨b',off,eA,Nat.lt_of_lt_of_le hlt hs,(World.cell?_of_block (w:=W) (a:=⟨b',_,none⟩) e).trans hc⟩
structure RdInv (w0 W : World) (t2 t3 : Nat) (va vc : Value) (ms : List HuM) (cs : List HcM) : Prop where
 bw : BW w0 W
 plan : Blk W t2 27 #[va,vc]
 err : Blk W t3 36 #[iv 0]
 rowA : W.ownsRow w0.heap.size 47 7 va ms.length (ms.flatMap encM)
 rowC : W.ownsRow w0.heap.size 49 10 vc cs.length (cs.flatMap encC)
 got : ∀ m ∈ ms,Got W m
 gotc : ∀ c ∈ cs,Got W c.part ∧ c.name.size ≤ maxLen
theorem RdInv.below (h : RdInv w0 W t2 t3 va vc ms cs) (hb : BW W V) : RdInv w0 V t2 t3 va vc ms cs :=
 ⟨belowT h.bw hb,h.plan.keep hb,h.err.keep hb,own_below h.rowA hb,own_below h.rowC hb,fun m hm=>(h.got m hm).same hb.size fun b _ hB=>hb.block b hB.lt,fun c hc=>⟨(h.gotc c hc).1.same hb.size fun b _ hB=>hb.block b hB.lt,(h.gotc c hc).2⟩⟩
theorem own_block {base : Nat} {e : TypeId} {size n : Nat} {v : Value} {xs : List Value} (h : W.ownsRow base e size v n xs) (hs : ∀ k cur,v.ownBlock = some k → Blk W k e cur → X.heap[k]? = W.heap[k]?) : X.ownsRow base e size v n xs:=by
 obtain ⟨h1,h2⟩:=h;refine ⟨h1,h2.imp id ?_⟩;rintro ⟨g,cap,cur,hv,hb,hh,r⟩;exact ⟨g,cap,cur,hv,hb,(hs g cur (by rw [hv]; rfl) hh).trans hh,r⟩
theorem RdInv.only (h : RdInv w0 W t2 t3 va vc ms cs) (hg : Blk W g 168 x) (h0 : w0.heap.size ≤ g) (ho : OnlyAt W V g) : RdInv w0 V t2 t3 va vc ms cs:=by
 have ne : ∀ {b : Nat} {t : TypeId} {ys : Array Value},Blk W b t ys → t ≠ 168 → b ≠ g:=fun hb ht e=>by
  subst e;exact ht (blk_types hb hg)
 refine ⟨ho.below h.bw h0,h.plan.same (ho.block _ h.plan.lt (ne h.plan (by decide))),h.err.same (ho.block _ h.err.lt (ne h.err (by decide))),ho.own h.rowA (fun e=>own_ne h.rowA hg (by decide) e.symm),ho.own h.rowC (fun e=>own_ne h.rowC hg (by decide) e.symm),fun m hm=>(h.got m hm).same ho.size fun b ys hb=>ho.block b hb.lt (ne hb (by decide)),fun c hc=>⟨(h.gotc c hc).1.same ho.size fun b ys hb=>ho.block b hb.lt (ne hb (by decide)),(h.gotc c hc).2⟩⟩
structure PSz (p : HuP) : Prop where
 nm : p.name.size ≤ maxLen
 ons : ∀ o ∈ p.on,o.size ≤ maxLen
 on : p.on.length ≤ 1000
theorem got_of {bk : Nat} {p : HuP} (h : Laid X bk p A c) (hb : Blk X bk 9 ys) (hp : PSz p) : Got X ⟨p,A,c⟩ :=
 ⟨⟨bk,ys,hb,h.here⟩,⟨h.rd.more (by have:=hb.lt; omega),h.le,h.max,hp.nm,hp.ons,by have:=hp.on; show p.on.length * 16 ≤ _; omega⟩⟩
theorem RdInv.addP {p : HuP} (h : RdInv w0 V t2 t3 va vc ms cs) (hg : Blk V g 168 x) (h0 : w0.heap.size ≤ g) (ht0 : w0.heap.size ≤ t2) (hk : Kept3 V X g t2 va.ownBlock) (hpl : Blk X t2 27 #[v',vc]) (hown : X.ownsRow w0.heap.size 47 7 v' (ms.length + 1) (ms.flatMap encM ++ [.string p.name,iv p.kind,iv p.first,iv p.last,.slice A p.on.length c,iv p.wlo,iv p.whi])) (hl : Laid X (g - 1) p A c) (hbk : Blk V (g - 1) 9 ys) (hp : PSz p) :
  RdInv w0 X t2 t3 v' vc (ms ++ [⟨p,A,c⟩]) cs:=by
 have ne : ∀ {b : Nat} {t : TypeId} {zs : Array Value},Blk V b t zs → t ≠ 168 → t ≠ 27 → t ≠ 47 → X.heap[b]? = V.heap[b]?:=fun {b t zs} hb h1 h2 h3=>hk.same b hb.lt (fun e=>by subst e; exact h1 (blk_types hb hg)) (fun e=>by subst e; exact h2 (blk_types hb h.plan)) (own_ne h.rowA hb h3)
 refine ⟨⟨hk.os.trans h.bw.os,hk.tape.trans h.bw.tape,hk.output.trans h.bw.output,Nat.le_trans h.bw.size hk.size,fun k hk0=>?_⟩,hpl,h.err.same (ne h.err (by decide) (by decide) (by decide)), ?_, ?_,fun m hm=>?_,fun c' hc=>⟨(h.gotc c' hc).1.same hk.size fun b zs hb=>ne hb (by decide) (by decide) (by decide),(h.gotc c' hc).2⟩⟩
 ·exact (hk.same k (Nat.lt_of_lt_of_le hk0 h.bw.size) (by omega) (by omega) (fun e=>by have:=(h.rowA.lt k e.symm).1; omega)).trans (h.bw.block k hk0)
 ·rw [List.length_append,List.flatMap_append]
  simpa [encM] using hown
 ·exact own_block h.rowC fun k cur hv hb=>hk.same k hb.lt (fun e=>by subst e; exact absurd (blk_types hb hg) (by decide)) (fun e=>by subst e; exact absurd (blk_types hb h.plan) (by decide)) (fun e=>own_apart h.rowC h.rowA (by decide) hv e.symm)
 ·rcases List.mem_append.1 hm with hm | hm
  ·exact (h.got m hm).same hk.size fun b zs hb=>ne hb (by decide) (by decide) (by decide)
  ·rw [List.mem_singleton.1 hm];exact got_of hl (hbk.same (ne hbk (by decide) (by decide) (by decide))) hp
theorem RdInv.addC {wh dy : Int} {cn : ByteArray} {p : HuP} (h : RdInv w0 V t2 t3 va vc ms cs) (hg : Blk V g 168 x) (h0 : w0.heap.size ≤ g) (ht0 : w0.heap.size ≤ t2) (hk : Kept3 V X g t2 vc.ownBlock) (hpl : Blk X t2 27 #[va,v']) (hown : X.ownsRow w0.heap.size 49 10 v' (cs.length + 1) (cs.flatMap encC ++ [iv wh,iv dy,.string cn,.string p.name,iv p.kind,iv p.first,iv p.last,.slice A p.on.length c,iv p.wlo,iv p.whi])) (hl : Laid X (g - 1) p A c) (hbk : Blk V (g - 1) 9 ys) (hp : PSz p) (hcn : cn.size ≤ maxLen) :
  RdInv w0 X t2 t3 va v' ms (cs ++ [⟨wh,dy,cn,⟨p,A,c⟩⟩]):=by
 have ne : ∀ {b : Nat} {t : TypeId} {zs : Array Value},Blk V b t zs → t ≠ 168 → t ≠ 27 → t ≠ 49 → X.heap[b]? = V.heap[b]?:=fun {b t zs} hb h1 h2 h3=>hk.same b hb.lt (fun e=>by subst e; exact h1 (blk_types hb hg)) (fun e=>by subst e; exact h2 (blk_types hb h.plan)) (own_ne h.rowC hb h3)
 refine ⟨⟨hk.os.trans h.bw.os,hk.tape.trans h.bw.tape,hk.output.trans h.bw.output,Nat.le_trans h.bw.size hk.size,fun k hk0=>?_⟩,hpl,h.err.same (ne h.err (by decide) (by decide) (by decide)), ?_, ?_,fun m hm=>(h.got m hm).same hk.size fun b zs hb=>ne hb (by decide) (by decide) (by decide),fun c' hc=>?_⟩
 ·exact (hk.same k (Nat.lt_of_lt_of_le hk0 h.bw.size) (by omega) (by omega) (fun e=>by have:=(h.rowC.lt k e.symm).1; omega)).trans (h.bw.block k hk0)
 ·exact own_block h.rowA fun k cur hv hb=>hk.same k hb.lt (fun e=>by subst e; exact absurd (blk_types hb hg) (by decide)) (fun e=>by subst e; exact absurd (blk_types hb h.plan) (by decide)) (fun e=>own_apart h.rowA h.rowC (by decide) hv e.symm)
 ·rw [List.length_append,List.flatMap_append]
  simpa [encC] using hown
 ·rcases List.mem_append.1 hc with hm | hm
  ·exact ⟨(h.gotc c' hm).1.same hk.size fun b zs hb=>ne hb (by decide) (by decide) (by decide),(h.gotc c' hm).2⟩
  ·rw [List.mem_singleton.1 hm];exact ⟨got_of hl (hbk.same (ne hbk (by decide) (by decide) (by decide))) hp,hcn⟩
theorem RdInv.planAt (h : RdInv w0 W t2 t3 va vc ms cs) (hwf : ∀ c ∈ cs,Lit.wf (.int .i64 c.what) = true) : ∃ A C cap capc,va = .slice A ms.length cap ∧ vc = .slice C cs.length capc ∧ PlanAt W A C cap capc ms cs:=by
 obtain ⟨A,cap,e1,h2,h3,h4,h5⟩:=own_rdN encM_len h.rowA;obtain ⟨C,capc,f1,k2,k3,k4,k5⟩:=own_rdN (show ∀ c : HcM,(encC c).length = 10 from fun _=>rfl) h.rowC
 refine ⟨A,C,cap,capc,e1,f1,⟨⟨⟨h2,fun m hm=>(h.got m hm).ok⟩,h4,h5,fun hA=>?_,fun a ha=>?_⟩,⟨k2,fun c hc=>⟨(h.gotc c hc).1.ok,(h.gotc c hc).2⟩,k4,k5⟩,hwf⟩⟩
 ·rcases h.rowA.2 with ⟨hv,_⟩ | ⟨g',c',cur,hv,_⟩
  ·rw [e1] at hv;injection hv
  ·rw [e1,hA] at hv;injection hv with hv
   cases hv
 ·rcases h.rowA.2 with ⟨hv,_⟩ | ⟨g',c',cur,hv,_⟩
  ·rw [e1,ha] at hv;injection hv with hv
   cases hv
  ·have hl:=(h.rowA.lt g' (by rw [hv]; rfl)).2
   rw [e1,ha] at hv;injection hv with hv
   injection hv with hv
   subst hv;exact ⟨rfl,hl⟩
theorem catch80_idle (t2 t3 : Nat) (w : World) :
  CallsD Tryz.prog 80 #[.pointer (some ⟨t2,0,none⟩),.pointer (some ⟨t3,0,none⟩)] .returning w fun e u' w'=>e = .returned (.tuple #[]) ∧ u' = .returning ∧ w' = w:=by
 refine callsD_of_wpS Tryz.func80 rfl fun c₀ cs hu=>?_
 apply wpS_seq;apply wpS_region;simp [wpOpsS,go_sem,recoverD,hu,Tryz.ntmps80,Exit.thenS];apply wpS_seq;apply wpS_region;simp [wpOpsS,go_sem,recoverD,hu,Exit.thenS];refine wpS_cond (t:=false) (by simp [Act.eval,Array.replicate]) ?_
 simp only [Bool.false_eq_true,if_false];refine wpS_of_wp (wp_skip ?_);cases c₀;simp_all [bodyPostS,results,Tryz.results80]
def strLen : Value → Nat
 | .string s=>s.size
 | _=>0
def ReadPost (lns : List LnW) (w : World) (e : Ending) (w' : World) : Prop:=∃ (A C : Option Addr) (cap capc : Nat) (ms : List HuM) (cs : List HcM),e = .returned (.tuple #[.agg #[.slice A ms.length cap,.slice C cs.length capc],iv 0]) ∧ PlanAt w' A C cap capc ms cs ∧ psOf ms = psT lns ∧ csOf cs = csT lns ∧ BW w w'
theorem read29_any (s : ByteArray) (rest : Nat → ByteArray) (lns : List LnW) (m : Int) (w : World) (ht : PowTab w) (hm : w.cell? ⟨0,0,none⟩ = some (.int .i64 m)) (hT : TextOk s rest lns) (hs : s.size ≤ 6000) (hok : PlanOk (psT lns) (csT lns)) (htx : (⟨(textT (psT lns) (csT lns)).toArray⟩ : ByteArray) = s)
  (hz : ∀ p ∈ psT lns,PSz p) (hzc : ∀ c ∈ csT lns,PSz c.part ∧ c.name.size ≤ maxLen) (hp : ∀ p ∈ psT lns,TellOk p ∧ (lineOf (partW p)).length ≤ 100000) (hc : ∀ c ∈ csT lns,1 ≤ c.what ∧ c.what ≤ 3 ∧ (-9223372036854775808 ≤ c.day ∧ c.day ≤ 9223372036854775807) ∧ (c.what ≠ 2 → TellOk c.part) ∧ (lineOf (chgW c)).length ≤ 100000) :
  Calls Tryz.prog 29 #[.string s] w (ReadPost lns w):=by
 have hmf : ∀ (fn : Fn) (first cap : Array Value) (w : World),(Instr.makeFunc fn first cap).run Tryz.prog w = .ok (.func fn first cap) w:=fun _ _ _ _=>rfl
 obtain ⟨W1,hW1⟩:=ex (w.alloc (.cells #[.slice none 0 0,.slice none 0 0] 27));obtain ⟨W2,hW2⟩:=ex (W1.alloc (.cells #[.int .i64 0] 36));obtain ⟨t2,ht2⟩:=ex w.heap.size;obtain ⟨t3,ht3⟩:=ex W1.heap.size;have b1 : BW w W1:=by rw [← hW1]; exact belowA (belowR w) _
 have b2 : BW W1 W2:=by rw [← hW2]; exact belowA (belowR _) _
 have q1 : Blk W1 t2 27 #[.slice none 0 0,.slice none 0 0]:=by rw [← hW1,← ht2]; exact Blk.new w 27 _
 have q2 : Blk W2 t3 36 #[iv 0]:=by rw [← hW2,← ht3]; exact Blk.new W1 36 _
 have HR0 : Hid (RdInv w W2 t2 t3 (.slice none 0 0) (.slice none 0 0) [] []):=Lq ⟨belowT b1 b2,q1.keep b2,q2,World.ownsRow_nil _ _ _ _,World.ownsRow_nil _ _ _ _,fun _ h=>(by cases h),fun _ h=>(by cases h)⟩
 have HT:=Lq hT;have HTS : Hid (w.heap.size ≤ t2 ∧ t2 < t3):=Lq (by
  have : W1.heap.size = w.heap.size + 1:=by rw [← hW1]; simp
  omega)
 have HTAB:=Lq ht;have HM:=Lq hm;have HOK:=Lq hok;have HTX:=Lq htx;have HP:=Lq hp;have HC:=Lq hc;have HZ:=Lq hz;have HZC:=Lq hzc;have hl : ¬ (6000 < s.size):=by omega
 have hf:=hT.first;clear ht hm hT hok htx hp hc hz hzc b1 b2 q1 q2
 go_enter_defers Tryz.func29,Tryz.ntmps29
 go_wp2_with fail
 clear hW1 hW2 ht2 ht3;go_loopw [4] (fun r wr=>∃ (k : Nat) (ms : List HuM) (cs : List HcM) (va vc : Value),k ≤ lns.length ∧ r = .string (rest k) ∧ psOf ms = psT (lns.take k) ∧ csOf cs = csT (lns.take k) ∧ ms.length + cs.length ≤ k ∧ Hid (RdInv w wr t2 t3 va vc ms cs)) (fun r _=>strLen r)
 case atStart=>exact ⟨0,[],[],_,_,Nat.zero_le _,by rw [hf],rfl,rfl,Nat.zero_le _,HR0⟩
 case round =>
  obtain ⟨k,ms,cs,va,vc,hk,rfl,hms,hcs,hlen,HR⟩:=hrel;by_cases hlt : k < lns.length
  ·obtain ⟨ln,hln⟩ : ∃ x,lns[k]? = some x:=⟨_,List.getElem?_eq_getElem hlt⟩;have hL:=HT.out.line k ln hln;obtain ⟨r,hr⟩:=ex (rest k);obtain ⟨r',hr'⟩:=ex (rest (k + 1));rw [hr,hr'] at hL;rw [hr];have hse:=hL.some';obtain ⟨row,hcut,hrs,hsp,hcn,hwl⟩:=hL.row;have hmr : wr.cell? ⟨0,0,none⟩ = some (.int .i64 m):=(World.cell?_of_block (w:=w) (a:=⟨0,0,none⟩) (HR.out.bw.block 0 (lt_of_cell HM.out))).trans HM.out;have hcu:=cut81_any r sNl m wr (by have:=hL.sz; omega) hmr
   rw [show sNl.data.toList = [10] from rfl,hcut] at hcu
   have e1 : (⟨row.data.toList.toArray⟩ : ByteArray) = row:=by simp
   have e2 : (⟨r'.data.toList.toArray⟩ : ByteArray) = r':=by simp
   simp only [e1,e2] at hcu;have HCU:=Lq hcu;have HSP : Hid (∀ W,BW wr W → Calls Tryz.prog 83 #[.string row,.string sSp] W fun e w'=>e = .returned (.slice (some ⟨W.heap.size,0,none⟩) ln.words.length ln.words.length) ∧ w' = W.alloc (.cells (ln.words.map Value.string).toArray 9)):=Lq fun W hb=>by
    have h:=Tryz.strings_Split row sSp m W (by omega) ((World.cell?_of_block (w:=wr) (a:=⟨0,0,none⟩) (hb.block 0 (lt_of_cell hmr))).trans hmr) (by decide)
    rw [hcn,hsp] at h;exact h
   have HL:=Lq hL;have HWL:=Lq hwl;clear hL hcut hrs hsp hcn hwl hmr hcu e1 e2;go_wp2_with fail
   refine HCU.out.mono ?_;rintro e w1 ⟨rfl,hb1⟩;have HB1:=Lq hb1;clear hb1;go_wp2_with fail
   refine (must82_any _).mono ?_;rintro e w2 ⟨rfl,hw2⟩;subst hw2;go_wp2_with fail
   refine (HSP.out _ HB1.out).mono ?_;rintro e w3 ⟨rfl,hw3⟩;have hb3 : BW w2 w3:=by rw [hw3]; exact belowA (belowR w2) _
   have hq3 : Blk w3 w2.heap.size 9 (ln.words.map Value.string).toArray:=by rw [hw3]; exact Blk.new w2 9 _
   have hz3 : w3.heap.size = w2.heap.size + 1:=by rw [hw3]; simp
   obtain ⟨bk,hbk⟩:=ex w2.heap.size;rw [hbk] at hq3 hz3;obtain ⟨n,hn⟩:=ex ln.words.length;have HWN:=Lq hn;simp only [hn,hbk];obtain ⟨Wa,W5,hWa,hW5,hb5,hqa,hba,hq5⟩:=oneMade w3 168 (.slice none 0 0) (.slice (some ⟨bk,0,none⟩) n n);obtain ⟨g8,hg8⟩:=ex w3.heap.size;rw [hg8] at hW5 hqa hq5 hz3;have hq5b:=hq3.keep hb5;have HWD : Hid (WdAt W5 g8 (some ⟨bk,0,none⟩) n ln.words):=Lq ⟨by rw [hn]; exact hq5,by
    intro i x hx;refine ⟨bk,0,rfl,by omega, ?_⟩
    rw [hq5b.cell,Nat.zero_add,List.getElem?_toArray,List.getElem?_map,hx];rfl,by omega,fun a ha=>(by injection ha with ha; subst ha; exact hz3.symm),by have:=HWL.out; unfold maxLen; omega⟩
   have HR5:=Lq (HR.out.below (belowT HB1.out (belowT hb3 hb5)));have HQ5:=Lq hq5;have HBK5 : Hid (Blk W5 (g8 - 1) 9 (ln.words.map Value.string).toArray):=Lq (by rw [show g8 - 1 = bk by omega]; exact hq5b)
   have hgw : w.heap.size ≤ g8:=by have h1:=HR.out.bw.size; have h2:=HB1.out.size; omega
   have hg0 : 0 < g8:=by omega
   have f0:=hqa.frozen 0;have x0:=hqa.c 0;have l0:=hqa.lt;have d0:=hq5.c 0;have hn0 : 0 < n:=by rw [← hn]; cases ln <;> simp [LnW.words]
   have c0 : ∀ u,(ln.words[0]?) = some u → W5.cell? ⟨bk,0,none⟩ = some (.string u):=fun u hu=>by
    rw [hq5b.cell,List.getElem?_toArray,List.getElem?_map,hu];rfl
   clear hb3 hq3 hw3 hn hb5 hqa hba hq5 hq5b hz3;have HPT : Hid (psT (lns.take (k + 1)) = psOf ms ++ ln.p?):=Lq (by
    unfold psT at hms ⊢;rw [List.take_add_one,hln,List.flatMap_append,hms];simp)
   have HCT : Hid (csT (lns.take (k + 1)) = csOf cs ++ ln.c?):=Lq (by
    unfold csT at hcs ⊢;rw [List.take_add_one,hln,List.flatMap_append,hcs];simp)
   have hmp : ∀ p ∈ ln.p?,p ∈ psT lns:=fun p hp=>List.mem_flatMap.2 ⟨ln,List.mem_iff_getElem?.2 ⟨k,hln⟩,hp⟩
   have hmc : ∀ c ∈ ln.c?,c ∈ csT lns:=fun c hc=>List.mem_flatMap.2 ⟨ln,List.mem_iff_getElem?.2 ⟨k,hln⟩,hc⟩
   have hlk:=HT.out.len;have htg : t2 ≠ g8:=fun e=>by
    have h:=HR5.out.plan;rw [e] at h;exact absurd (blk_types h HQ5.out) (by decide)
   cases ln with
   | part nm kw w1' w2' w3' w4' p =>
    have c0:=c0 sPart rfl;have HN84:=Lq (next84_any g8 n (some ⟨bk,0,none⟩) sPart (nm::kw::w1'::w2'::w3'::w4'::p.on) W5 HWD.out);go_wp2_with fail
    refine HN84.out.mono ?_;rintro e v6 ⟨rfl,ho,A6,c6,hw⟩;have HR6:=Lq (HR5.out.only HQ5.out hgw ho);have HBK6:=Lq (HBK5.out.same (ho.block _ HBK5.out.lt (by omega)))
    have HW6:=Lq hw;clear ho hw hW5 hWa hg8;go_wp2_with fail
    refine reg29_12 (p:=p) (by have:=HR6.out.bw.size; omega) (by omega) htg hg0 HR6.out.rowA (fun e=>own_ne HR6.out.rowA HW6.out.blk (by decide) e.symm) HR6.out.plan HBK6.out (fun W hb=>part85_any g8 c6 A6 p nm kw w1' w2' w3' w4' W (HW6.out.below hb) HL.out.ok) ?_
    rintro u38 u39 u40 u41 u42 u43 u44 u45 wx v' A9 c9 ⟨hk3,hpl,hown,hla⟩;have hrx:=HR6.out.addP HW6.out.blk hgw HTS.out.1 hk3 hpl hown hla HBK6.out (HZ.out p (hmp p (List.mem_singleton.2 rfl)));have HRX:=Lq hrx;clear hrx hk3 hpl hown hla;go_wp2_with fail
    go_roundw
    case measure =>
     show strLen (.string r') < strLen (.string r)
     exact HL.out.less
    case rel =>
     refine ⟨k + 1,ms ++ [⟨p,A9,c9⟩],cs,v',vc,by omega,by rw [hr'],by rw [HPT.out]; simp [LnW.p?],by rw [HCT.out]; simp [LnW.c?],by simp; omega,HRX⟩
   | add dw nm kw w1' w2' w3' w4' dy p =>
    have c0:=c0 dw rfl;have hdw:=HL.out.ok.1.2;go_wp2_with fail
    refine reg29_13 (p:=p) (wh:=1) (dy:=dy) (cn:=⟨#[]⟩) (by have:=HR5.out.bw.size; omega) (by omega) htg hg0 HR5.out.rowC (fun e=>own_ne HR5.out.rowC HQ5.out (by decide) e.symm) HR5.out.plan HBK5.out (fun W hb=>change86_add g8 n _ dy p.name p.kind p.first p.last p.wlo p.whi p.on nm kw w1' w2' w3' w4' dw W (HWD.out.below hb) HL.out.ok.1.1 HL.out.ok.2) ?_
    rintro u46 u47 u48 u49 u50 u51 wx v' A9 c9 ⟨hk3,hpl,hown,hla⟩;have hz:=HZC.out _ (hmc _ (List.mem_singleton.2 rfl));have hrx:=HR5.out.addC HQ5.out hgw HTS.out.1 hk3 hpl hown hla HBK5.out hz.1 hz.2;have HRX:=Lq hrx;clear hrx hk3 hpl hown hla;go_wp2_with fail
    go_roundw
    case measure =>
     show strLen (.string r') < strLen (.string r)
     exact HL.out.less
    case rel =>
     refine ⟨k + 1,ms,cs ++ [⟨1,dy,⟨#[]⟩,⟨p,A9,c9⟩⟩],va,v',by omega,by rw [hr'],by rw [HPT.out]; simp [LnW.p?],by rw [HCT.out]; simp [LnW.c?,csOf,HcM.c],by simp; omega,HRX⟩
   | take dw nm dy =>
    have c0:=c0 dw rfl;have hdw:=HL.out.ok.2;go_wp2_with fail
    refine reg29_13 (p:=noP) (wh:=2) (dy:=dy) (cn:=nm) (by have:=HR5.out.bw.size; omega) (by omega) htg hg0 HR5.out.rowC (fun e=>own_ne HR5.out.rowC HQ5.out (by decide) e.symm) HR5.out.plan HBK5.out (fun W hb=>change86_take g8 n _ dy nm dw W (HWD.out.below hb) HL.out.ok.1) ?_
    rintro u46 u47 u48 u49 u50 u51 wx v' A9 c9 ⟨hk3,hpl,hown,hla⟩;have hz:=HZC.out _ (hmc _ (List.mem_singleton.2 rfl));have hrx:=HR5.out.addC HQ5.out hgw HTS.out.1 hk3 hpl hown hla HBK5.out hz.1 hz.2;have HRX:=Lq hrx;clear hrx hk3 hpl hown hla;go_wp2_with fail
    go_roundw
    case measure =>
     show strLen (.string r') < strLen (.string r)
     exact HL.out.less
    case rel =>
     refine ⟨k + 1,ms,cs ++ [⟨2,dy,nm,⟨noP,A9,c9⟩⟩],va,v',by omega,by rw [hr'],by rw [HPT.out]; simp [LnW.p?],by rw [HCT.out]; simp [LnW.c?,csOf,HcM.c],by simp; omega,HRX⟩
   | swap dw old nm kw w1' w2' w3' w4' dy p =>
    have c0:=c0 dw rfl;have hdw:=HL.out.ok.1.2;go_wp2_with fail
    refine reg29_13 (p:=p) (wh:=3) (dy:=dy) (cn:=old) (by have:=HR5.out.bw.size; omega) (by omega) htg hg0 HR5.out.rowC (fun e=>own_ne HR5.out.rowC HQ5.out (by decide) e.symm) HR5.out.plan HBK5.out (fun W hb=>change86_swap g8 n _ dy p.name p.kind p.first p.last p.wlo p.whi p.on nm kw w1' w2' w3' w4' old dw W (HWD.out.below hb) HL.out.ok.1.1 HL.out.ok.2) ?_
    rintro u46 u47 u48 u49 u50 u51 wx v' A9 c9 ⟨hk3,hpl,hown,hla⟩;have hz:=HZC.out _ (hmc _ (List.mem_singleton.2 rfl));have hrx:=HR5.out.addC HQ5.out hgw HTS.out.1 hk3 hpl hown hla HBK5.out hz.1 hz.2;have HRX:=Lq hrx;clear hrx hk3 hpl hown hla;go_wp2_with fail
    go_roundw
    case measure =>
     show strLen (.string r') < strLen (.string r)
     exact HL.out.less
    case rel =>
     refine ⟨k + 1,ms,cs ++ [⟨3,dy,old,⟨p,A9,c9⟩⟩],va,v',by omega,by rw [hr'],by rw [HPT.out]; simp [LnW.p?],by rw [HCT.out]; simp [LnW.c?,csOf,HcM.c],by simp; omega,HRX⟩
  ·obtain rfl : k = lns.length:=by omega
   rw [List.take_of_length_le (Nat.le_refl _)] at hms hcs;have hlast:=HT.out.last;obtain ⟨r,hr⟩:=ex (rest lns.length);rw [hr] at hlast ⊢;have hwf : ∀ c ∈ cs,Lit.wf (.int .i64 c.what) = true:=fun c hc=>by
    have h:=HC.out c.c (by rw [← hcs]; exact List.mem_map_of_mem hc)
    have h1 : 1 ≤ c.what:=h.1;have h2 : c.what ≤ 3:=h.2.1;rcases (show c.what = 1 ∨ c.what = 2 ∨ c.what = 3 by omega) with e | e | e <;> rw [e] <;> rfl
   obtain ⟨A,C,cap,capc,rfl,rfl,hpa⟩:=HR.out.planAt hwf;have HPA:=Lq hpa;have HMS:=Lq hms;have HCS:=Lq hcs;have hlk:=HT.out.len;have HCK:=Lq (check68_any A C ms cs wr.heap.size cap capc wr (Nat.le_refl _) hpa.sl hpa.ch hpa.wf);have HTX2 : Hid (∀ W,BW wr W → Calls Tryz.prog 79 #[.agg #[.slice A ms.length cap,.slice C cs.length capc]] W (Rt W (.string s))):=Lq fun W hb=>by
    have h:=text79_any A C cap capc ms cs W (hpa.below hb) (HTAB.out.below (belowT HR.out.bw hb) (Nat.le_refl _)) (fun m hm=>HP.out _ (by rw [← hms]; exact List.mem_map_of_mem hm)) (fun c hc=>HC.out c.c (by rw [← hcs]; exact List.mem_map_of_mem hc)) (by omega) (by omega)
    rw [hms,hcs,HTX.out] at h;exact h
   have d0:=HR.out.plan.c 0;have d1:=HR.out.plan.c 1;clear hms hcs hwf hpa hr;go_wp2_with fail
   refine HCK.out.mono ?_;rintro e w2 ⟨p,i,r0,rfl,hr0,hb⟩;rw [HMS.out,HCS.out] at hr0;obtain rfl:=hr0.2 HOK.out;have HB2:=Lq hb;have HR2:=Lq (HR.out.below hb);have e0:=HR2.out.plan.c 0;have e1:=HR2.out.plan.c 1;clear hr0 hb d0 d1;go_wp2_with fail
   refine (HTX2.out _ HB2.out).mono ?_;rintro e w3 ⟨rfl,hb⟩;have HR3:=Lq (HR2.out.below hb);have HPA3:=Lq (HPA.out.below (belowT HB2.out hb));clear hb e0 e1;go_wp2_with fail
   refine (must82_any _).mono ?_;rintro e w4 ⟨rfl,hw4⟩;subst hw4;have htt : t2 ≠ t3:=by have:=HTS.out; omega
   have qp:=HR3.out.plan;have qe:=HR3.out.err;obtain ⟨W6,hW6⟩:=ex (((w4.setCell ⟨t2,0,none⟩ (.slice A ms.length cap)).setCell ⟨t2,1,none⟩ (.slice C cs.length capc)).setCell ⟨t3,0,none⟩ (iv 0));have qp6 : Blk W6 t2 27 #[.slice A ms.length cap,.slice C cs.length capc]:=by rw [← hW6]; exact ((qp.set_ 0 _).set_ 1 _).far htt _
   have qe6 : Blk W6 t3 36 #[iv 0]:=by rw [← hW6]; exact ((qe.far (Ne.symm htt) _).far (Ne.symm htt) _).set_ 0 _
   have hb6 : BW w4 W6:=by
    refine ⟨by rw [← hW6]; rfl,by rw [← hW6]; rfl,by rw [← hW6]; rfl,by rw [← hW6]; simp,fun k hk=>?_⟩
    by_cases h2 : k = t2
    ·rw [h2]; exact qp6.trans qp.symm
    ·by_cases h3 : k = t3
     ·rw [h3]; exact qe6.trans qe.symm
     ·rw [← hW6,Below.heap_setCell _ _ _ _ h3,Below.heap_setCell _ _ _ _ h2,Below.heap_setCell _ _ _ _ h2]
   have d0:=qp.c 0;have d1:=qp.c 1;have f0:=qp.frozen 0;have f1:=qp.frozen 1;have l0:=qp.lt;have x0:=qe.c 0;have g0:=qe.frozen 0;have l1:=qe.lt;have y0:=qp6.c 0;have y1:=qp6.c 1;have y2:=qe6.c 0;have HPA6:=Lq (HPA3.out.below hb6);have HB6:=Lq (belowT HR3.out.bw hb6);clear qp qe qp6 qe6 hb6;go_wp2_with fail
   refine leaves_cons (f:=80) (args:=#[.pointer (some ⟨t2,0,none⟩),.pointer (some ⟨t3,0,none⟩)]) (by simp) (by simp [go_sem]) ?_
   refine (catch80_idle t2 t3 _).mono ?_;rintro e u' w'' ⟨rfl,rfl,rfl⟩;simp only [Leaves,settle];exact ⟨.tuple #[.agg #[.slice A ms.length cap,.slice C cs.length capc],iv 0],by simp [results,Tryz.results29,go_sem,y0,y1,y2],A,C,cap,capc,ms,cs,rfl,HPA6.out,HMS.out,HCS.out,HB6.out⟩
end
attribute [local go_sem] Oper.semAt_some
theorem words35_same (A B : Option Addr) (l : List ByteArray) (c c' : Nat) (w : World) (HA : Rd1 .string w w.heap.size A l) (HB : Rd1 .string w w.heap.size B l) (hl : l.length ≤ 1000000) :
  Calls Tryz.prog 35 #[.slice A l.length c,.slice B l.length c'] w (Rt w (.bool true)):=by
 have HSA : Hid (∀ W,BW w W → Rd1 .string W w.heap.size A l):=Lq fun W hb=>HA.below hb (Nat.le_refl _)
 have HSB : Hid (∀ W,BW w W → Rd1 .string W w.heap.size B l):=Lq fun W hb=>HB.below hb (Nat.le_refl _)
 clear HA HB;go_enter Tryz.func35,Tryz.ntmps35
 go_wp2_with fail
 go_loopw [5,6] (fun b i wr=>∃ k : Nat,k ≤ l.length ∧ i = iv k ∧ b = .bool true ∧ Hid (BW w wr)) (fun _ i _=>l.length - (intOf i).toNat)
 case atStart=>exact ⟨0,Nat.zero_le _,rfl,rfl,Lq (belowR _)⟩
 case round =>
  obtain ⟨k,hk,rfl,rfl,HBW⟩:=hrel;have hk0 : (0 : Int) ≤ (k : Int):=by omega
  have hkw : IntKind.i64.wrap ((k : Int) + 1) = (k : Int) + 1:=by rw [IntKind.wrap_i64]; omega
  by_cases hlt : k < l.length
  ·obtain ⟨x,hx⟩ : ∃ x,l[k]? = some x:=⟨_,List.getElem?_eq_getElem hlt⟩;have HS : Hid (∀ W,BW wr W → (∃ b o,A = some ⟨b,o,none⟩ ∧ W.cell? ⟨b,o + k,none⟩ = some (.string x)) ∧ (∃ b o,B = some ⟨b,o,none⟩ ∧ W.cell? ⟨b,o + k,none⟩ = some (.string x))):=Lq fun W hb=>by
    obtain ⟨b1,o1,e1,_,h1⟩:=HSA.out W (belowT HBW.out hb) k x hx;obtain ⟨b2,o2,e2,_,h2⟩:=HSB.out W (belowT HBW.out hb) k x hx;exact ⟨⟨b1,o1,e1,h1⟩,⟨b2,o2,e2,h2⟩⟩
   obtain ⟨⟨b1,o1,rfl,_⟩,⟨b2,o2,rfl,_⟩⟩:=HS.out wr (belowR _);have HS2 : Hid (∀ W,BW wr W → W.cell? ⟨b1,o1 + k,none⟩ = some (.string x) ∧ W.cell? ⟨b2,o2 + k,none⟩ = some (.string x)):=Lq fun W hb=>by
    obtain ⟨⟨_,_,e1,h1⟩,⟨_,_,e2,h2⟩⟩:=HS.out W hb;injection e1 with e1
    injection e1 with e11 e12
    injection e2 with e2
    injection e2 with e21 e22
    subst e11 e12 e21 e22;exact ⟨h1,h2⟩
   clear hx HS;go_wp2_with fail
   go_upto_region 5 with fail
   go_region_held3 (fun W=>W.cell? ⟨b1,o1 + k,none⟩ = some (.string x) ∧ W.cell? ⟨b2,o2 + k,none⟩ = some (.string x)) (first | exact HS2.out _ (belowDr (belowR _)) | exact HS2.out _ (belowDq (belowR _))) (first | fail)
   have HBD : Hid (BW w wr.drew):=Lq (belowT HBW.out (belowDq (belowR wr)));generalize wr.drew = wq at HBD ⊢;have hkl : k + 1 ≤ l.length:=hlt;go_wp2_with fail
   go_roundw
   case measure=>simp [intOf]; omega
   case rel=>exact ⟨k + 1,hkl,by go_num,rfl,HBD⟩
  ·obtain rfl : k = l.length:=by omega
   go_wp2_with fail
   go_ret
   exact ⟨rfl,HBW.out⟩
theorem ints36_same (A B : Option Addr) (l : List Int) (c c' : Nat) (w : World) (HA : Rd1 iv w w.heap.size A l) (HB : Rd1 iv w w.heap.size B l) (hl : l.length ≤ 1000000) :
  Calls Tryz.prog 36 #[.slice A l.length c,.slice B l.length c'] w (Rt w (.bool true)):=by
 have HSA : Hid (∀ W,BW w W → Rd1 iv W w.heap.size A l):=Lq fun W hb=>HA.below hb (Nat.le_refl _)
 have HSB : Hid (∀ W,BW w W → Rd1 iv W w.heap.size B l):=Lq fun W hb=>HB.below hb (Nat.le_refl _)
 clear HA HB;go_enter Tryz.func36,Tryz.ntmps36
 go_wp2_with fail
 go_loopw [5,6] (fun b i wr=>∃ k : Nat,k ≤ l.length ∧ i = iv k ∧ b = .bool true ∧ Hid (BW w wr)) (fun _ i _=>l.length - (intOf i).toNat)
 case atStart=>exact ⟨0,Nat.zero_le _,rfl,rfl,Lq (belowR _)⟩
 case round =>
  obtain ⟨k,hk,rfl,rfl,HBW⟩:=hrel;have hk0 : (0 : Int) ≤ (k : Int):=by omega
  have hkw : IntKind.i64.wrap ((k : Int) + 1) = (k : Int) + 1:=by rw [IntKind.wrap_i64]; omega
  by_cases hlt : k < l.length
  ·obtain ⟨x,hx⟩ : ∃ x,l[k]? = some x:=⟨_,List.getElem?_eq_getElem hlt⟩;have HS : Hid (∀ W,BW wr W → (∃ b o,A = some ⟨b,o,none⟩ ∧ W.cell? ⟨b,o + k,none⟩ = some (iv x)) ∧ (∃ b o,B = some ⟨b,o,none⟩ ∧ W.cell? ⟨b,o + k,none⟩ = some (iv x))):=Lq fun W hb=>by
    obtain ⟨b1,o1,e1,_,h1⟩:=HSA.out W (belowT HBW.out hb) k x hx;obtain ⟨b2,o2,e2,_,h2⟩:=HSB.out W (belowT HBW.out hb) k x hx;exact ⟨⟨b1,o1,e1,h1⟩,⟨b2,o2,e2,h2⟩⟩
   obtain ⟨⟨b1,o1,rfl,_⟩,⟨b2,o2,rfl,_⟩⟩:=HS.out wr (belowR _);have HS2 : Hid (∀ W,BW wr W → W.cell? ⟨b1,o1 + k,none⟩ = some (iv x) ∧ W.cell? ⟨b2,o2 + k,none⟩ = some (iv x)):=Lq fun W hb=>by
    obtain ⟨⟨_,_,e1,h1⟩,⟨_,_,e2,h2⟩⟩:=HS.out W hb;injection e1 with e1
    injection e1 with e11 e12
    injection e2 with e2
    injection e2 with e21 e22
    subst e11 e12 e21 e22;exact ⟨h1,h2⟩
   clear hx HS;go_wp2_with fail
   go_upto_region 5 with fail
   go_region_held3 (fun W=>W.cell? ⟨b1,o1 + k,none⟩ = some (iv x) ∧ W.cell? ⟨b2,o2 + k,none⟩ = some (iv x)) (first | exact HS2.out _ (belowDr (belowR _)) | exact HS2.out _ (belowDq (belowR _))) (first | fail)
   have HBD : Hid (BW w wr.drew):=Lq (belowT HBW.out (belowDq (belowR wr)));generalize wr.drew = wq at HBD ⊢;have hkl : k + 1 ≤ l.length:=hlt;go_wp2_with fail
   go_roundw
   case measure=>simp [intOf]; omega
   case rel=>exact ⟨k + 1,hkl,by go_num,rfl,HBD⟩
  ·obtain rfl : k = l.length:=by omega
   go_wp2_with fail
   go_ret
   exact ⟨rfl,HBW.out⟩
attribute [local go_sem] Oper.semAt_some
theorem equal87_same (pn : ByteArray) (pk pf pl pw pz : Int) (pon : List ByteArray) (A B : Option Addr) (c c' : Nat) (w : World) (HA : Rd1 .string w w.heap.size A pon) (HB : Rd1 .string w w.heap.size B pon) (hl : pon.length ≤ 1000000) :
  Calls Tryz.prog 87 #[.agg #[.string pn,iv pk,iv pf,iv pl,.slice A pon.length c,iv pw,iv pz],.agg #[.string pn,iv pk,iv pf,iv pl,.slice B pon.length c',iv pw,iv pz]] w (Rt w (.bool true)):=by
 obtain ⟨W1,hW1⟩:=ex (w.alloc (.cells #[.string pn,iv pk,iv pf,iv pl,.slice A pon.length c,iv pw,iv pz] 47));obtain ⟨W2,hW2⟩:=ex (W1.alloc (.cells #[.string pn,iv pk,iv pf,iv pl,.slice B pon.length c',iv pw,iv pz] 47));obtain ⟨g2,hg2⟩:=ex w.heap.size;obtain ⟨g3,hg3⟩:=ex W1.heap.size;have b1 : BW w W1:=by rw [← hW1]; exact belowA (belowR w) _
 have b2 : BW W1 W2:=by rw [← hW2]; exact belowA (belowR _) _
 have q1 : Blk W1 g2 47 #[.string pn,iv pk,iv pf,iv pl,.slice A pon.length c,iv pw,iv pz]:=by rw [← hW1,← hg2]; exact Blk.new w 47 _
 have q2 : Blk W2 g3 47 #[.string pn,iv pk,iv pf,iv pl,.slice B pon.length c',iv pw,iv pz]:=by rw [← hW2,← hg3]; exact Blk.new W1 47 _
 have q12:=q1.keep b2;obtain ⟨d0,d1,d2,d3,d4,d5,d6⟩:=q12.c7;obtain ⟨e0,e1,e2,e3,e4,e5,e6⟩:=q2.c7;have HBB:=Lq (belowT b1 b2);have HW:=Lq (words35_same A B pon c c' W2 ((HA.below (belowT b1 b2) (Nat.le_refl _)).more (belowT b1 b2).size) ((HB.below (belowT b1 b2) (Nat.le_refl _)).more (belowT b1 b2).size) hl);clear b1 b2 q1 q2 q12 HA HB hl;go_enter Tryz.func87,Tryz.ntmps87
 go_wp2_with fail
 refine HW.out.mono ?_;rintro e w3 ⟨rfl,hb⟩;have HB3:=Lq (belowT HBB.out hb);clear hb;go_wp2_with fail
 go_ret
 exact ⟨rfl,HB3.out⟩
attribute [local go_sem] Oper.semAt_some
theorem ships34_same (A B : Option Addr) (xs ys : List HuM) (c c' : Nat) (w : World) (HA : SlM w w.heap.size A c xs) (HB : SlM w w.heap.size B c' ys) (he : psOf xs = psOf ys) (hl : xs.length ≤ 1000) (hon : ∀ p ∈ psOf xs,p.on.length ≤ 1000000) :
  Calls Tryz.prog 34 #[.slice A xs.length c,.slice B ys.length c'] w (Rt w (.bool true)):=by
 have hll : ys.length = xs.length:=by have:=congrArg List.length he; simpa using this.symm
 have HSA:=Lq HA;have HSB:=Lq HB;have HE:=Lq he;have HON:=Lq hon;rw [hll];clear HA HB he hon;go_enter Tryz.func34,Tryz.ntmps34
 go_wp2_with fail
 go_loopw [5,6] (fun b i wr=>∃ k : Nat,k ≤ xs.length ∧ i = iv k ∧ b = .bool true ∧ Hid (BW w wr)) (fun _ i _=>xs.length - (intOf i).toNat)
 case atStart=>exact ⟨0,Nat.zero_le _,rfl,rfl,Lq (belowR _)⟩
 case round =>
  obtain ⟨k,hk,rfl,rfl,HBW⟩:=hrel;have hk0 : (0 : Int) ≤ (k : Int):=by omega
  have hkw : IntKind.i64.wrap ((k : Int) + 1) = (k : Int) + 1:=by rw [IntKind.wrap_i64]; omega
  by_cases hlt : k < xs.length
  ·obtain ⟨x,hx⟩ : ∃ x,xs[k]? = some x:=⟨_,List.getElem?_eq_getElem hlt⟩;obtain ⟨y,hy⟩ : ∃ y,ys[k]? = some y:=⟨_,List.getElem?_eq_getElem (by omega)⟩
   have hxy : x.p = y.p:=by
    have h1:=ps_at hx;have h2:=ps_at hy;rw [HE.out,h2] at h1;injection h1 with h1
    exact h1.symm
   have hxo:=HON.out x.p (List.mem_iff_getElem?.2 ⟨k,ps_at hx⟩);obtain ⟨xp,xA,xc⟩:=x;obtain ⟨yp,yA,yc⟩:=y;simp only at hxy hxo;subst hxy;obtain ⟨pn,pk,pf,pl,pon,pw,pz⟩:=xp;simp only at hxo;have hsa:=HSA.out.below HBW.out (Nat.le_refl _);have hsb:=HSB.out.below HBW.out (Nat.le_refl _);obtain ⟨b1,o1,rfl,hb1,hmx,a0,a1,a2,a3,a4,a5,a6⟩:=hsa.rd.at hx;obtain ⟨b2,o2,rfl,hb2,hmy,c0,c1,c2,c3,c4,c5,c6⟩:=hsb.rd.at hy;simp only at a0 a1 a2 a3 a4 a5 a6 c0 c1 c2 c3 c4 c5 c6 hmx hmy;have HS : Hid (∀ W,BW wr W → W.cell? ⟨b1,o1 + k * 7,none⟩ = some (.string pn) ∧ W.cell? ⟨b1,o1 + k * 7 + 1,none⟩ = some (iv pk) ∧ W.cell? ⟨b1,o1 + k * 7 + 2,none⟩ = some (iv pf) ∧ W.cell? ⟨b1,o1 + k * 7 + 3,none⟩ = some (iv pl) ∧ W.cell? ⟨b1,o1 + k * 7 + 4,none⟩ = some (.slice xA pon.length xc) ∧ W.cell? ⟨b1,o1 + k * 7 + 5,none⟩ = some (iv pw) ∧ W.cell? ⟨b1,o1 + k * 7 + 6,none⟩ = some (iv pz) ∧ W.cell? ⟨b2,o2 + k * 7,none⟩ = some (.string pn) ∧ W.cell? ⟨b2,o2 + k * 7 + 1,none⟩ = some (iv pk) ∧ W.cell? ⟨b2,o2 + k * 7 + 2,none⟩ = some (iv pf) ∧ W.cell? ⟨b2,o2 + k * 7 + 3,none⟩ = some (iv pl) ∧ W.cell? ⟨b2,o2 + k * 7 + 4,none⟩ = some (.slice yA pon.length yc) ∧ W.cell? ⟨b2,o2 + k * 7 + 5,none⟩ = some (iv pw) ∧ W.cell? ⟨b2,o2 + k * 7 + 6,none⟩ = some (iv pz)):=Lq fun W hb=>by
    have ka : ∀ {o : Nat} {v : Value},wr.cell? ⟨b1,o,none⟩ = some v → W.cell? ⟨b1,o,none⟩ = some v:=fun h=>(World.cell?_of_block (w:=wr) (a:=⟨b1,_,none⟩) (hb.block b1 (lt_of_cell h))).trans h
    have kb : ∀ {o : Nat} {v : Value},wr.cell? ⟨b2,o,none⟩ = some v → W.cell? ⟨b2,o,none⟩ = some v:=fun h=>(World.cell?_of_block (w:=wr) (a:=⟨b2,_,none⟩) (hb.block b2 (lt_of_cell h))).trans h
    exact ⟨ka a0,ka a1,ka a2,ka a3,ka a4,ka a5,ka a6,kb c0,kb c1,kb c2,kb c3,kb c4,kb c5,kb c6⟩
   have HEQ : Hid (∀ W,BW wr W → Calls Tryz.prog 87 #[.agg #[.string pn,iv pk,iv pf,iv pl,.slice xA pon.length xc,iv pw,iv pz],.agg #[.string pn,iv pk,iv pf,iv pl,.slice yA pon.length yc,iv pw,iv pz]] W (Rt W (.bool true))):=Lq fun W hb=>equal87_same pn pk pf pl pw pz pon xA yA xc yc W ((hmx.on.below hb HBW.out.size).more (Nat.le_trans HBW.out.size hb.size)) ((hmy.on.below hb HBW.out.size).more (Nat.le_trans HBW.out.size hb.size)) hxo
   clear hx hy hsa hsb hmx hmy a0 a1 a2 a3 a4 a5 a6 c0 c1 c2 c3 c4 c5 c6 hxo;go_wp2_with fail
   go_upto_region 5 with fail
   go_region_held3 (fun W=>W.cell? ⟨b1,o1 + k * 7,none⟩ = some (.string pn) ∧ W.cell? ⟨b1,o1 + k * 7 + 1,none⟩ = some (iv pk) ∧ W.cell? ⟨b1,o1 + k * 7 + 2,none⟩ = some (iv pf) ∧ W.cell? ⟨b1,o1 + k * 7 + 3,none⟩ = some (iv pl) ∧ W.cell? ⟨b1,o1 + k * 7 + 4,none⟩ = some (.slice xA pon.length xc) ∧ W.cell? ⟨b1,o1 + k * 7 + 5,none⟩ = some (iv pw) ∧ W.cell? ⟨b1,o1 + k * 7 + 6,none⟩ = some (iv pz) ∧ W.cell? ⟨b2,o2 + k * 7,none⟩ = some (.string pn) ∧ W.cell? ⟨b2,o2 + k * 7 + 1,none⟩ = some (iv pk) ∧ W.cell? ⟨b2,o2 + k * 7 + 2,none⟩ = some (iv pf) ∧ W.cell? ⟨b2,o2 + k * 7 + 3,none⟩ = some (iv pl) ∧ W.cell? ⟨b2,o2 + k * 7 + 4,none⟩ = some (.slice yA pon.length yc) ∧ W.cell? ⟨b2,o2 + k * 7 + 5,none⟩ = some (iv pw) ∧ W.cell? ⟨b2,o2 + k * 7 + 6,none⟩ = some (iv pz)) (first | exact HS.out _ (undrew0 hb7) | exact HS.out _ (belowDr (belowR _)) | exact HS.out _ (belowDq (belowR _))) (first | (go_at_call 87; ((with_reducible refine (HEQ.out _ (belowDr (belowR _))).mono ?_); rintro e w7 ⟨rfl,hb7⟩)))
   have HB7:=Lq (belowT HBW.out (undrew0 hb7));have hkl : k + 1 ≤ xs.length:=hlt;clear hb7;go_wp2_with fail
   go_roundw
   case measure=>simp [intOf]; omega
   case rel=>exact ⟨k + 1,hkl,by go_num,rfl,HB7⟩
  ·obtain rfl : k = xs.length:=by omega
   go_wp2_with fail
   go_ret
   exact ⟨rfl,HBW.out⟩
end Go.Proofs.YtpgfldcoojfheaaGreatDoor
