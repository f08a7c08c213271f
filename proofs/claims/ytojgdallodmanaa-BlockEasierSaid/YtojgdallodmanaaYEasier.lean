/- BlockEasier: the walk (printed by mkL2.py). -/
import Derived.Deep.DeepCutAuto
import Derived.Test.YtojgdallodmanaaZ654d27
import Derived.Test.YtojgdallodmanaaYReached
import Derived.Test.YtojgdallodmanaaZ9dec06
import Derived.Test.YtojgdallodmanaaZ49bf15
import Derived.Test.YtojgdallodmanaaYL1
namespace Go.Proofs.Ytojgdallodmanaa
open Go.RowKit

theorem encPrt_one1 : ∀ (x : Prt), ∀ u ∈ encPrt x, u.oneCell' = true := fun x u hu => by
  simp only [encPrt, List.mem_cons, List.not_mem_nil, or_false] at hu
  rcases hu with rfl | rfl | rfl <;> rfl
theorem HulRd.only {w w' : World} {B g : Nat} {h : Hul} {A J : Option Addr} {cap capJ : Nat} (ho : OnlyAt w w' g) (hg : B ≤ g) (H : HulRd w B h A cap J capJ) : HulRd w' B h A cap J capJ :=
  ⟨ho.rdN H.ps hg, ho.rdN H.js hg, H.pl, H.pm, H.jl, H.jm, H.nm⟩
theorem OnlyAt.belowB {a w w' : World} {g : Nat} (ho : OnlyAt a w g) (hb : Below a.heap.size w w') : OnlyAt a w' g :=
  ⟨hb.os.trans ho.os, hb.tape.trans ho.tape, hb.output.trans ho.output, Nat.le_trans ho.size hb.size, fun k hk hne => (hb.block k hk).trans (ho.block k hk hne)⟩

set_option maxRecDepth 100000 in
set_option maxHeartbeats 8000000 in
theorem easierLaw_any (h : Hul) (A J : Option Addr) (cap capJ : Nat) (AL : Option Addr) (l : List Wgh) (capL x0 x1 x2 B : Nat) (w : World)
    (hH : HulRd w B h A cap J capJ) (hL : RdN 3 encWgh w B AL l) (hlc : l.length ≤ capL) (hcm : capL ≤ maxLen) (hx0 : x0 ≤ 4294967295) (hx1 : x1 ≤ 4294967295) (hx2 : x2 ≤ 4294967295) (hB : B ≤ w.heap.size) :
    Calls Try.prog 14 #[hv h A cap J capJ, .slice AL l.length capL, .agg #[.int .u32 x0, .int .u32 x1, .int .u32 x2]] w fun e w' => e = .returned (.bool true) ∧ Below w.heap.size w w' := by
  obtain ⟨W1, hW1, hb1, hzz, p0, p1, p2, p3, p4⟩ := hulBox w h A cap J capJ
  obtain ⟨W2, hW2⟩ : ∃ W2, W1.alloc (.cells #[.int .u32 x0, .int .u32 x1, .int .u32 x2] 86) = W2 := ⟨_, rfl⟩
  have hb2 : Below W1.heap.size W1 W2 := by rw [← hW2]; exact belowA (belowR _) _
  have hq : Blk W2 W1.heap.size 86 #[.int .u32 x0, .int .u32 x1, .int .u32 x2] := by rw [← hW2]; exact Blk.new W1 86 _
  have q0 : W2.cell? ⟨W1.heap.size, 0, none⟩ = some (.int .u32 x0) := hq.cell 0
  have q1 : W2.cell? ⟨W1.heap.size, 1, none⟩ = some (.int .u32 x1) := hq.cell 1
  have q2 : W2.cell? ⟨W1.heap.size, 2, none⟩ = some (.int .u32 x2) := hq.cell 2
  have hb0 := belowT hb1 hb2
  have HKB : Hid (∀ W, Below W2.heap.size W2 W → W.cell? ⟨w.heap.size, 0, none⟩ = some (.slice A h.ps.length cap) ∧ W.cell? ⟨w.heap.size, 1, none⟩ = some (.slice J h.js.length capJ) ∧ W.cell? ⟨w.heap.size, 2, none⟩ = some (.int .i64 h.slo) ∧ W.cell? ⟨w.heap.size, 3, none⟩ = some (.int .i64 h.shi) ∧ W.cell? ⟨w.heap.size, 4, none⟩ = some (.int .i64 h.winch)) := Lib.hid fun W hb => ⟨keepC hb (keepC hb2 p0), keepC hb (keepC hb2 p1), keepC hb (keepC hb2 p2), keepC hb (keepC hb2 p3), keepC hb (keepC hb2 p4)⟩
  have HKP : Hid (∀ W, Below W2.heap.size W2 W → W.cell? ⟨W1.heap.size, 0, none⟩ = some (.int .u32 x0) ∧ W.cell? ⟨W1.heap.size, 1, none⟩ = some (.int .u32 x1) ∧ W.cell? ⟨W1.heap.size, 2, none⟩ = some (.int .u32 x2)) := Lib.hid fun W hb => ⟨keepC hb q0, keepC hb q1, keepC hb q2⟩
  have hBz : B ≤ W2.heap.size := Nat.le_trans hB hb0.size
  have HH := Lib.hid (hH.below hb0 hB)
  have HL := Lib.hid (hL.below hb0 hB)
  have HB0 := Lib.hid hb0
  have hlm : l.length ≤ maxLen := Nat.le_trans hlc hcm
  have HLC := Lib.hid hlc
  have HAW := Lib.hid awake_any
  have hwc := weighings_any h A J B cap capJ AL l capL W2 HH.out HL.out hlm hBz
  have HWC := Lib.hid hwc
  have hws : w.heap.size < W2.heap.size := Nat.lt_of_lt_of_le (lt_of_cell p0) hb2.size
  have hws1 : W1.heap.size < W2.heap.size := hq.lt
  clear hb0 hb1 hH hL hlc hcm hzz hwc hq
  obtain ⟨p0, p1, p2, p3, p4⟩ := HKB.out _ (belowR W2)
  by_cases hop : openE h l = 0
  case neg =>
    obtain ⟨E, hE⟩ : ∃ E, openE h l = E := ⟨_, rfl⟩
    rw [hE] at hop HWC
    have hcb : (E != 0) = true := by simpa using hop
    clear hE hop
    go_enter Try.func14, Try.ntmps14
    go_wp2_with fail
    refine HWC.out.mono ?_
    rintro e w1 ⟨rfl, hb3⟩
    have HB3 := Lib.hid hb3
    clear hb3 hW1 hW2 p0 p1 p2 p3 p4 q0 q1 q2 hb2
    go_wp2_with (go_at_call 24; refine (HAW.out _).mono ?_; rintro e w5 ⟨rfl, hb5⟩; have HB5 := Lib.hid (belowT HB3.out hb5); clear hb5)
    go_ret
    exact ⟨rfl, belowT HB0.out HB5.out⟩
  obtain ⟨hp, hf⟩ := openE_zero_iff hop
  have hr := pre_right hp
  have hn8 := hr.n8
  have hn1 := hr.n1
  have hw1 := hr.w1
  have hw2 := hr.w2
  have hs1 := hr.s1
  have hs2 := hr.s2
  have hs3 := hr.s3
  rw [hop] at HWC
  have HPS := Lib.hid hr.ps
  have HOP := Lib.hid hop
  have HPR := Lib.hid hp
  obtain ⟨d0, hd0⟩ : ∃ d, x0 % 1000 = d := ⟨_, rfl⟩
  obtain ⟨d1, hd1⟩ : ∃ d, x1 % 100 = d := ⟨_, rfl⟩
  obtain ⟨d2, hd2⟩ : ∃ d, x2 % 1000 = d := ⟨_, rfl⟩
  have hm0 : (x0 : Int) % 1000 = (d0 : Int) := by omega
  have hm1 : (x1 : Int) % 100 = (d1 : Int) := by omega
  have hm2 : (x2 : Int) % 1000 = (d2 : Int) := by omega
  have hd0 : d0 < 1000 := by omega
  have hd1 : d1 < 100 := by omega
  have hd2 : d2 < 1000 := by omega
  obtain ⟨LP, hLP⟩ : ∃ LP, h.ps.map (lightP d2) = LP := ⟨_, rfl⟩
  have HLP := Lib.hid hLP
  have HLL : Hid (LP.length = h.ps.length) := Lib.hid (by rw [← hLP, List.length_map])
  clear hp hf hop hr hLP
  go_enter Try.func14, Try.ntmps14
  go_wp2_with fail
  refine HWC.out.mono ?_
  rintro e w1 ⟨rfl, hb3⟩
  have HB3 := Lib.hid hb3
  clear hb3 hW1 hW2 p0 p1 p2 p3 p4 q0 q1 q2 hb2 HWC
  go_upto_region 3 with fail
  refine reg14_3 (fun W hb => HKB.out W (belowT HB3.out hb)) ?_
  intro g7 g8 g9 u27 u28 u29 wx H3
  obtain ⟨p0, p1, p2, p3, p4⟩ := HKB.out _ (belowT HB3.out H3.b)
  obtain ⟨q0, q1, q2⟩ := HKP.out _ (belowT HB3.out H3.b)
  have e74 : wx.cell? ⟨g7, 4, none⟩ = some (.int .i64 h.winch) := H3.b7.cell 4
  have f74 := H3.b7.frozen 4
  have n7 := H3.n7
  have n8 := H3.n8
  have n9 := H3.n9
  have d78 := H3.d78
  have d79 := H3.d79
  have d89 := H3.d89
  have l7 := H3.b7.lt
  have l8 := H3.b8.lt
  have l9 := H3.b9.lt
  have hz1 := HB3.out.size
  have hw3 : IntKind.i64.wrap (h.winch + (d0 : Int)) = h.winch + (d0 : Int) := wrap62 _ (by omega) (by omega)
  have H3 := Lib.hid H3
  obtain ⟨wa, hwa⟩ : ∃ wa, wx.setCell ⟨g7, 4, none⟩ (.int .i64 (min 10000000 (h.winch + (d0 : Int)))) = wa := ⟨_, rfl⟩
  have hba : Below w1.heap.size w1 wa := by rw [← hwa]; exact belowS H3.out.b n7 _
  have b7 : Blk wa g7 27 #[.slice A h.ps.length cap, .slice J h.js.length capJ, .int .i64 h.slo, .int .i64 h.shi, .int .i64 (min 10000000 (h.winch + (d0 : Int)))] := by rw [← hwa]; exact H3.out.b7.set_ 4 _
  have b8 : Blk wa g8 27 #[.slice A h.ps.length cap, .slice J h.js.length capJ, .int .i64 h.slo, .int .i64 h.shi, .int .i64 h.winch] := by rw [← hwa]; exact H3.out.b8.far (fun e => d78 e.symm) _
  have b9 : Blk wa g9 27 #[.slice A h.ps.length cap, .slice J h.js.length capJ, .int .i64 h.slo, .int .i64 h.shi, .int .i64 h.winch] := by rw [← hwa]; exact H3.out.b9.far (fun e => d79 e.symm) _
  have HBA := Lib.hid hba
  have B7 := Lib.hid b7
  have B8 := Lib.hid b8
  have B9 := Lib.hid b9
  have HWA := Lib.hid hwa
  have hw4 : IntKind.i64.wrap (h.shi - (d1 : Int)) = h.shi - (d1 : Int) := by rw [IntKind.wrap_i64]; omega
  clear hba b7 b8 b9 hwa
  go_wp2_with fail
  rw [HWA.out]
  refine (span_any _ _ _).mono ?_
  rintro e w2 ⟨rfl, hb2⟩
  have l7 := Nat.lt_of_lt_of_le B7.out.lt hb2.size
  have l8 := Nat.lt_of_lt_of_le B8.out.lt hb2.size
  have l9 := Nat.lt_of_lt_of_le B9.out.lt hb2.size
  have B7 := Lib.hid (B7.out.same (hb2.block _ B7.out.lt))
  have B8 := Lib.hid (B8.out.same (hb2.block _ B8.out.lt))
  have B9 := Lib.hid (B9.out.same (hb2.block _ B9.out.lt))
  have HB2 := Lib.hid (belowT HBA.out hb2)
  have c82 : w2.cell? ⟨g8, 2, none⟩ = some (.int .i64 h.slo) := B8.out.cell 2
  have c83 : w2.cell? ⟨g8, 3, none⟩ = some (.int .i64 h.shi) := B8.out.cell 3
  have f82 := B8.out.frozen 2
  have f83 := B8.out.frozen 3
  have c90 : w2.cell? ⟨g9, 0, none⟩ = some (.slice A h.ps.length cap) := B9.out.cell 0
  have f90 := B9.out.frozen 0
  clear hb2 HWA HBA p0 p1 p2 p3 p4 q0 q1 q2 e74 f74 hw3 hw4 H3
  obtain ⟨W5, hW5⟩ : ∃ W5, W5 = ((w2.setCell ⟨g8, 2, none⟩ (.int .i64 h.slo)).setCell ⟨g8, 3, none⟩ (.int .i64 (max h.slo (h.shi - (d1 : Int))))).setCell ⟨g9, 0, none⟩ (.slice none 0 0) := ⟨_, rfl⟩
  have hz5 : W5.heap.size = w2.heap.size := by rw [hW5]; simp
  have HB5 : Hid (Below w1.heap.size w1 W5) := Lib.hid (by rw [hW5]; exact belowS (belowS (belowS HB2.out n8 _) n8 _) n9 _)
  have S7 : Hid (Blk W5 g7 27 #[.slice A h.ps.length cap, .slice J h.js.length capJ, .int .i64 h.slo, .int .i64 h.shi, .int .i64 (min 10000000 (h.winch + (d0 : Int)))]) := Lib.hid (by rw [hW5]; exact ((B7.out.far d78 _).far d78 _).far d79 _)
  have S8 : Hid (Blk W5 g8 27 #[.slice A h.ps.length cap, .slice J h.js.length capJ, .int .i64 h.slo, .int .i64 (max h.slo (h.shi - (d1 : Int))), .int .i64 h.winch]) := Lib.hid (by rw [hW5]; exact ((B8.out.set_ 2 _).set_ 3 _).far d89 _)
  have S9 : Hid (Blk W5 g9 27 #[.slice none 0 0, .slice J h.js.length capJ, .int .i64 h.slo, .int .i64 h.shi, .int .i64 h.winch]) := Lib.hid (by rw [hW5]; exact (((B9.out.far (fun e => d89 e.symm) _).far (fun e => d89 e.symm) _).set_ 0 _))
  have HW5 := Lib.hid hW5
  have hg9 : g9 < W5.heap.size := by rw [hz5]; exact l9
  have hg7 : g7 < W5.heap.size := by rw [hz5]; exact l7
  have hg8 : g8 < W5.heap.size := by rw [hz5]; exact l8
  obtain ⟨i67, hi67, hz670, hz671, hz672⟩ := info_parts Try.info67
  have hBg : B ≤ g9 := by omega
  clear hW5 hz5
  go_wp2_with fail
  go_loopw [10] (fun vi wr => ∃ (k : Nat) (A9 : Option Addr) (c9 : Nat), k ≤ h.ps.length ∧ vi = .int .i64 k ∧ Hid (OnlyAt W5 wr g9) ∧ Hid (Blk wr g9 27 #[.slice A9 k c9, .slice J h.js.length capJ, .int .i64 h.slo, .int .i64 h.shi, .int .i64 h.winch]) ∧ Hid (wr.ownsRow W5.heap.size 67 3 (.slice A9 k c9) k ((LP.take k).flatMap encPrt))) (fun vi _ => h.ps.length - (intOf vi).toNat)
  case atStart => exact ⟨0, none, 0, Nat.zero_le _, rfl, Lib.hid (by rw [HW5.out]; exact OnlyAt.refl _ _), Lib.hid (by have := S9.out; rw [HW5.out] at this; exact this), Lib.hid (World.ownsRow_nil _ _ _ _)⟩
  case round =>
    obtain ⟨k, A9, c9, hk, rfl, HON, HK9, HOR⟩ := hrel
    have HB6 : Hid (Below w1.heap.size w1 wr) := Lib.hid (HON.out.below HB5.out n9)
    have c9l := HK9.out.lt
    have c90 : wr.cell? ⟨g9, 0, none⟩ = some (.slice A9 k c9) := HK9.out.cell 0
    obtain ⟨p0, p1, p2, p3, p4⟩ := HKB.out _ (belowT HB3.out HB6.out)
    obtain ⟨q0, q1, q2⟩ := HKP.out _ (belowT HB3.out HB6.out)
    by_cases hlt : k < h.ps.length
    · obtain ⟨x, hx⟩ : ∃ x, h.ps[k]? = some x := ⟨_, List.getElem?_eq_getElem hlt⟩
      obtain ⟨bp, op, hAe, hbp, e0, e1, e2⟩ := prtAt (HH.out.ps.below (belowT HB3.out HB6.out) hBz) hx
      have hxo := HPS.out x (List.mem_of_getElem? hx)
      have hx0 := hxo.1
      have hx1 := hxo.2.1
      have hx2 := hxo.2.2
      have hwl : IntKind.i64.wrap (x.lo - (d2 : Int)) = x.lo - (d2 : Int) := by rw [IntKind.wrap_i64]; omega
      have hwh : IntKind.i64.wrap (x.hi - (d2 : Int)) = x.hi - (d2 : Int) := by rw [IntKind.wrap_i64]; omega
      have hkz : (k : Int) < (h.ps.length : Int) := by omega
      have hne9 : g9 ≠ wr.heap.size := by omega
      have hltW : W1.heap.size < wr.heap.size := by have := HB6.out.size; omega
      have hTK : (LP.take (k + 1)).flatMap encPrt = (LP.take k).flatMap encPrt ++ encPrt (lightP d2 x) := by
        have hx' : LP[k]? = some (lightP d2 x) := by rw [← HLP.out, List.getElem?_map, hx]; rfl
        obtain ⟨h1, h2⟩ := List.getElem?_eq_some_iff.1 hx'
        rw [List.take_succ_eq_append_getElem h1, h2, List.flatMap_append]
        simp
      have HTK := Lib.hid hTK
      have HSP : Hid (∀ (a b : Int) (W : World), Below wr.heap.size wr W → Blk W wr.heap.size 67 #[.string x.name, iv x.lo, iv x.hi] → Calls Try.prog 38 #[.int .i64 a, .int .i64 b] W fun e w' => e = .returned (.agg #[.int .i64 a, .int .i64 b]) ∧ Below wr.heap.size wr w' ∧ Blk w' wr.heap.size 67 #[.string x.name, iv x.lo, iv x.hi]) := Lib.hid fun a b W h1 h2 => (span_any a b W).mono fun e w' hh => ⟨hh.1, belowT h1 hh.2, h2.same (hh.2.block _ h2.lt)⟩
      obtain ⟨AA, hAA⟩ : ∃ AA : Value, Value.slice A h.ps.length cap = AA := ⟨_, rfl⟩
      subst hAe
      clear hTK hx hxo hAA
      go_wp2_with fail
      refine (HSP.out _ _ _ ?hb ?hk).mono ?_
      case hb => exact belowA (belowR _) _
      case hk => exact Blk.new wr 67 _
      rintro e w3 ⟨rfl, hb3, hk3⟩
      have HK3 := Lib.hid hk3
      have k9' := HK9.out.same (hb3.block _ HK9.out.lt)
      have HK93 := Lib.hid k9'
      have c90 : w3.cell? ⟨g9, 0, none⟩ = some (.slice A9 k c9) := k9'.cell 0
      have s0 : w3.cell? ⟨wr.heap.size, 0, none⟩ = some (.string x.name) := hk3.cell 0
      have s1 : w3.cell? ⟨wr.heap.size, 1, none⟩ = some (iv x.lo) := hk3.cell 1
      have s2 : w3.cell? ⟨wr.heap.size, 2, none⟩ = some (iv x.hi) := hk3.cell 2
      have t1 := hk3.frozen 1
      have t2 := hk3.frozen 2
      have HB33 := Lib.hid hb3
      have hz3 := hb3.size
      have hor : (((w3.setCell ⟨wr.heap.size, 1, none⟩ (.int .i64 (max 0 (x.lo - (d2 : Int))))).setCell ⟨wr.heap.size, 2, none⟩ (.int .i64 (max 0 (x.hi - (d2 : Int))))).alloc (.cells #[.string x.name, .int .i64 (max 0 (x.lo - (d2 : Int))), .int .i64 (max 0 (x.hi - (d2 : Int)))] 67)).ownsRow W5.heap.size 67 3 (.slice A9 k c9) k ((LP.take k).flatMap encPrt) := by
        refine World.ownsRow.alloc ?_ _
        refine ownKeep (own_below HOR.out hb3) fun g hg => ?_
        have := (HOR.out.lt g hg).2
        rw [Below.heap_setCell _ _ _ g (by simp only; omega), Below.heap_setCell _ _ _ g (by simp only; omega)]
      have HAL := Lib.hid hor
      clear hor k9' hk3 hb3 HSP HK9 HOR
      go_wp2_with (at_builtin; refine wpList_append_own _ rfl _ _ 22 rfl W5.heap.size 67 i67 (.agg #[.string ⟨#[]⟩, .int .i64 0, .int .i64 0]) 3 32 Try.underlying22 hi67 hz670 hz671 hz672 rfl (by decide) _ _ _ rfl HAL.out ⟨w3.heap.size, 0, none⟩ 1 1 (encPrt (lightP d2 x)) rfl rfl ?d1 ?d2 ?d3 ?d4 ?d5 ?_)
      case d1 => intro j u hu; rcases j with _ | _ | _ | j <;> simp [encPrt, lightP] at hu <;> subst hu <;> go_simp
      case d2 => exact encPrt_one1 _
      case d3 => unfold maxLen; omega
      case d4 => omega
      case d5 => have := HON.out.size; simp only [World.size_alloc, World.size_setCell]; omega
      intro v10 w10 hown10 hg10 _
      have hw0 : OnlyAt W5 (((w3.setCell ⟨wr.heap.size, 1, none⟩ (.int .i64 (max 0 (x.lo - (d2 : Int))))).setCell ⟨wr.heap.size, 2, none⟩ (.int .i64 (max 0 (x.hi - (d2 : Int))))).alloc (.cells #[.string x.name, .int .i64 (max 0 (x.lo - (d2 : Int))), .int .i64 (max 0 (x.hi - (d2 : Int)))] 67)) g9 :=
        (HON.out.trans (OnlyAt.of_below (belowA (belowS (belowS HB33.out (Nat.le_refl _) _) (Nat.le_refl _) _) _) g9))
      have hon10 := hw0.grown HAL.out hg10 (Nat.le_refl _)
      have hk0 : Blk (((w3.setCell ⟨wr.heap.size, 1, none⟩ (.int .i64 (max 0 (x.lo - (d2 : Int))))).setCell ⟨wr.heap.size, 2, none⟩ (.int .i64 (max 0 (x.hi - (d2 : Int))))).alloc (.cells #[.string x.name, .int .i64 (max 0 (x.lo - (d2 : Int))), .int .i64 (max 0 (x.hi - (d2 : Int)))] 67)) g9 27 #[.slice A9 k c9, .slice J h.js.length capJ, .int .i64 h.slo, .int .i64 h.shi, .int .i64 h.winch] :=
        ((HK93.out.far hne9 _).far hne9 _).alloc _
      have hk10 := hk0.grown hg10 (own_ne HAL.out hk0 (by decide))
      have c90 : w10.cell? ⟨g9, 0, none⟩ = some (.slice A9 k c9) := hk10.cell 0
      have f90 := hk10.frozen 0
      have hl10 := hk10.lt
      have hlen : (LP.take (k + 1)).length = k + 1 := by rw [List.length_take, HLL.out]; omega
      have hown10 : w10.ownsRow W5.heap.size 67 3 v10 (k + 1) ((LP.take (k + 1)).flatMap encPrt) := by rw [HTK.out]; exact hown10
      obtain ⟨A10, c10, hv10⟩ : ∃ A10 c10, v10 = .slice A10 (k + 1) c10 := by
        have h2 : w10.ownsRow W5.heap.size 67 3 v10 (LP.take (k + 1)).length ((LP.take (k + 1)).flatMap encPrt) := by rw [hlen]; exact hown10
        obtain ⟨A5, cap5, e5, _⟩ := own_rdN encPrt_len h2
        exact ⟨A5, cap5, by rw [e5, hlen]⟩
      subst hv10
      have HK10 : Hid (Blk (w10.setCell ⟨g9, 0, none⟩ (.slice A10 (k + 1) c10)) g9 27 #[.slice A10 (k + 1) c10, .slice J h.js.length capJ, .int .i64 h.slo, .int .i64 h.shi, .int .i64 h.winch]) := Lib.hid (hk10.set_ 0 _)
      have HON10 := Lib.hid (hon10.set 0 (.slice A10 (k + 1) c10))
      have HOW10 := Lib.hid (own_only hown10 ((OnlyAt.refl w10 g9).set 0 (.slice A10 (k + 1) c10)) hg9)
      clear hw0 hon10 hk0 hk10 hown10 hg10 HAL HK93 HK3 s0 s1 s2 t1 t2
      go_wp2_with fail
      go_roundw
      case rel => exact ⟨k + 1, A10, c10, by omega, by go_num, HON10, HK10, HOW10⟩
      case measure => simp [intOf]; omega
    · obtain rfl : k = h.ps.length := by omega
      have HBV := Lib.hid (belowT HB3.out HB6.out)
      have HHV := Lib.hid ((HH.out.below HBV.out hBz).more (Nat.le_trans hBz HBV.out.size))
      have HLV := Lib.hid ((HL.out.below HBV.out hBz).more (Nat.le_trans hBz HBV.out.size))
      have hLt : LP.take h.ps.length = LP := by rw [← HLL.out, List.take_length]
      obtain ⟨A9', c9', hv9, hr9⟩ := RowR.of_own (xs := LP) encPrt_len HOR.out HLL.out.symm (by rw [hLt]) (by rw [HLL.out]; exact hn1)
      injection hv9 with hv91 hv92 hv93
      subst hv91 hv93
      clear hv92
      have h1 : ∀ V, Below wr.heap.size wr V → HulRd V wr.heap.size h A cap J capJ := fun V hb => HHV.out.below hb (Nat.le_refl _)
      have h2 : ∀ V, Below wr.heap.size wr V → HulRd V wr.heap.size (strongH h d0) A cap J capJ := fun V hb => ⟨(h1 V hb).ps, (h1 V hb).js, (h1 V hb).pl, (h1 V hb).pm, (h1 V hb).jl, (h1 V hb).jm, (h1 V hb).nm⟩
      have h3 : ∀ V, Below wr.heap.size wr V → HulRd V wr.heap.size (dryH h d1) A cap J capJ := fun V hb => ⟨(h1 V hb).ps, (h1 V hb).js, (h1 V hb).pl, (h1 V hb).pm, (h1 V hb).jl, (h1 V hb).jm, (h1 V hb).nm⟩
      have hLE : (lightH h d2).ps = LP := HLP.out
      have h5 : ∀ V, Below wr.heap.size wr V → HulRd V wr.heap.size (lightH h d2) A9 c9 J capJ := fun V hb => ⟨by rw [hLE]; exact hr9.rd.below hb (Nat.le_refl _), (h1 V hb).js, by rw [hLE]; exact hr9.le, hr9.max, (h1 V hb).jl, (h1 V hb).jm, fun p hp => by
        obtain ⟨q, hq, rfl⟩ := List.mem_map.1 hp
        exact (h1 V hb).nm q hq⟩
      have o2 : openE (strongH h d0) l = 0 := openE_zero (strong_pre HPR.out) (feas_ps (h := h) rfl (openE_zero_iff HOP.out).2)
      have o3 : openE (dryH h d1) l = 0 := openE_zero (dry_pre HPR.out) (feas_ps (h := h) rfl (openE_zero_iff HOP.out).2)
      have o4 : openE h [] = 0 := openE_zero (pre_nil HPR.out) (feas_nil HPR.out)
      have o5 : openE (lightH h d2) [] = 0 := openE_zero (pre_nil (light_pre HPR.out)) (feas_nil (light_pre HPR.out))
      have f1 : ∀ V, Below wr.heap.size wr V → Calls Try.prog 30 #[.agg #[.slice A h.ps.length cap, .slice J h.js.length capJ, .int .i64 h.slo, .int .i64 h.shi, .int .i64 h.winch], .slice AL l.length capL] V fun e w' => Below V.heap.size V w' ∧ ∃ (q : List Nat) (E : Int) (A : Option Addr) (c : Nat), e = .returned (.tuple #[.slice A q.length c, iv E]) ∧ Rd1 nv w' w'.heap.size A q ∧ q.length ≤ 8 ∧ (∀ x ∈ q, x < 8) ∧ FewFact h l q E := fun V hb => (fewest_any h A J wr.heap.size cap capJ AL l capL V (h1 V hb) (HLV.out.below hb (Nat.le_refl _)) HLC.out hb.size).mono fun e w' hp => fewFact HOP.out hp
      have f2 : ∀ V, Below wr.heap.size wr V → Calls Try.prog 30 #[.agg #[.slice A h.ps.length cap, .slice J h.js.length capJ, .int .i64 h.slo, .int .i64 h.shi, .int .i64 (min 10000000 (h.winch + (d0 : Int)))], .slice AL l.length capL] V fun e w' => Below V.heap.size V w' ∧ ∃ (q : List Nat) (E : Int) (A : Option Addr) (c : Nat), e = .returned (.tuple #[.slice A q.length c, iv E]) ∧ Rd1 nv w' w'.heap.size A q ∧ q.length ≤ 8 ∧ (∀ x ∈ q, x < 8) ∧ FewFact (strongH h d0) l q E := fun V hb => (fewest_any (strongH h d0) A J wr.heap.size cap capJ AL l capL V (h2 V hb) (HLV.out.below hb (Nat.le_refl _)) HLC.out hb.size).mono fun e w' hp => fewFact o2 hp
      have f3 : ∀ V, Below wr.heap.size wr V → Calls Try.prog 30 #[.agg #[.slice A h.ps.length cap, .slice J h.js.length capJ, .int .i64 h.slo, .int .i64 (max h.slo (h.shi - (d1 : Int))), .int .i64 h.winch], .slice AL l.length capL] V fun e w' => Below V.heap.size V w' ∧ ∃ (q : List Nat) (E : Int) (A : Option Addr) (c : Nat), e = .returned (.tuple #[.slice A q.length c, iv E]) ∧ Rd1 nv w' w'.heap.size A q ∧ q.length ≤ 8 ∧ (∀ x ∈ q, x < 8) ∧ FewFact (dryH h d1) l q E := fun V hb => (fewest_any (dryH h d1) A J wr.heap.size cap capJ AL l capL V (h3 V hb) (HLV.out.below hb (Nat.le_refl _)) HLC.out hb.size).mono fun e w' hp => fewFact o3 hp
      have f4 : ∀ V, Below wr.heap.size wr V → Calls Try.prog 30 #[.agg #[.slice A h.ps.length cap, .slice J h.js.length capJ, .int .i64 h.slo, .int .i64 h.shi, .int .i64 h.winch], .slice none 0 0] V fun e w' => Below V.heap.size V w' ∧ ∃ (q : List Nat) (E : Int) (A : Option Addr) (c : Nat), e = .returned (.tuple #[.slice A q.length c, iv E]) ∧ Rd1 nv w' w'.heap.size A q ∧ q.length ≤ 8 ∧ (∀ x ∈ q, x < 8) ∧ FewFact h [] q E := fun V hb => (fewest_any h A J wr.heap.size cap capJ none [] 0 V (h1 V hb) RdN.nil (Nat.le_refl _) hb.size).mono fun e w' hp => fewFact o4 hp
      have f5 : ∀ V, Below wr.heap.size wr V → Calls Try.prog 30 #[.agg #[.slice A9 h.ps.length c9, .slice J h.js.length capJ, .int .i64 h.slo, .int .i64 h.shi, .int .i64 h.winch], .slice none 0 0] V fun e w' => Below V.heap.size V w' ∧ ∃ (q : List Nat) (E : Int) (A : Option Addr) (c : Nat), e = .returned (.tuple #[.slice A q.length c, iv E]) ∧ Rd1 nv w' w'.heap.size A q ∧ q.length ≤ 8 ∧ (∀ x ∈ q, x < 8) ∧ FewFact (lightH h d2) [] q E := fun V hb => by
        have hl5 : (lightH h d2).ps.length = h.ps.length := List.length_map ..
        have := (fewest_any (lightH h d2) A9 J wr.heap.size c9 capJ none [] 0 V (h5 V hb) RdN.nil (Nat.le_refl _) hb.size).mono fun e w' hp => fewFact o5 hp
        unfold hv at this
        rw [hl5] at this
        exact this
      have T7 : Hid (Blk wr g7 27 #[.slice A h.ps.length cap, .slice J h.js.length capJ, .int .i64 h.slo, .int .i64 h.shi, .int .i64 (min 10000000 (h.winch + (d0 : Int)))]) := Lib.hid (S7.out.same (HON.out.block _ hg7 d79))
      have T8 : Hid (Blk wr g8 27 #[.slice A h.ps.length cap, .slice J h.js.length capJ, .int .i64 h.slo, .int .i64 (max h.slo (h.shi - (d1 : Int))), .int .i64 h.winch]) := Lib.hid (S8.out.same (HON.out.block _ hg8 d89))
      have K2 : Hid (∀ V, Below wr.heap.size wr V → V.cell? ⟨g7, 0, none⟩ = some (.slice A h.ps.length cap) ∧ V.cell? ⟨g7, 1, none⟩ = some (.slice J h.js.length capJ) ∧ V.cell? ⟨g7, 2, none⟩ = some (.int .i64 h.slo) ∧ V.cell? ⟨g7, 3, none⟩ = some (.int .i64 h.shi) ∧ V.cell? ⟨g7, 4, none⟩ = some (.int .i64 (min 10000000 (h.winch + (d0 : Int))))) := Lib.hid fun V hb => by
        have := T7.out.same (hb.block _ T7.out.lt)
        exact ⟨this.cell 0, this.cell 1, this.cell 2, this.cell 3, this.cell 4⟩
      have K3 : Hid (∀ V, Below wr.heap.size wr V → V.cell? ⟨g8, 0, none⟩ = some (.slice A h.ps.length cap) ∧ V.cell? ⟨g8, 1, none⟩ = some (.slice J h.js.length capJ) ∧ V.cell? ⟨g8, 2, none⟩ = some (.int .i64 h.slo) ∧ V.cell? ⟨g8, 3, none⟩ = some (.int .i64 (max h.slo (h.shi - (d1 : Int)))) ∧ V.cell? ⟨g8, 4, none⟩ = some (.int .i64 h.winch)) := Lib.hid fun V hb => by
        have := T8.out.same (hb.block _ T8.out.lt)
        exact ⟨this.cell 0, this.cell 1, this.cell 2, this.cell 3, this.cell 4⟩
      have K5 : Hid (∀ V, Below wr.heap.size wr V → V.cell? ⟨g9, 0, none⟩ = some (.slice A9 h.ps.length c9) ∧ V.cell? ⟨g9, 1, none⟩ = some (.slice J h.js.length capJ) ∧ V.cell? ⟨g9, 2, none⟩ = some (.int .i64 h.slo) ∧ V.cell? ⟨g9, 3, none⟩ = some (.int .i64 h.shi) ∧ V.cell? ⟨g9, 4, none⟩ = some (.int .i64 h.winch)) := Lib.hid fun V hb => by
        have := HK9.out.same (hb.block _ HK9.out.lt)
        exact ⟨this.cell 0, this.cell 1, this.cell 2, this.cell 3, this.cell 4⟩
      have K1 : Hid (∀ V, Below wr.heap.size wr V → V.cell? ⟨w.heap.size, 0, none⟩ = some (.slice A h.ps.length cap) ∧ V.cell? ⟨w.heap.size, 1, none⟩ = some (.slice J h.js.length capJ) ∧ V.cell? ⟨w.heap.size, 2, none⟩ = some (.int .i64 h.slo) ∧ V.cell? ⟨w.heap.size, 3, none⟩ = some (.int .i64 h.shi) ∧ V.cell? ⟨w.heap.size, 4, none⟩ = some (.int .i64 h.winch)) := Lib.hid fun V hb => HKB.out V (belowT HBV.out hb)
      have F1 := Lib.hid f1
      have F2 := Lib.hid f2
      have F3 := Lib.hid f3
      have F4 := Lib.hid f4
      have F5 := Lib.hid f5
      clear h1 h2 h3 h5 hLE o2 o3 o4 o5 f1 f2 f3 f4 f5 hr9 hLt hlt c90 q0 q1 q2
      clear p0 p1 p2 p3 p4
      obtain ⟨p0, p1, p2, p3, p4⟩ := K1.out _ (belowR wr)
      go_wp2_with fail
      refine (F1.out _ (belowR wr)).mono ?_
      rintro e v1 ⟨hb, q1, E1, Q1, r1, rfl, hrd, hq8, hx8, hff⟩
      have B1 := Lib.hid (hb)
      have D1 := Lib.hid hb
      have R1 := Lib.hid hrd
      have X1 := Lib.hid (And.intro hq8 (And.intro hx8 hff))
      clear hb hrd hq8 hx8 hff p0 p1 p2 p3 p4
      obtain ⟨p0, p1, p2, p3, p4⟩ := K2.out _ B1.out
      go_wp2_with fail
      refine (F2.out _ B1.out).mono ?_
      rintro e v2 ⟨hb, q2, E2, Q2, r2, rfl, hrd, hq8, hx8, hff⟩
      have B2 := Lib.hid (belowT B1.out hb)
      have D2 := Lib.hid hb
      have R2 := Lib.hid hrd
      have X2 := Lib.hid (And.intro hq8 (And.intro hx8 hff))
      clear hb hrd hq8 hx8 hff p0 p1 p2 p3 p4
      obtain ⟨p0, p1, p2, p3, p4⟩ := K3.out _ B2.out
      go_wp2_with fail
      refine (F3.out _ B2.out).mono ?_
      rintro e v3 ⟨hb, q3, E3, Q3, r3, rfl, hrd, hq8, hx8, hff⟩
      have B3 := Lib.hid (belowT B2.out hb)
      have D3 := Lib.hid hb
      have R3 := Lib.hid hrd
      have X3 := Lib.hid (And.intro hq8 (And.intro hx8 hff))
      clear hb hrd hq8 hx8 hff p0 p1 p2 p3 p4
      obtain ⟨p0, p1, p2, p3, p4⟩ := K1.out _ B3.out
      go_wp2_with fail
      refine (F4.out _ B3.out).mono ?_
      rintro e v4 ⟨hb, q4, E4, Q4, r4, rfl, hrd, hq8, hx8, hff⟩
      have B4 := Lib.hid (belowT B3.out hb)
      have D4 := Lib.hid hb
      have R4 := Lib.hid hrd
      have X4 := Lib.hid (And.intro hq8 (And.intro hx8 hff))
      clear hb hrd hq8 hx8 hff p0 p1 p2 p3 p4
      obtain ⟨p0, p1, p2, p3, p4⟩ := K5.out _ B4.out
      go_wp2_with fail
      refine (F5.out _ B4.out).mono ?_
      rintro e v5 ⟨hb, q5, E5, Q5, r5, rfl, hrd, hq8, hx8, hff⟩
      have B5 := Lib.hid (belowT B4.out hb)
      have D5 := Lib.hid hb
      have R5 := Lib.hid hrd
      have X5 := Lib.hid (And.intro hq8 (And.intro hx8 hff))
      clear hb hrd hq8 hx8 hff p0 p1 p2 p3 p4
      have G5 := Lib.hid (belowR v5)
      have G4 := Lib.hid D5.out
      have G3 := Lib.hid (belowT D4.out G4.out)
      have G2 := Lib.hid (belowT D3.out G3.out)
      have G1 := Lib.hid (belowT D2.out G2.out)
      have hlaw := easier_facts HOP.out X1.out.2.2 X2.out.2.2 X3.out.2.2 X4.out.2.2 X5.out.2.2
      have m1 : ∀ V, Below v5.heap.size v5 V → Calls Try.prog 52 #[.slice Q1 q1.length r1] V fun e w' => e = .returned (iv (manyTo q1 q1.length : Nat)) ∧ Below V.heap.size V w' := fun V hb => blocks52_any v5.heap.size Q1 q1 r1 V (by have := X1.out.1; omega) (fun x hx => by have := X1.out.2.1 x hx; omega) (((R1.out.below G1.out (Nat.le_refl _)).more G1.out.size).below hb (Nat.le_refl _)) hb.size
      obtain ⟨M1, hM1⟩ : ∃ M, manyTo q1 q1.length = M := ⟨_, rfl⟩
      rw [hM1] at m1 hlaw
      have HM1 := Lib.hid m1
      have m2 : ∀ V, Below v5.heap.size v5 V → Calls Try.prog 52 #[.slice Q2 q2.length r2] V fun e w' => e = .returned (iv (manyTo q2 q2.length : Nat)) ∧ Below V.heap.size V w' := fun V hb => blocks52_any v5.heap.size Q2 q2 r2 V (by have := X2.out.1; omega) (fun x hx => by have := X2.out.2.1 x hx; omega) (((R2.out.below G2.out (Nat.le_refl _)).more G2.out.size).below hb (Nat.le_refl _)) hb.size
      obtain ⟨M2, hM2⟩ : ∃ M, manyTo q2 q2.length = M := ⟨_, rfl⟩
      rw [hM2] at m2 hlaw
      have HM2 := Lib.hid m2
      have m3 : ∀ V, Below v5.heap.size v5 V → Calls Try.prog 52 #[.slice Q3 q3.length r3] V fun e w' => e = .returned (iv (manyTo q3 q3.length : Nat)) ∧ Below V.heap.size V w' := fun V hb => blocks52_any v5.heap.size Q3 q3 r3 V (by have := X3.out.1; omega) (fun x hx => by have := X3.out.2.1 x hx; omega) (((R3.out.below G3.out (Nat.le_refl _)).more G3.out.size).below hb (Nat.le_refl _)) hb.size
      obtain ⟨M3, hM3⟩ : ∃ M, manyTo q3 q3.length = M := ⟨_, rfl⟩
      rw [hM3] at m3 hlaw
      have HM3 := Lib.hid m3
      have m4 : ∀ V, Below v5.heap.size v5 V → Calls Try.prog 52 #[.slice Q4 q4.length r4] V fun e w' => e = .returned (iv (manyTo q4 q4.length : Nat)) ∧ Below V.heap.size V w' := fun V hb => blocks52_any v5.heap.size Q4 q4 r4 V (by have := X4.out.1; omega) (fun x hx => by have := X4.out.2.1 x hx; omega) (((R4.out.below G4.out (Nat.le_refl _)).more G4.out.size).below hb (Nat.le_refl _)) hb.size
      obtain ⟨M4, hM4⟩ : ∃ M, manyTo q4 q4.length = M := ⟨_, rfl⟩
      rw [hM4] at m4 hlaw
      have HM4 := Lib.hid m4
      have m5 : ∀ V, Below v5.heap.size v5 V → Calls Try.prog 52 #[.slice Q5 q5.length r5] V fun e w' => e = .returned (iv (manyTo q5 q5.length : Nat)) ∧ Below V.heap.size V w' := fun V hb => blocks52_any v5.heap.size Q5 q5 r5 V (by have := X5.out.1; omega) (fun x hx => by have := X5.out.2.1 x hx; omega) (R5.out.below hb (Nat.le_refl _)) hb.size
      obtain ⟨M5, hM5⟩ : ∃ M, manyTo q5 q5.length = M := ⟨_, rfl⟩
      rw [hM5] at m5 hlaw
      have HM5 := Lib.hid m5
      have e1 := X1.out.2.2.err
      have e4 := X4.out.2.2.err
      have LAW := Lib.hid hlaw
      clear hlaw m1 hM1 m2 hM2 m3 hM3 m4 hM4 m5 hM5
      rcases e1 with rfl | rfl
      · obtain ⟨rfl, rfl, l2, l3⟩ := LAW.out.1 rfl
        have hd2 : decide ((M1 : Int) < (M2 : Int)) = false := decide_eq_false (by omega)
        have hd3 : decide ((M1 : Int) < (M3 : Int)) = false := decide_eq_false (by omega)
        go_wp2_with fail
        refine (HM2.out _ G5.out).mono ?_
        rintro e y1 ⟨rfl, hb⟩
        have Y1 := Lib.hid (belowT G5.out hb)
        clear hb
        go_wp2_with fail
        refine (HM1.out _ Y1.out).mono ?_
        rintro e y2 ⟨rfl, hb⟩
        have Y2 := Lib.hid (belowT Y1.out hb)
        clear hb
        go_wp2_with fail
        refine (HM3.out _ Y2.out).mono ?_
        rintro e y3 ⟨rfl, hb⟩
        have Y3 := Lib.hid (belowT Y2.out hb)
        clear hb
        go_wp2_with fail
        refine (HM1.out _ Y3.out).mono ?_
        rintro e y4 ⟨rfl, hb⟩
        have Y4 := Lib.hid (belowT Y3.out hb)
        clear hb
        rcases e4 with rfl | rfl
        · obtain ⟨rfl, l5⟩ := LAW.out.2 rfl
          have hd : decide ((M5 : Int) ≤ (M4 : Int)) = true := decide_eq_true (by omega)
          have hd' : (M5 : Int) ≤ (M4 : Int) := by omega
          go_wp2_with fail
          refine (HM5.out _ Y4.out).mono ?_
          rintro e y5 ⟨rfl, hb⟩
          have Y5 := Lib.hid (belowT Y4.out hb)
          clear hb
          go_wp2_with fail
          refine (HM4.out _ Y5.out).mono ?_
          rintro e y6 ⟨rfl, hb⟩
          have Y6 := Lib.hid (belowT Y5.out hb)
          clear hb
          go_wp2_with fail
          refine (HAW.out _).mono ?_
          rintro e y7 ⟨rfl, hb⟩
          have Y7 := Lib.hid (belowT Y6.out hb)
          clear hb
          go_wp2_with fail
          go_ret
          exact ⟨rfl, belowT HB0.out (belowT HBV.out (belowT B5.out Y7.out))⟩
        · go_wp2_with fail
          refine (HAW.out _).mono ?_
          rintro e y7 ⟨rfl, hb⟩
          have Y7 := Lib.hid (belowT Y4.out hb)
          clear hb
          go_wp2_with fail
          go_ret
          exact ⟨rfl, belowT HB0.out (belowT HBV.out (belowT B5.out Y7.out))⟩
      · skip
        rcases e4 with rfl | rfl
        · obtain ⟨rfl, l5⟩ := LAW.out.2 rfl
          have hd : decide ((M5 : Int) ≤ (M4 : Int)) = true := decide_eq_true (by omega)
          have hd' : (M5 : Int) ≤ (M4 : Int) := by omega
          go_wp2_with fail
          refine (HM5.out _ G5.out).mono ?_
          rintro e y5 ⟨rfl, hb⟩
          have Y5 := Lib.hid (belowT G5.out hb)
          clear hb
          go_wp2_with fail
          refine (HM4.out _ Y5.out).mono ?_
          rintro e y6 ⟨rfl, hb⟩
          have Y6 := Lib.hid (belowT Y5.out hb)
          clear hb
          go_wp2_with fail
          refine (HAW.out _).mono ?_
          rintro e y7 ⟨rfl, hb⟩
          have Y7 := Lib.hid (belowT Y6.out hb)
          clear hb
          go_wp2_with fail
          go_ret
          exact ⟨rfl, belowT HB0.out (belowT HBV.out (belowT B5.out Y7.out))⟩
        · go_wp2_with fail
          refine (HAW.out _).mono ?_
          rintro e y7 ⟨rfl, hb⟩
          have Y7 := Lib.hid (belowT G5.out hb)
          clear hb
          go_wp2_with fail
          go_ret
          exact ⟨rfl, belowT HB0.out (belowT HBV.out (belowT B5.out Y7.out))⟩
end Go.Proofs.Ytojgdallodmanaa
