/- TopWeighed's own walk F3 (printed by mkF3a.py). The law's arguments, opened: a standing hull, what is weighed of it. -/
import Derived.Maps.AppendAt
import Derived.ProofKit
import Derived.OpenShut
import Derived.JoinedOf
import Derived.Deep.Strs
import Derived.Deep.Slices
import Derived.Lib.SmallJoins
import Derived.Test.YtmhjhbchokbonaaGreatRows
import Derived.Test.YtmhjhbchokbonaaGreatM0
import Derived.Test.YtmhjhbchokbonaaGreatM26
set_option maxRecDepth 1000000
set_option maxHeartbeats 16000000
namespace Go.Proofs.YtmhjhbchokbonaaGreat
open Go.RowKit
theorem Tryz.info45 : (Tryz.prog.info? 45).map (fun i => (i.zero, i.size, i.bytes)) = some (some (.agg #[iv 0, iv 0]), 2, 16) := by kernel_rfl
theorem topLaw_any (h : StH) (A AB AT AR : Option Addr) (bl us ar : List Int) (cap cB cT cR : Nat) (ta tb wa : Int) (w : World)
  (hH : H5Rd w w.heap.size h A cap) (hRB : Rd1 u8v w w.heap.size AB bl) (hUB : ∀ x ∈ bl, 0 ≤ x ∧ x ≤ 255) (hmB : bl.length ≤ maxLen) (hRT : Rd1 uv w w.heap.size AT us) (hUT : U32s us) (hR : Rd1 uv w w.heap.size AR ar) (hU : U32s ar)
  (ha : 0 ≤ ta ∧ ta ≤ 65535) (htb : 0 ≤ tb ∧ tb ≤ 65535) (hw : 0 ≤ wa ∧ wa ≤ 65535) :
  Calls Tryz.prog 3 #[h5V h A cap, .agg #[.slice AB bl.length cB, .slice AT us.length cT, .slice AR ar.length cR, .int .u16 ta, .int .u16 tb, .int .u16 wa]] w (Rt w (.bool true)) := by
 obtain ⟨gh, hgh⟩ := ex w.heap.size
 obtain ⟨W1, hW1⟩ := ex (w.alloc (.cells #[.slice A h.ps.length cap, iv h.aft, iv h.fore] 24))
 have hb1 : BW w W1 := by rw [← hW1]; exact belowA (belowR _) _
 have k1 : Blk W1 gh 24 #[.slice A h.ps.length cap, iv h.aft, iv h.fore] := by rw [← hW1, ← hgh]; exact Blk.new w 24 _
 obtain ⟨gx, hgx⟩ := ex W1.heap.size
 obtain ⟨W2, hW2⟩ := ex (W1.alloc (.cells #[.slice AB bl.length cB, .slice AT us.length cT, .slice AR ar.length cR, .int .u16 ta, .int .u16 tb, .int .u16 wa] 30))
 have hb2' : BW W1 W2 := by rw [← hW2]; exact belowA (belowR _) _
 have hb2 : BW w W2 := belowT hb1 hb2'
 have k2 : Blk W2 gx 30 #[.slice AB bl.length cB, .slice AT us.length cT, .slice AR ar.length cR, .int .u16 ta, .int .u16 tb, .int .u16 wa] := by rw [← hW2, ← hgx]; exact Blk.new W1 30 _
 have k1b : Blk W2 gh 24 #[.slice A h.ps.length cap, iv h.aft, iv h.fore] := k1.same (hb2'.block _ k1.lt)
 have XB := Lq hb2
 have HC : Hid (∀ W, BW W2 W → Blk W gh 24 #[.slice A h.ps.length cap, iv h.aft, iv h.fore] ∧ Blk W gx 30 #[.slice AB bl.length cB, .slice AT us.length cT, .slice AR ar.length cR, .int .u16 ta, .int .u16 tb, .int .u16 wa]) := Lq fun W hbW => ⟨k1b.same (hbW.block _ k1b.lt), k2.same (hbW.block _ k2.lt)⟩
 have p0 := k1b.c 0
 have p1 := k1b.c 1
 have p2 := k1b.c 2
 have HH : Hid (H5Rd W2 W2.heap.size h A cap) := Lq (hH.on hb2)
 have HBL : Hid (Rd1 u8v W2 W2.heap.size AB bl ∧ (∀ x ∈ bl, 0 ≤ x ∧ x ≤ 255) ∧ bl.length ≤ maxLen) := Lq ⟨hRB.below hb2 (Nat.le_refl _) |>.more hb2.size, hUB, hmB⟩
 have HAR : Hid (Rd1 uv W2 W2.heap.size AR ar ∧ U32s ar) := Lq ⟨hR.below hb2 (Nat.le_refl _) |>.more hb2.size, hU⟩
 have HAT : Hid (Rd1 uv W2 W2.heap.size AT us ∧ U32s us) := Lq ⟨hRT.below hb2 (Nat.le_refl _) |>.more hb2.size, hUT⟩
 have HIN := Lq (And.intro ha (And.intro htb hw))
 have HAW := Lq awake5_any
 have HAW7 := Lq awake_any
 have HNM : Hid (∀ p ∈ h.ps, p.name.size ≤ maxLen) := Lq hH.nm
 have hc4 := refCheck5_any h A _ cap W2 HH.out (Nat.le_refl _)
 obtain ⟨C, hC⟩ := ex (chk5 h)
 rw [hC] at hc4
 have HC4 := Lq hc4
 have HC0 : Hid (C.2.2 = 0 → chk5 h = (0, 0, 0)) := Lq fun h0 => chk5_ok (by rw [hC]; exact h0)
 have hgz : W2.heap.size = gx + 1 := by rw [← hW2, ← hgx]; simp
 have hgz1 : gh < gx := by have := k1.lt; omega
 clear hH hRB hUB hmB hRT hUT hR hU ha htb hw hb1 hb2 hb2' k1 k2 k1b hC hc4
 go_enter Tryz.func3, Tryz.ntmps3
 go_wp2_with fail
 clear hW1 hW2 hgh hgx
 refine HC4.out.mono ?_
 rintro e w3 ⟨rfl, hb⟩
 have X3 := Lq hb
 have XW3 := Lq (belowT XB.out hb)
 clear hb p0 p1 p2 HC4
 obtain ⟨C1, C2, E⟩ := C
 unfold ret3
 simp only at HC0
 by_cases hE : E = 0
 case neg =>
  have hEb : (E != 0) = true := by simpa using hE
  clear HC0 hE
  go_wp2_with fail
  refine (HAW.out _).mono ?_
  rintro e w8 ⟨rfl, hb⟩
  have X8 := Lq (belowT XW3.out hb)
  clear hb
  go_wp2_with fail
  refine (HAW7.out _).mono ?_
  rintro e w9 ⟨rfl, hb⟩
  have X9 := Lq (belowT X8.out hb)
  clear hb
  go_wp2_with fail
  go_ret
  exact ⟨rfl, X9.out⟩
 have HCK := Lq (HC0.out hE)
 subst hE
 clear HC0
 have hn10 : h.ps.length ≤ 10 := (chk5_iff.1 (show (chk5 h).2.2 = 0 by rw [HCK.out])).1.n10
 obtain ⟨g3, hg3⟩ := ex w3.heap.size
 obtain ⟨W4, hW4⟩ := ex (w3.alloc (.cells #[.slice none 0 0, .slice none 0 0, iv 1000, iv 1000, iv 1] 40))
 have hb4 : BW w3 W4 := by rw [← hW4]; exact belowA (belowR _) _
 have K4 : Hid (Blk W4 g3 40 #[.slice none 0 0, .slice none 0 0, iv 1000, iv 1000, iv 1]) := Lq (by rw [← hW4, ← hg3]; exact Blk.new w3 40 _)
 have X4 := Lq (belowT X3.out hb4)
 have hzg : W2.heap.size ≤ g3 := by have := X3.out.size; omega
 have hz4 : g3 < W4.heap.size := K4.out.lt
 clear hb4
 go_wp2_with fail
 clear hW4 hg3
 go_loopw [9] (fun vi wr => ∃ (k : Nat) (vP vJ : Value), k ≤ h.ps.length ∧ vi = iv k ∧ Hid (wr.ownsRow W4.heap.size 44 3 vP k (((h.ps.take k).map prtOf).flatMap encPrt)) ∧ Hid (wr.ownsRow W4.heap.size 45 2 vJ (k - 1) ((chainL k).flatMap encSp)) ∧ Hid (∀ g, vP.ownBlock = some g → vJ.ownBlock ≠ some g) ∧ Hid (Blk wr g3 40 #[vP, vJ, iv 1000, iv 1000, iv 1]) ∧ Hid (OnlyAt W4 wr g3)) (fun vi _ => h.ps.length - (intOf vi).toNat)
 case atStart => exact ⟨0, _, _, Nat.zero_le _, rfl, Lq (World.ownsRow_nil _ _ _ _), Lq (World.ownsRow_nil _ _ _ _), Lq (fun g e => by cases e), K4, Lq (OnlyAt.refl _ _)⟩
 case round =>
  obtain ⟨k, vP, vJ, hkn, rfl, OWP, OWJ, HD, KB, HO⟩ := hrel
  have hzr := HO.out.size
  have hk0 : (0 : Int) ≤ (k : Int) := by omega
  have HX4 : Hid (∀ W, OnlyAt W4 W g3 → Blk W gh 24 #[.slice A h.ps.length cap, iv h.aft, iv h.fore] ∧ Blk W gx 30 #[.slice AB bl.length cB, .slice AT us.length cT, .slice AR ar.length cR, .int .u16 ta, .int .u16 tb, .int .u16 wa] ∧ RdN 7 encS W W2.heap.size A h.ps) := Lq fun W ho => by
   obtain ⟨a1, a2⟩ := HC.out _ X4.out
   exact ⟨ho.blk a1 (by omega), ho.blk a2 (by omega), ho.rdN (HH.out.below X4.out (Nat.le_refl _)).ps hzg⟩
  obtain ⟨kh, kx, hps⟩ := HX4.out _ HO.out
  have p0 := kh.c 0
  by_cases hlt : k < h.ps.length
  ·obtain ⟨x, hx⟩ : ∃ x, h.ps[k]? = some x := ⟨_, List.getElem?_eq_getElem hlt⟩
   obtain ⟨bb, off, rfl, hbb, d0, d1, d2, d3, d4, d5, d6⟩ := stAt hps hx
   have hkz : (k : Int) < (h.ps.length : Int) := by omega
   have hpl : ∀ g, vP.ownBlock = some g → W4.heap.size ≤ g := fun g e => (OWP.out.lt g e).1
   have hjl : ∀ g, vJ.ownBlock = some g → W4.heap.size ≤ g := fun g e => (OWJ.out.lt g e).1
   have hgp : some g3 ≠ vP.ownBlock := fun e => by have := hpl g3 e.symm; omega
   have hgj : vJ.ownBlock ≠ some g3 := fun e => by have := hjl g3 e; omega
   have HPL := Lq hpl
   have HJL := Lq hjl
   have HGJ := Lq hgj
   have HTK : Hid (((h.ps.take (k + 1)).map prtOf).flatMap encPrt = ((h.ps.take k).map prtOf).flatMap encPrt ++ [.string x.name, iv x.wlo, iv x.whi]) := Lq (by rw [List.take_add_one, hx]; simp [prtOf, encPrt])
   have hSK : ∀ W, KeptO wr W vP.ownBlock none → W.cell? ⟨g3, 0, none⟩ = some vP ∧ W.cell? ⟨gh, 0, none⟩ = some (.slice (some ⟨bb, off, none⟩) h.ps.length cap) ∧ W.cell? ⟨bb, off + k * 7, none⟩ = some (.string x.name) ∧ W.cell? ⟨bb, off + k * 7 + 2, none⟩ = some (iv x.wlo) ∧ W.cell? ⟨bb, off + k * 7 + 3, none⟩ = some (iv x.whi) := fun W hk => by
    have e1 : some gh ≠ vP.ownBlock := fun e => by have := hpl gh e.symm; omega
    have e2 : some bb ≠ vP.ownBlock := fun e => by have := hpl bb e.symm; omega
    exact ⟨(hk.blk KB.out hgp (by simp)).cell 0, hk.cell p0 e1 (by simp), hk.cell d0 e2 (by simp), hk.cell d2 e2 (by simp), hk.cell d3 e2 (by simp)⟩
   have HSK := Lq hSK
   clear hSK hpl hjl hps kh kx hx
   go_upto_region 8 with fail
   refine reg3_8 (base := W4.heap.size) (n := k) (by omega) hzr OWP.out KB.out hgp hlt HSK.out (fun W hb => HSK.out W (KeptO.of_below hb)) ?_
   intro u56 u57 u58 u59 u60 u61 u62 u63 u64 u65 u66 u67 u68 u69 u70 u71 u72 u73 wx hwx
   obtain ⟨g, c, W, hT, hwx⟩ := hwx
   have hgl := hT.ow.lt g rfl
   have hgg : g ≠ g3 := by omega
   have hOW : OnlyAt W4 W g3 := hT.kept.only HO.out HPL.out (fun g e => by cases e)
   have hWx : OnlyAt W wx g3 := by rw [hwx]; exact OnlyAt.of_set (belowR W) g3 0 _
   have HOX := Lq (hOW.trans hWx)
   have HRP : Hid (wx.ownsRow W4.heap.size 44 3 (.slice (some ⟨g, 0, none⟩) (k + 1) c) (k + 1) (((h.ps.take (k + 1)).map prtOf).flatMap encPrt)) := Lq (by rw [HTK.out]; exact hWx.own hT.ow (by simp [Value.ownBlock]; exact hgg))
   have hjd : ∀ g', vJ.ownBlock = some g' → vP.ownBlock ≠ some g' := fun g' e e2 => HD.out g' e2 e
   have HRJ : Hid (wx.ownsRow W4.heap.size 45 2 vJ (k - 1) ((chainL k).flatMap encSp)) := Lq (hWx.own (hT.kept.own OWJ.out hjd) HGJ.out)
   have HGX : Hid (Blk wx g3 40 #[.slice (some ⟨g, 0, none⟩) (k + 1) c, vJ, iv 1000, iv 1000, iv 1]) := Lq (by rw [hwx]; exact (hT.kept.blk KB.out hgp (by simp)).set_ 0 _)
   have HD2 : Hid (vJ.ownBlock ≠ some g) := Lq fun e => by
    rcases hT.wa with e2 | ⟨g', e2, hge⟩
    ·exact HD.out g e2.symm e
    ·have := (OWJ.out.lt g e).2
     have e3 : g = g' := by simpa [Value.ownBlock] using e2
     omega
   have HGL := Lq hgl
   have hzx := HOX.out.size
   clear hT hwx hgl hgg hOW hWx hjd hgp hgj d0 d1 d2 d3 d4 d5 d6 HSK OWP OWJ HD KB HO HTK p0 hzr
   rcases Nat.eq_zero_or_pos k with hkk | hkk
   ·have hkq : ¬ ((0 : Int) < (k : Int)) := by omega
    have HRJ0 : Hid (wx.ownsRow W4.heap.size 45 2 vJ (k + 1 - 1) ((chainL (k + 1)).flatMap encSp)) := Lq (by rw [hkk]; have := HRJ.out; rw [hkk] at this; exact this)
    go_wp2_with fail
    go_roundw
    case rel => exact ⟨k + 1, _, vJ, by omega, by go_num, HRP, HRJ0, Lq (fun g' e e2 => HD2.out (by injection e with e; rw [← e] at e2; exact e2)), HGX, HOX⟩
    case measure => simp [intOf]; omega
   ·have hkq : (0 : Int) < (k : Int) := by omega
    have hwk : IntKind.i64.wrap ((k : Int) - 1) = ((k - 1 : Nat) : Int) := by rw [IntKind.wrap_i64]; omega
    obtain ⟨k9, hk9⟩ := ex (k - 1)
    rw [hk9] at hwk
    have HCS : Hid ((chainL (k + 1)).flatMap encSp = (chainL k).flatMap encSp ++ [iv k9, iv k]) := Lq (by rw [chainL_succ hkk, hk9, show ((k9 : Int) + 1) = (k : Int) by omega, List.flatMap_append]; rfl)
    have HJA := Lq (HRJ.out.alloc (.cells #[iv k9, iv k] 45))
    have HPA := Lq (HRP.out.alloc (.cells #[iv k9, iv k] 45))
    have HGA := Lq (HGX.out.alloc (.cells #[iv k9, iv k] 45))
    have HOA := Lq (HOX.out.alloc (.cells #[iv k9, iv k] 45))
    have HLA := Lq (Blk.new wx 45 #[iv k9, iv k])
    obtain ⟨i45, hi45, hz0, hz1, hz2⟩ := info_parts Tryz.info45
    have q1 := HGX.out.c 1
    rw [hk9] at HJA
    have hk91 : k9 + 1 = k := by omega
    go_wp2_with (at_builtin; refine wpList_append_own_at _ rfl _ _ 38 rfl W4.heap.size 45 i45 (.agg #[iv 0, iv 0]) 2 16 Tryz.underlying38 hi45 hz0 hz1 hz2 rfl (by decide) _ _ _ rfl HJA.out ⟨wx.heap.size, 0, none⟩ 1 1 [iv k9, iv k] rfl rfl ?d1 ?d2 ?d3 ?d4 ?d5 ?_)
    case d1 => exact news_blkN HLA.out
    case d2 => simp [Value.oneCell']
    case d3 => unfold maxLen; omega
    case d4 => omega
    case d5 => simp only [World.size_alloc]; omega
    intro v10 w10 hown10 hg10 _ hat10
    obtain ⟨g10, c10, rfl, _, _, _⟩ := own_form hown10 (by omega)
    have hjg : some g3 ≠ vJ.ownBlock := fun e => HGJ.out e.symm
    have kx := HGA.out.grown hg10 hjg
    have hl10 := hown10.lt g10 rfl
    have hne : (Value.slice (some ⟨g10, 0, none⟩) k c10).ownBlock ≠ some g3 := fun e => by
     have e3 : g10 = g3 := by simpa [Value.ownBlock] using e
     have := hl10.1
     omega
    have x0 := kx.c 1
    have xf := kx.frozen 1
    have xl := kx.lt
    obtain ⟨wy, hwy⟩ := ex (w10.setCell ⟨g3, 1, none⟩ (.slice (some ⟨g10, 0, none⟩) k c10))
    have hoy : OnlyAt w10 wy g3 := by rw [← hwy]; exact OnlyAt.of_set (belowR w10) g3 1 _
    have HO10 : OnlyAt W4 w10 g3 := HOA.out.grown HJA.out hg10 (Nat.le_refl _)
    have hpk : w10.ownsRow W4.heap.size 44 3 (.slice (some ⟨g, 0, none⟩) (k + 1) c) (k + 1) (((h.ps.take (k + 1)).map prtOf).flatMap encPrt) := ownKeep HPA.out fun b hb => hg10.block b (HPA.out.lt b hb).2 (fun e => HD2.out (by
     have e3 : g = b := by simpa [Value.ownBlock] using hb
     rw [e3]; exact e.symm))
    have hpg : (Value.slice (some ⟨g, 0, none⟩) (k + 1) c).ownBlock ≠ some g3 := fun e => by
     have e3 : g = g3 := by simpa [Value.ownBlock] using e
     have := HGL.out.1
     omega
    have hdd : ∀ b, (Value.slice (some ⟨g, 0, none⟩) (k + 1) c).ownBlock = some b → (Value.slice (some ⟨g10, 0, none⟩) k c10).ownBlock ≠ some b := fun b hb e => by
     have e3 : g = b := by simpa [Value.ownBlock] using hb
     have e4 : g10 = b := by simpa [Value.ownBlock] using e
     rcases hat10 with h10 | h10
     ·have h11 : vJ.ownBlock = some g10 := h10.symm
      exact HD2.out (by rw [h11, e3, e4])
     ·have h11 : g10 = (wx.alloc (.cells #[iv k9, iv k] 45)).heap.size := by simpa [Value.ownBlock] using h10
      have := (HRP.out.lt g rfl).2
      simp only [World.size_alloc] at h11 this
      omega
    have HREL : Hid (wy.ownsRow W4.heap.size 44 3 (.slice (some ⟨g, 0, none⟩) (k + 1) c) (k + 1) (((h.ps.take (k + 1)).map prtOf).flatMap encPrt) ∧ wy.ownsRow W4.heap.size 45 2 (.slice (some ⟨g10, 0, none⟩) k c10) (k + 1 - 1) ((chainL (k + 1)).flatMap encSp) ∧ Blk wy g3 40 #[.slice (some ⟨g, 0, none⟩) (k + 1) c, .slice (some ⟨g10, 0, none⟩) k c10, iv 1000, iv 1000, iv 1] ∧ OnlyAt W4 wy g3) := Lq ⟨hoy.own hpk hpg, by rw [HCS.out]; exact hoy.own hown10 hne, by rw [← hwy]; exact kx.set_ 1 _, HO10.trans hoy⟩
    have HDD := Lq hdd
    clear hown10 hg10 hat10 kx hl10 hne hoy HO10 hpk hpg hdd hjg HJA HPA HGA HOA HLA HRJ HRP HGX HOX HD2 HGL HCS q1
    go_wp2_with fail
    go_roundw
    case rel => exact ⟨k + 1, _, _, by omega, by go_num, Lq HREL.out.1, Lq HREL.out.2.1, HDD, Lq HREL.out.2.2.1, Lq HREL.out.2.2.2⟩
    case measure => simp [intOf]; omega
  ·obtain rfl : k = h.ps.length := by omega
   have hkz : ¬ (h.ps.length : Int) < (h.ps.length : Int) := by omega
   have hbv : BW W2 wr := HO.out.below X4.out hzg
   have hown1 : wr.ownsRow W4.heap.size 44 3 vP (h.ps.map prtOf).length ((h.ps.map prtOf).flatMap encPrt) := by
    have := OWP.out
    rw [List.take_length] at this
    rw [List.length_map]
    exact this
   have hown2 : wr.ownsRow W4.heap.size 45 2 vJ (chainL h.ps.length).length ((chainL h.ps.length).flatMap encSp) := by rw [chainL_len]; exact OWJ.out
   obtain ⟨AP, cP, rfl, hRP, _, hp1, hp2⟩ := own_rdN encPrt_len hown1
   obtain ⟨AJ, cJ, rfl, hRJ, _, hj1, hj2⟩ := own_rdN encSp_len hown2
   have hHB : HulRd wr wr.heap.size (hulOf h) AP cP AJ cJ := ⟨hRP, hRJ, hp1, hp2, hj1, hj2, fun p hp => by
    obtain ⟨x, hx, rfl⟩ := List.mem_map.1 hp
    exact HNM.out x hx⟩
   have hkb : Blk wr g3 40 #[.slice AP (hulOf h).ps.length cP, .slice AJ (hulOf h).js.length cJ, iv (hulOf h).slo, iv (hulOf h).shi, iv (hulOf h).winch] := KB.out
   obtain ⟨b, hbe⟩ := ex (hulOf h)
   rw [hbe] at hHB hkb
   have HKB : Hid (∀ W, BW wr W → Blk W g3 40 #[.slice AP b.ps.length cP, .slice AJ b.js.length cJ, iv b.slo, iv b.shi, iv b.winch]) := Lq fun W hb => hkb.same (hb.block _ hkb.lt)
   have HBB := Lq hHB
   have HBE := Lq hbe
   have XV := Lq hbv
   have XWV := Lq (belowT XB.out hbv)
   obtain ⟨C, hC⟩ := ex (checkE b)
   have hc7 := refCheck_any b AP AJ _ cP cJ wr hHB (Nat.le_refl _)
   rw [hC] at hc7
   have HC7 := Lq hc7
   have HCE := Lq hC
   have f0 := hkb.c 0
   have f1 := hkb.c 1
   have f2 := hkb.c 2
   have f3 := hkb.c 3
   have f4 := hkb.c 4
   clear hown1 hown2 hRP hp1 hp2 hRJ hj1 hj2 hHB hkb hbe hbv hC hc7 OWP OWJ HD KB kh kx hps HX4
   go_wp2_with fail
   refine HC7.out.mono ?_
   rintro e w5 ⟨rfl, hb⟩
   have X5 := Lq (belowT XV.out hb)
   have XW5 := Lq (belowT XWV.out hb)
   have hk5 := HKB.out _ hb
   have h5 := HBB.out.on hb
   have K5 := Lq (And.intro hk5 h5)
   clear hb p0 f0 f1 f2 f3 f4 HC7 hk5 h5
   obtain ⟨C1, C2, E⟩ := C
   unfold ret3
   by_cases hE : E = 0
   case neg =>
    have hEb : (E != 0) = true := by simpa using hE
    clear HCE hE
    go_wp2_with fail
    refine (HAW.out _).mono ?_
    rintro e w8 ⟨rfl, hb⟩
    have X8 := Lq (belowT XW5.out hb)
    clear hb
    go_wp2_with fail
    refine (HAW7.out _).mono ?_
    rintro e w9 ⟨rfl, hb⟩
    have X9 := Lq (belowT X8.out hb)
    clear hb
    go_wp2_with fail
    go_ret
    exact ⟨rfl, X9.out⟩
   have HE : Hid ((checkE b).2.2 = 0) := Lq (by rw [HCE.out]; exact hE)
   subst hE
   go_upto_region 14 with fail
   obtain ⟨k1, k2⟩ := HC.out _ X5.out
   exact f3_14 (by assumption) XW5.out k1 k2 K5.out.1 (HH.out.on X5.out) K5.out.2 HBE.out HE.out (HAR.out.1.below X5.out (Nat.le_refl _) |>.more X5.out.size) HAR.out.2 (HAT.out.1.below X5.out (Nat.le_refl _) |>.more X5.out.size) HAT.out.2 (HBL.out.1.below X5.out (Nat.le_refl _) |>.more X5.out.size) HBL.out.2.1 HBL.out.2.2 HCK.out HIN.out.1 HIN.out.2.1 HIN.out.2.2
end Go.Proofs.YtmhjhbchokbonaaGreat
namespace Go.Proofs.YtmhjhbchokbonaaGreat
open Go.RowKit Go.ChangeShapes Go.WideShapes Go.Deep
theorem spot_none {w : World} {a : Addr} {v : Value} (h : w.cell? a = some v) : a = ⟨a.block, a.off, none⟩ := by
 obtain ⟨b, o, s⟩ := a
 cases s with
 | none => rfl
 | some n =>
  exfalso
  simp only [World.cell?] at h
  split at h
  ·simp at h
  ·cases h
theorem row_of_cells {α : Type} {k : Nat} {encs : α → List Value} {W : World} (hen : ∀ x, (encs x).length = k) (hk : 2 ≤ k) (Pred : α → Prop) {a : Addr} {len : Nat}
  (each : ∀ i, i < len → ∃ c : α, Pred c ∧ ∀ (j : Nat) (u : Value), (encs c)[j]? = some u → W.cell? (a.add (i * k + j)) = some u) :
  ∃ xs : List α, xs.length = len ∧ (∀ c ∈ xs, Pred c) ∧ RdN k encs W W.heap.size (some a) xs := by
 have hch := Classical.axiomOfChoice (r := fun (i : Fin len) (c : α) => Pred c ∧ ∀ (j : Nat) (u : Value), (encs c)[j]? = some u → W.cell? (a.add (i * k + j)) = some u) fun i => each i i.2
 obtain ⟨f, hf2⟩ := hch
 refine ⟨List.ofFn f, by simp, fun c hc => ?_, fun i c hc => ?_⟩
 ·obtain ⟨i, rfl⟩ := List.mem_ofFn.1 hc
  exact (hf2 i).1
 ·have hil : i < len := by have := (List.getElem?_eq_some_iff.1 hc).1; simpa using this
  have hfc : f ⟨i, hil⟩ = c := by
   rw [List.getElem?_ofFn, dif_pos hil] at hc
   exact Option.some.inj hc
  have hcell := (hf2 ⟨i, hil⟩).2
  rw [hfc] at hcell
  have hcl := hen c
  have hlast := hcell (k - 1) _ (List.getElem?_eq_getElem (show k - 1 < (encs c).length by omega))
  have ha : a = ⟨a.block, a.off, none⟩ := by
   have h0 := (hf2 ⟨0, by omega⟩).2 0 _ (List.getElem?_eq_getElem (show 0 < (encs (f ⟨0, by omega⟩)).length by rw [hen]; omega))
   have hs := spot_none h0
   have e : a.add (0 * k + 0) = a := by unfold Addr.add; rw [if_pos (by simp)]
   simp only at hs
   rw [e] at hs
   exact hs
  refine ⟨a.block, a.off, by rw [← ha], ?_, fun j u hu => ?_⟩
  ·have h3' := hlast
   rw [ha, addr_add] at h3'
   exact lt_of_cell h3'
  ·have := hcell j u hu
   rw [ha, addr_add] at this
   simp only [← Nat.add_assoc] at this
   exact this
section
variable {H : Type} {enc : TypeId × Value → H} {W : World} {base : Nat} {spare : Nat → Bool} {held : Bool}
theorem trod_struct5 {P : Program} {t : TypeId} {f0 f1 f2 f3 f4 : Field} {fuel : Nat} {cs : List Value} {x : DataW H × List MemPlace} (ht : P.underlying t = some (.struct #[f0, f1, f2, f3, f4])) (h : DataW.trod enc P W base spare held fuel t cs = some x) :
  ∃ y0 y1 y2 y3 y4 n, x = (.agg [y0.1, y1.1, y2.1, y3.1, y4.1], y0.2 ++ (y1.2 ++ (y2.2 ++ (y3.2 ++ y4.2)))) ∧ cs.length = P.cellsOf t ∧ DataW.trod enc P W base spare held n f0.type ((cs.drop f0.offset).take (P.cellsOf f0.type)) = some y0 ∧
   DataW.trod enc P W base spare held n f1.type ((cs.drop f1.offset).take (P.cellsOf f1.type)) = some y1 ∧ DataW.trod enc P W base spare held n f2.type ((cs.drop f2.offset).take (P.cellsOf f2.type)) = some y2 ∧
   DataW.trod enc P W base spare held n f3.type ((cs.drop f3.offset).take (P.cellsOf f3.type)) = some y3 ∧ DataW.trod enc P W base spare held n f4.type ((cs.drop f4.offset).take (P.cellsOf f4.type)) = some y4 := by
 obtain ⟨xs, n, _, rfl, hl, hlen, hf⟩ := DataW.trod_struct ht h
 match xs, hlen with
 | [y0, y1, y2, y3, y4], _ => exact ⟨y0, y1, y2, y3, y4, n, by simp, hl, by simpa using hf 0 f0 rfl, by simpa using hf 1 f1 rfl, by simpa using hf 2 f2 rfl, by simpa using hf 3 f3 rfl, by simpa using hf 4 f4 rfl⟩
theorem Tryz.cells3 : Tryz.prog.cellsOf 3 = 1 := by kernel_rfl
theorem Tryz.cells5 : Tryz.prog.cellsOf 5 = 1 := by kernel_rfl
theorem Tryz.cells9 : Tryz.prog.cellsOf 9 = 1 := by kernel_rfl
theorem Tryz.cells165 : Tryz.prog.cellsOf 165 = 1 := by kernel_rfl
theorem Tryz.cells27 : Tryz.prog.cellsOf 27 = 1 := by kernel_rfl
theorem Tryz.cells28 : Tryz.prog.cellsOf 28 = 2 := by kernel_rfl
theorem Tryz.cells36 : Tryz.prog.cellsOf 36 = 2 := by kernel_rfl
theorem Tryz.cells42 : Tryz.prog.cellsOf 42 = 7 := by kernel_rfl
theorem Tryz.cells22 : Tryz.prog.cellsOf 22 = 1 := by kernel_rfl
theorem Tryz.cells24 : Tryz.prog.cellsOf 24 = 3 := by kernel_rfl
theorem Tryz.cells25 : Tryz.prog.cellsOf 25 = 1 := by kernel_rfl
theorem Tryz.cells26 : Tryz.prog.cellsOf 26 = 1 := by kernel_rfl
theorem Tryz.cells30 : Tryz.prog.cellsOf 30 = 6 := by kernel_rfl
theorem open_span {fuel : Nat} {c0 c1 : Value} {x : DataW H × List MemPlace} (h : DataW.trod enc Tryz.prog W base spare held fuel 36 [c0, c1] = some x) : ∃ lo hi : Int, c0 = iv lo ∧ c1 = iv hi := by
 obtain ⟨y0, y1, n, _, _, h0, h1⟩ := trod_struct2 Tryz.underlying36 h
 simp only [Tryz.cells3] at h0 h1
 obtain ⟨lo, e0, _, _⟩ := DataW.trod_int Tryz.underlying3 h0
 obtain ⟨hi, e1, _, _⟩ := DataW.trod_int Tryz.underlying3 h1
 exact ⟨lo, hi, by simpa using e0, by simpa using e1⟩
theorem open_stp {fuel : Nat} {cs : List Value} {x : DataW H × List MemPlace} (hl : cs.length = 7) (h : DataW.trod enc Tryz.prog W base spare held fuel 42 cs = some x) : ∃ c : StP, cs = encS c ∧ c.name.size ≤ maxLen := by
 match cs, hl with
 | [c0, c1, c2, c3, c4, c5, c6], _ =>
  obtain ⟨y0, y1, y2, y3, y4, n, _, _, h0, h1, h2, h3, h4⟩ := trod_struct5 Tryz.underlying42 h
  simp only [Tryz.cells9, Tryz.cells3, Tryz.cells36] at h0 h1 h2 h3 h4
  obtain ⟨s, e0, _, hs⟩ := DataW.trod_string Tryz.underlying9 h0
  obtain ⟨pos, e1, _, _⟩ := DataW.trod_int Tryz.underlying3 (cs := [c1]) h1
  obtain ⟨wlo, whi, e2, e3⟩ := open_span (c0 := c2) (c1 := c3) h2
  obtain ⟨keel, e4, _, _⟩ := DataW.trod_int Tryz.underlying3 (cs := [c4]) h3
  obtain ⟨llo, lhi, e5, e6⟩ := open_span (c0 := c5) (c1 := c6) h4
  have e0' : c0 = .string s := by simpa using e0
  have e1' : c1 = iv pos := by simpa using e1
  have e4' : c4 = iv keel := by simpa using e4
  subst e0' e1' e2 e3 e4' e5 e6
  exact ⟨⟨s, pos, wlo, whi, keel, llo, lhi⟩, rfl, hs⟩
theorem open_sth {b0 : Nat} {v : Value} {d : DataW H} {p : List MemPlace} (hv : Value.okWide Tryz.prog W .any b0 24 v) (h : DataW.Trod enc Tryz.prog W base spare held 24 v d p) :
  ∃ (h5 : StH) (A : Option Addr) (cap : Nat), v = h5V h5 A cap ∧ H5Rd W W.heap.size h5 A cap := by
 obtain ⟨arr, rfl, hsz⟩ := okWide_struct Tryz.underlying24 hv
 obtain ⟨l⟩ := arr
 replace hsz := hsz.trans Tryz.cells24
 match l, hsz with
 | [c0, c1, c2], _ =>
  obtain ⟨fuel, hf⟩ := h
  obtain ⟨y0, y1, y2, n, _, _, h0, h1, h2⟩ := trod_struct3 Tryz.underlying24 hf
  simp only [Tryz.cells22, Tryz.cells3] at h0 h1 h2
  obtain ⟨aft, e1, _, _⟩ := DataW.trod_int Tryz.underlying3 (cs := [c1]) h1
  obtain ⟨fore, e2, _, _⟩ := DataW.trod_int Tryz.underlying3 (cs := [c2]) h2
  have e1' : c1 = iv aft := by simpa using e1
  have e2' : c2 = iv fore := by simpa using e2
  subst e1' e2'
  obtain ⟨A, ps, cap, ea, hpl, hpm, hpn, hpR⟩ : ∃ (A : Option Addr) (ps : List StP) (cap : Nat), c0 = .slice A ps.length cap ∧ ps.length ≤ cap ∧ cap ≤ maxLen ∧ (∀ x ∈ ps, x.name.size ≤ maxLen) ∧ RdN 7 encS W W.heap.size A ps := by
   rcases open_slice Tryz.underlying22 (cs := [c0]) h0 with ⟨e, _⟩ | ⟨a, len, cap, m, n2, D, Pl, e, _, hlc, hcm, hm, _, hi2⟩
   ·exact ⟨none, [], 0, List.head_eq_of_cons_eq e, Nat.zero_le _, Nat.zero_le _, by intro x hx; simp at hx, RdN.nil⟩
   ·have hlm : len ≤ m := by rw [hm]; split <;> omega
    obtain ⟨xs, hxl, hP, hR⟩ := row_of_cells (W := W) (a := a) (len := len) (k := 7) (encs := encS) (fun _ => rfl) (by decide) (fun c => c.name.size ≤ maxLen) (fun i hil => by
     obtain ⟨cs', hc, ht'⟩ := hi2 i (by omega)
     rw [Tryz.cells42] at hc
     obtain ⟨_, hcl, hat⟩ := World.cells?_some hc
     obtain ⟨c, rfl, hs⟩ := open_stp hcl ht'
     refine ⟨c, hs, fun j u hu => ?_⟩
     have hj : j < 7 := (List.getElem?_eq_some_iff.1 hu).1
     rw [← Go.Deep.add_add, hat j hj, hu])
    exact ⟨some a, xs, cap, by rw [hxl]; exact List.head_eq_of_cons_eq e, by omega, hcm, hP, hR⟩
  subst ea
  exact ⟨⟨ps, aft, fore⟩, A, cap, rfl, ⟨hpR, hpl, hpm, hpn⟩⟩
theorem u16_open {fuel : Nat} {c : Value} {x : DataW H × List MemPlace} (h : DataW.trod enc Tryz.prog W base spare held fuel 27 [c] = some x) : ∃ n : Int, c = .int .u16 n ∧ 0 ≤ n ∧ n ≤ 65535 := by
 obtain ⟨n, e, _, hw⟩ := DataW.trod_int Tryz.underlying27 h
 simp [Lit.wf] at hw
 have e1 : IntKind.u16.min = 0 := by decide
 have e2 : IntKind.u16.max = 65535 := by decide
 exact ⟨n, by simpa using e, by omega, by omega⟩
theorem open_turns {fuel : Nat} {c : Value} {x : DataW H × List MemPlace} (h : DataW.trod enc Tryz.prog W base spare held fuel 26 [c] = some x) :
  ∃ (U : Option Addr) (us : List Int) (cap : Nat), c = .slice U us.length cap ∧ U32s us ∧ Rd1 uv W W.heap.size U us := by
 rcases open_ints Tryz.underlying26 Tryz.underlying165 Tryz.cells165 h with ⟨e, _⟩ | ⟨a, len, cap, zs, e, _, hlc, hcm, hzl, _, hcell, hwf⟩
 ·have e' : c = .slice none 0 0 := List.head_eq_of_cons_eq e
  rw [e']
  exact ⟨none, [], 0, rfl, ⟨Nat.zero_le _, by intro x hx; simp at hx⟩, Rd1.nil⟩
 ·have e' : c = .slice (some a) len cap := List.head_eq_of_cons_eq e
  rw [e']
  have hlz : len ≤ zs.length := by rw [hzl]; split <;> omega
  have hl : (zs.take len).length = len := by rw [List.length_take]; omega
  refine ⟨some a, zs.take len, cap, by rw [hl], ⟨by rw [hl]; omega, fun x hx => ?_⟩, fun i x hx => ?_⟩
  ·have := hwf x (List.mem_of_mem_take hx)
   simp [Lit.wf] at this
   have e1 : IntKind.u32.min = 0 := by decide
   have e2 : IntKind.u32.max = 4294967295 := by decide
   omega
  ·have hil : i < len := by have := (List.getElem?_eq_some_iff.1 hx).1; omega
   rw [List.getElem?_take, if_pos hil] at hx
   have hc := hcell i (by omega)
   have hg : zs.getD i 0 = x := by rw [List.getD_eq_getElem?_getD, hx]; rfl
   rw [hg] at hc
   have ha : a = ⟨a.block, a.off, none⟩ := by
    have h0 := hcell 0 (by omega)
    simpa [Addr.add] using spot_none h0
   rw [ha, addr_add] at hc
   exact ⟨a.block, a.off, by rw [← ha], lt_of_cell hc, hc⟩
theorem open_bytes {fuel : Nat} {c : Value} {x : DataW H × List MemPlace} (h : DataW.trod enc Tryz.prog W base spare held fuel 25 [c] = some x) :
  ∃ (U : Option Addr) (us : List Int) (cap : Nat), c = .slice U us.length cap ∧ us.length ≤ maxLen ∧ (∀ x ∈ us, 0 ≤ x ∧ x ≤ 255) ∧ Rd1 u8v W W.heap.size U us := by
 rcases open_ints Tryz.underlying25 Tryz.underlying5 Tryz.cells5 h with ⟨e, _⟩ | ⟨a, len, cap, zs, e, _, hlc, hcm, hzl, _, hcell, hwf⟩
 ·have e' : c = .slice none 0 0 := List.head_eq_of_cons_eq e
  rw [e']
  exact ⟨none, [], 0, rfl, Nat.zero_le _, by intro x hx; simp at hx, Rd1.nil⟩
 ·have e' : c = .slice (some a) len cap := List.head_eq_of_cons_eq e
  rw [e']
  have hlz : len ≤ zs.length := by rw [hzl]; split <;> omega
  have hl : (zs.take len).length = len := by rw [List.length_take]; omega
  refine ⟨some a, zs.take len, cap, by rw [hl], by rw [hl]; omega, fun x hx => ?_, fun i x hx => ?_⟩
  ·have := hwf x (List.mem_of_mem_take hx)
   simp [Lit.wf] at this
   have e1 : IntKind.u8.min = 0 := by decide
   have e2 : IntKind.u8.max = 255 := by decide
   omega
  ·have hil : i < len := by have := (List.getElem?_eq_some_iff.1 hx).1; omega
   rw [List.getElem?_take, if_pos hil] at hx
   have hc := hcell i (by omega)
   have hg : zs.getD i 0 = x := by rw [List.getD_eq_getElem?_getD, hx]; rfl
   rw [hg] at hc
   have ha : a = ⟨a.block, a.off, none⟩ := by
    have h0 := hcell 0 (by omega)
    simpa [Addr.add] using spot_none h0
   rw [ha, addr_add] at hc
   exact ⟨a.block, a.off, by rw [← ha], lt_of_cell hc, hc⟩
theorem open_tide {fuel : Nat} {c0 c1 : Value} {x : DataW H × List MemPlace} (h : DataW.trod enc Tryz.prog W base spare held fuel 28 [c0, c1] = some x) : ∃ a b : Int, c0 = .int .u16 a ∧ c1 = .int .u16 b ∧ (0 ≤ a ∧ a ≤ 65535) ∧ (0 ≤ b ∧ b ≤ 65535) := by
 obtain ⟨xs, m, _, _, _, hl, hx⟩ := DataW.trod_array Tryz.underlying28 h
 match xs, hl with
 | [y0, y1], _ =>
  have h0 := hx 0 (by omega)
  have h1 := hx 1 (by omega)
  simp only [Tryz.cells27] at h0 h1
  obtain ⟨a, e0, ha⟩ := u16_open (c := c0) h0
  obtain ⟨b, e1, hb⟩ := u16_open (c := c1) h1
  exact ⟨a, b, e0, e1, ha, hb⟩
theorem open_weighed {b0 : Nat} {v : Value} {d : DataW H} {p : List MemPlace} (hv : Value.okWide Tryz.prog W .any b0 30 v) (h : DataW.Trod enc Tryz.prog W base spare held 30 v d p) :
  ∃ (AB : Option Addr) (bl : List Int) (cB : Nat) (AT : Option Addr) (us : List Int) (cT : Nat) (AR : Option Addr) (ar : List Int) (cR : Nat) (ta tb wa : Int),
   v = .agg #[.slice AB bl.length cB, .slice AT us.length cT, .slice AR ar.length cR, .int .u16 ta, .int .u16 tb, .int .u16 wa] ∧ (Rd1 u8v W W.heap.size AB bl ∧ (∀ x ∈ bl, 0 ≤ x ∧ x ≤ 255) ∧ bl.length ≤ maxLen) ∧ (Rd1 uv W W.heap.size AT us ∧ U32s us) ∧ (Rd1 uv W W.heap.size AR ar ∧ U32s ar) ∧ (0 ≤ ta ∧ ta ≤ 65535) ∧ (0 ≤ tb ∧ tb ≤ 65535) ∧ (0 ≤ wa ∧ wa ≤ 65535) := by
 obtain ⟨arr, rfl, hsz⟩ := okWide_struct Tryz.underlying30 hv
 obtain ⟨l⟩ := arr
 replace hsz := hsz.trans Tryz.cells30
 match l, hsz with
 | [c0, c1, c2, c3, c4, c5], _ =>
  obtain ⟨fuel, hf⟩ := h
  obtain ⟨y0, y1, y2, y3, y4, n, _, _, h0, h1, h2, h3, h4⟩ := trod_struct5 Tryz.underlying30 hf
  simp only [Tryz.cells25, Tryz.cells26, Tryz.cells28, Tryz.cells27] at h0 h1 h2 h3 h4
  obtain ⟨AB, bl, cB, rfl, b1, b2, b3⟩ := open_bytes (c := c0) h0
  obtain ⟨AT, us, cT, rfl, t1, t2⟩ := open_turns (c := c1) h1
  obtain ⟨AR, ar, cR, rfl, r1, r2⟩ := open_turns (c := c2) h2
  obtain ⟨ta, tb, rfl, rfl, hta, htb⟩ := open_tide (c0 := c3) (c1 := c4) h3
  obtain ⟨wa, rfl, hwa⟩ := u16_open (c := c5) h4
  exact ⟨AB, bl, cB, AT, us, cT, AR, ar, cR, ta, tb, wa, rfl, ⟨b3, b2, b1⟩, ⟨t2, t1⟩, ⟨r2, r1⟩, hta, htb, hwa⟩
end
theorem Tryz.laidOut : laidOutB Tryz.prog = true := by kernel_rfl
end Go.Proofs.YtmhjhbchokbonaaGreat
