/- A hull whose parts were weighed in blocks: what is then known of it. No program is named here. stand.Bears of the law's own forces (printed by mkT16.py). The law of late stores, within a round of a loop over a function. No program is named here. Ballast: the regions of a round (printed by mkT17r.py). -/
import Derived.Deep.RegionHeld3
import Derived.Test.YtmhjhbchokbonaaGreatM0
import Derived.Test.YtmhjhbchokbonaaGreatM6
import Derived.Test.YtmhjhbchokbonaaGreatM9
import Derived.Test.YtmhjhbchokbonaaGreatM10
import Derived.Test.YtmhjhbchokbonaaGreatM16
import Derived.Test.YtmhjhbchokbonaaGreatM17
import Derived.Test.YtmhjhbchokbonaaGreatM19
import Derived.Test.YtmhjhbchokbonaaGreatM20
set_option maxRecDepth 1000000
set_option maxHeartbeats 16000000
namespace Go.Proofs.YtmhjhbchokbonaaGreat
open Go.RowKit
def prtOf (x : StP) : Prt := ⟨x.name, x.wlo, x.whi⟩
def chainL (n : Nat) : List (Int × Int) := (List.range (n - 1)).map fun i : Nat => ((i : Int), (i : Int) + 1)
def hulOf (h : StH) : Hul := ⟨h.ps.map prtOf, chainL h.ps.length, 1000, 1000, 1⟩
theorem chainL_len (n : Nat) : (chainL n).length = n - 1 := by simp [chainL]
theorem chainL_succ {k : Nat} (hk : 0 < k) : chainL (k + 1) = chainL k ++ [(((k - 1 : Nat) : Int), ((k - 1 : Nat) : Int) + 1)] := by
 unfold chainL
 rw [show k + 1 - 1 = (k - 1) + 1 by omega, List.range_succ, List.map_append]
 rfl
theorem hulOf_len (h : StH) : (hulOf h).ps.length = h.ps.length := by simp [hulOf]
theorem hulOf_at {h : StH} {i : Nat} {x : StP} (hx : h.ps[i]? = some x) : (hulOf h).ps[i]? = some (prtOf x) := by simp [hulOf, hx]
def fineP (x : StP) (s : Int × Int) : StP := ⟨x.name, x.pos, s.1, s.2, x.keel, x.llo, x.lhi⟩
def fineTo (ps : List StP) (sp : Nat → Int × Int) : Nat → List StP
 | 0 => []
 | k + 1 => fineTo ps sp k ++ (match ps[k]? with | some x => [fineP x (sp k)] | none => [])
theorem fineTo_succ {ps : List StP} {sp : Nat → Int × Int} {k : Nat} {x : StP} (hx : ps[k]? = some x) : fineTo ps sp (k + 1) = fineTo ps sp k ++ [fineP x (sp k)] := by
 rw [fineTo, hx]
theorem fineTo_len {ps : List StP} {sp : Nat → Int × Int} : ∀ k, k ≤ ps.length → (fineTo ps sp k).length = k := by
 intro k
 induction k with
 | zero => intro _; rfl
 | succ k ih =>
  intro hk
  rw [fineTo_succ (List.getElem?_eq_getElem (show k < ps.length by omega)), List.length_append, ih (by omega)]
  rfl
theorem fineTo_at {ps : List StP} {sp : Nat → Int × Int} : ∀ k, k ≤ ps.length → ∀ i, i < k → (fineTo ps sp k)[i]? = (ps[i]?).map fun x => fineP x (sp i) := by
 intro k
 induction k with
 | zero => intro _ i hi; omega
 | succ k ih =>
  intro hk i hi
  have hx := List.getElem?_eq_getElem (show k < ps.length by omega)
  rw [fineTo_succ hx]
  rcases Nat.lt_or_ge i k with hlt | hge
  ·rw [List.getElem?_append_left (by rw [fineTo_len k (by omega)]; exact hlt)]
   exact ih (by omega) i hlt
  ·obtain rfl : i = k := by omega
   rw [List.getElem?_append_right (by rw [fineTo_len i (by omega)]; exact Nat.le_refl _), fineTo_len i (by omega), hx]
   simp
def fineH (h : StH) (sp : Nat → Int × Int) : StH := ⟨fineTo h.ps sp h.ps.length, h.aft, h.fore⟩
theorem fineH_len (h : StH) (sp : Nat → Int × Int) : (fineH h sp).ps.length = h.ps.length := fineTo_len _ (Nat.le_refl _)
theorem fineH_at {h : StH} {sp : Nat → Int × Int} {i : Nat} {x : StP} (hx : h.ps[i]? = some x) : (fineH h sp).ps[i]? = some (fineP x (sp i)) := by
 have := fineTo_at (sp := sp) h.ps.length (Nat.le_refl _) i (List.getElem?_eq_some_iff.1 hx).1
 rw [hx] at this
 exact this
def spF (h : StH) (N : List Nd) (i : Nat) : Int × Int := (leastV (hulOf h) N (2 ^ i), mostV (hulOf h) N (2 ^ i))
theorem spF_in {h : StH} {L : List Wgh} {N : List Nd} {wt : Nat → Int} (hp : openPre (hulOf h) L = 0) (hN : IsTree (hulOf h) L N) (hT : TruthP (hulOf h) L wt) {i : Nat} {x : StP} (hx : h.ps[i]? = some x) :
  x.wlo ≤ (spF h N i).1 ∧ (spF h N i).1 ≤ wt i ∧ wt i ≤ (spF h N i).2 ∧ (spF h N i).2 ≤ x.whi := by
 have hi : i < h.ps.length := (List.getElem?_eq_some_iff.1 hx).1
 have hk := hulOk (openPre_zero hp).1
 have h8 : i < 8 := by have := hk.n8; rw [hulOf_len] at this; omega
 have hs : 2 ^ i < 2 ^ (hulOf h).ps.length := by rw [hulOf_len]; exact Nat.pow_lt_pow_right (by decide) hi
 have hf : Feas (hulOf h) L := ⟨wt, hT⟩
 obtain ⟨a1, w1, a2, a3⟩ := leastV_is hp hN hf hs
 obtain ⟨b1, w2, b2, b3⟩ := mostV_is hp hN hf hs
 have c1 := a1 wt hT
 have c2 := b1 wt hT
 rw [sumS_single _ h8] at a3 b3 c1 c2
 have d1 := (a2.1 i (prtOf x) (hulOf_at hx)).1
 have d2 := (b2.1 i (prtOf x) (hulOf_at hx)).2
 exact ⟨by rw [a3] at d1; exact d1, c1, c2, by rw [b3] at d2; exact d2⟩
theorem fineP_finer {x : StP} {s : Int × Int} (h1 : x.wlo ≤ s.1) (h2 : s.2 ≤ x.whi) : Finer x (fineP x s) := ⟨rfl, rfl, rfl, rfl, rfl, h1, h2⟩
theorem FinerH.names {h f : StH} (H : FinerH h f) : f.ps.map StP.name = h.ps.map StP.name := by
 apply List.ext_getElem?
 intro i
 rw [List.getElem?_map, List.getElem?_map]
 cases hx : h.ps[i]? with
 | none =>
  have : f.ps[i]? = none := by rw [List.getElem?_eq_none_iff] at hx ⊢; rw [H.len]; exact hx
  rw [this]
 | some x =>
  obtain ⟨y, hy, hF⟩ := H.each i x hx
  rw [hy, Option.map_some, Option.map_some, hF.name]
theorem FinerH.check {h f : StH} (H : FinerH h f) (hc : chk5 h = (0, 0, 0)) (hs : ∀ (i : Nat) (y : StP), f.ps[i]? = some y → y.wlo ≤ y.whi) : chk5 f = (0, 0, 0) := by
 obtain ⟨hk, ha⟩ := chk5_iff.1 (show (chk5 h).2.2 = 0 by rw [hc])
 have hst : ∀ (i : Nat) (y : StP), f.ps[i]? = some y → StOk y := fun i y hy => by
  have hi : i < h.ps.length := by rw [← H.len]; exact (List.getElem?_eq_some_iff.1 hy).1
  obtain ⟨y', hy', hF⟩ := H.each i _ (List.getElem?_eq_getElem hi)
  rw [hy] at hy'
  injection hy' with hy'
  subst hy'
  have hx := hk.ps i _ (List.getElem?_eq_getElem hi)
  have := hs i y hy
  have := hF.lo
  have := hF.hi
  exact ⟨by rw [hF.pos]; exact hx.p0, by rw [hF.pos]; exact hx.p1, by rw [hF.keel]; exact hx.k0, by rw [hF.keel]; exact hx.k1, by have := hx.w0; omega, by omega, by have := hx.w2; omega, by rw [hF.llo]; exact hx.l0, by rw [hF.llo, hF.lhi]; exact hx.l1, by rw [hF.lhi]; exact hx.l2⟩
 refine chk5_ok (chk5_iff.2 ⟨⟨by rw [H.len]; exact hk.n1, by rw [H.len]; exact hk.n10, by rw [H.aft]; exact hk.a0, by rw [H.aft]; exact hk.a1, by rw [H.fore]; exact hk.f0, by rw [H.fore]; exact hk.f1, by rw [H.aft, H.fore]; exact hk.af, hst⟩, fun i hi => ?_⟩)
 rw [H.len] at hi
 have hx := List.getElem?_eq_getElem hi
 obtain ⟨y, hy, hF⟩ := H.each i _ hx
 have h0 := ha i hi
 unfold spE at h0 ⊢
 rw [hx] at h0
 rw [hy]
 simp only at h0 ⊢
 have hn : (f.ps.take i).map StP.name = (h.ps.take i).map StP.name := by rw [List.map_take, List.map_take, H.names]
 rw [hn, hF.name]
 split at h0
 ·rename_i h9
  rw [if_pos h9]
  exact partC_ok.2 (hst i y hy)
 ·rename_i h9
  exact absurd h0 h9
theorem fine_all {h : StH} {L : List Wgh} {N : List Nd} {wt : Nat → Int} {tl : List Int} (hc : chk5 h = (0, 0, 0)) (hp : openPre (hulOf h) L = 0) (hN : IsTree (hulOf h) L N) (hT : TruthP (hulOf h) L wt) (ht : TruthOf h (rowW wt h.ps.length) tl) :
  FinerH h (fineH h (spF h N)) ∧ chk5 (fineH h (spF h N)) = (0, 0, 0) ∧ TruthOf (fineH h (spF h N)) (rowW wt h.ps.length) tl := by
 have hF : FinerH h (fineH h (spF h N)) := ⟨rfl, rfl, fineH_len _ _, fun i x hx => ⟨_, fineH_at hx, fineP_finer (spF_in hp hN hT hx).1 (spF_in hp hN hT hx).2.2.2⟩⟩
 have hof : ∀ (i : Nat) (y : StP), (fineH h (spF h N)).ps[i]? = some y → ∃ x, h.ps[i]? = some x ∧ y = fineP x (spF h N i) := fun i y hy => by
  have hi : i < h.ps.length := by rw [← fineH_len h (spF h N)]; exact (List.getElem?_eq_some_iff.1 hy).1
  have hx := List.getElem?_eq_getElem hi
  have hy' := fineH_at (sp := spF h N) hx
  rw [hy] at hy'
  injection hy' with hy'
  exact ⟨_, hx, hy'⟩
 refine ⟨hF, hF.check hc fun i y hy => ?_, ?_⟩
 ·obtain ⟨x, hx, rfl⟩ := hof i y hy
  have := spF_in hp hN hT hx
  exact Int.le_trans this.2.1 this.2.2.1
 ·refine ⟨by rw [fineH_len]; exact ht.1, by rw [fineH_len]; exact ht.2.1, fun i y hy => ?_⟩
  obtain ⟨x, hx, rfl⟩ := hof i y hy
  have h1 := spF_in hp hN hT hx
  have h2 := ht.2.2 i x hx
  have hi : i < h.ps.length := (List.getElem?_eq_some_iff.1 hx).1
  rw [rowW_at _ hi, Option.getD_some] at h2 ⊢
  exact ⟨h1.2.1, h1.2.2.1, h2.2.2.1, h2.2.2.2⟩
theorem FinerH.truth {h f : StH} (H : FinerH h f) (tw tl : List Int) (k : Nat) (w : Int) : truthK f tw tl k w = truthK h tw tl k w := by
 have key : ∀ (h f : StH), FinerH h f → ∀ n, accP (truthT tw tl h.aft h.fore k w) h.ps n = accP (truthT tw tl f.aft f.fore k w) f.ps n := fun h f H n => by
  induction n with
  | zero => rfl
  | succ n ih =>
   rw [accP, accP, ih]
   cases hx : h.ps[n]? with
   | none =>
    have : f.ps[n]? = none := by rw [List.getElem?_eq_none_iff] at hx ⊢; rw [H.len]; exact hx
    rw [this]
   | some x =>
    obtain ⟨y, hy, hF⟩ := H.each n x hx
    rw [hy]
    simp only
    unfold truthT armK overP
    rw [hF.pos, hF.keel, H.aft, H.fore]
 unfold truthK
 rw [H.len, key h f H]
theorem FinerH.bends {h f : StH} (H : FinerH h f) (lo hi : Int) : bendsL f lo hi = bendsL h lo hi := by
 unfold bendsL bendTo
 rw [H.len, List.map_take, List.map_take, H.keels]
theorem FinerH.first {h f : StH} (H : FinerH h f) {lo hi : Int} (h0 : (firstH h lo hi).1 = 0) : (firstH f lo hi).1 = 0 := by
 unfold firstH at h0 ⊢
 rw [H.bends]
 exact firstL_mono (fun w hw => H.why w hw) _ h0
theorem FinerH.stands {h f : StH} (H : FinerH h f) {tw tl : List Int} (ht : TruthOf f tw tl) {lo hi : Int} (hlh : lo ≤ hi) (h0 : (firstH f lo hi).1 = 0) {w : Int} (h1 : lo ≤ w) (h2 : w ≤ hi) : whyOf (truthK h tw tl 0 w) (truthK h tw tl 1 w) (truthK h tw tl 2 w) = 0 := by
 have := stands_truth ht (bendsL_ok f hlh) h0 h1 h2
 rwa [H.truth, H.truth, H.truth] at this
theorem told_fine {h : StH} {l : List Wgh} {us ar : List Int} (hc : chk5 h = (0, 0, 0)) (hp : openPre (hulOf h) l = 0) (hu : ∀ x ∈ ar, 0 ≤ x ∧ x ≤ 4294967295) :
  openPre (hulOf h) (toldL ar (twF h us) l) = 0 ∧ TruthP (hulOf h) (toldL ar (twF h us) l) (twF h us) := by
 have hk := (chk5_iff.1 (show (chk5 h).2.2 = 0 by rw [hc])).1
 have ht := truthF_of hk us
 refine told_pre hp hu fun i p hpi => ?_
 have hi : i < h.ps.length := by rw [← hulOf_len]; exact (List.getElem?_eq_some_iff.1 hpi).1
 have hx := List.getElem?_eq_getElem hi
 rw [hulOf_at hx] at hpi
 injection hpi with hpi
 subst hpi
 have := ht.2.2 i _ hx
 rw [rowW_at _ hi, Option.getD_some] at this
 exact ⟨this.1, this.2.1⟩
theorem bears25_1 (A AW AL : Option Addr) (B bl : Nat) (w : World) (hH : H5Rd w B hull5 A 3) (hT : T5Rd w B heavyW heavyL AW AL) (hB : B ≤ w.heap.size)
  (hL : w.cell? ⟨bl, 0, none⟩ = some (iv 300) ∧ w.cell? ⟨bl, 1, none⟩ = some (iv 525000) ∧ w.cell? ⟨bl, 2, none⟩ = some (iv 700) ∧ w.cell? ⟨bl, 3, none⟩ = some (iv 1575000)) :
  Calls Tryz.prog 25 #[.agg #[.slice A 3 3, iv 200, iv 800], .agg #[.slice AW 3 3, .slice AL 3 3], iv 0, .slice (some ⟨bl, 0, none⟩) 1 2] w (Rt w (.tuple #[.bool false, iv 0])) := by
 obtain ⟨gt, hgt⟩ := ex (w.heap.size + 1)
 obtain ⟨W1, hW1⟩ := ex (((w.alloc (.cells #[.slice A 3 3, iv 200, iv 800] 24)).alloc (.cells #[.slice AW 3 3, .slice AL 3 3] 49)))
 have hbW1 : BW w W1 := by rw [← hW1]; exact (belowA (belowA (belowR _) _) _)
 have hzW1 : W1.heap.size = w.heap.size + 2 := by rw [← hW1]; simp
 have k0 : Blk W1 w.heap.size 24 #[.slice A 3 3, iv 200, iv 800] := by
  rw [← hW1]
  exact (Blk.new w 24 #[.slice A 3 3, iv 200, iv 800]).alloc (.cells #[.slice AW 3 3, .slice AL 3 3] 49)
 have k1 : Blk W1 gt 49 #[.slice AW 3 3, .slice AL 3 3] := by
  rw [← hW1, ← hgt]
  have := Blk.new (w.alloc (.cells #[.slice A 3 3, iv 200, iv 800] 24)) 49 #[.slice AW 3 3, .slice AL 3 3]
  rw [World.size_alloc] at this
  exact this
 have HOP : Hid (Calls Tryz.prog 55 #[.agg #[.slice A 3 3, iv 200, iv 800], .agg #[.slice AW 3 3, .slice AL 3 3], iv 0] W1 (Rt W1 (.tuple #[.agg #[.slice A 3 3, iv 200, iv 800], iv 0]))) := Lq (open55_any hull5 A B 3 heavyW heavyL AW AL 3 3 0 W1 (hH.below hbW1 hB) (hT.below hbW1 hB) (by omega) hull5_chk heavy_truth (by omega) (by omega))
 have hin : ∀ V, BW W1 V → Calls Tryz.prog 56 #[.agg #[.slice A 3 3, iv 200, iv 800], .agg #[.slice AW 3 3, .slice AL 3 3], iv 0] V (Rt V (sumsV (truthK hull5 heavyW heavyL 0 0) (truthK hull5 heavyW heavyL 1 0) (truthK hull5 heavyW heavyL 2 0))) := fun V hb => in56_any hull5 A B 3 heavyW heavyL AW AL 3 3 0 V ((hH.below hbW1 hB).below hb (by omega)) ((hT.below hbW1 hB).below hb (by omega)) (by have := hb.size; omega) hull5_ok heavy_truth (by omega) (by omega)
 rw [val_in0.1, val_in0.2.1, val_in0.2.2] at hin
 have HIN := Lq hin
 have HB1 := Lq hbW1
 have HC : Hid (∀ V, BW W1 V → Blk V gt 49 #[.slice AW 3 3, .slice AL 3 3] ∧ Blk V w.heap.size 24 #[.slice A 3 3, iv 200, iv 800]) := Lq fun V hb => ⟨k1.same (hb.block _ k1.lt), k0.same (hb.block _ k0.lt)⟩
 have HLL : Hid (∀ V, BW W1 V → (V.cell? ⟨bl, 0, none⟩ = some (iv 300) ∧ V.cell? ⟨bl, 1, none⟩ = some (iv 525000)) ∧ V.cell? ⟨bl, 2, none⟩ = some (iv 700) ∧ V.cell? ⟨bl, 3, none⟩ = some (iv 1575000)) := Lq fun V hb => ⟨⟨keepC hb (keepC hbW1 hL.1), keepC hb (keepC hbW1 hL.2.1)⟩, keepC hb (keepC hbW1 hL.2.2.1), keepC hb (keepC hbW1 hL.2.2.2)⟩
 have HO : Hid (∀ (x : Int), inB 200 800 x = true → ∀ (g : Nat) (V : World), V.cell? ⟨g, 0, none⟩ = some (iv x) → Calls Tryz.prog 67 #[iv 200, iv 800, .slice (some ⟨g, 0, none⟩) 1 1] V (Rt V (.bool (!true)))) := Lq fun x hx g V hc => bey_oneB hx g V hc
 have HP : Hid (∀ (y x : Int), inB 0 y x = true → ∀ (g : Nat) (V : World), V.cell? ⟨g, 0, none⟩ = some (iv x) → Calls Tryz.prog 67 #[iv 0, iv y, .slice (some ⟨g, 0, none⟩) 1 1] V (Rt V (.bool (!true)))) := Lq fun y x hx g V hc => bey_oneB hx g V hc
 have p0 := k0.c 0
 have p1 := k0.c 1
 have p2 := k0.c 2
 have r0 := k1.c 0
 have r1 := k1.c 1
 clear hH hT hbW1 k0 k1 hin hL
 go_enter Tryz.func25, Tryz.ntmps25
 go_wp2_with fail
 refine HOP.out.mono ?_
 rintro e w2 ⟨rfl, hb2⟩
 obtain ⟨g8, hg8⟩ := ex w2.heap.size
 obtain ⟨W3, hW3⟩ := ex (w2.alloc (.cells #[.slice A 3 3, iv 200, iv 800] 119))
 have hb3 : BW w2 W3 := by rw [← hW3]; exact belowA (belowR _) _
 have k8 : Blk W3 g8 119 #[.slice A 3 3, iv 200, iv 800] := by rw [← hW3, ← hg8]; exact Blk.new w2 119 _
 have X3 := Lq (belowT hb2 hb3)
 have hz8 := hb2.size
 have r0 := (HC.out _ X3.out).1.c 0
 have r1 := (HC.out _ X3.out).1.c 1
 have p0 := k8.c 0
 have p1 := k8.c 1
 have p2 := k8.c 2
 clear hb2 hb3 k8 hW1 HOP
 go_wp2_with fail
 refine (HIN.out _ X3.out).mono ?_
 rintro e w4 ⟨rfl, hb4⟩
 have X4 := Lq (belowT X3.out hb4)
 clear hb4 p0 p1 p2 r0 r1 hW3 HIN
 obtain ⟨gs, hgs⟩ := ex w4.heap.size
 obtain ⟨W5, hW5⟩ := ex (w4.alloc (.cells #[iv 3500, iv 1400000, iv 700000] 123))
 have hb5 : BW w4 W5 := by rw [← hW5]; exact belowA (belowR _) _
 have k5 : Blk W5 gs 123 #[iv 3500, iv 1400000, iv 700000] := by rw [← hW5, ← hgs]; exact Blk.new w4 123 _
 have X5 := Lq (belowT X4.out hb5)
 have hz4 := X4.out.size
 have hgsw : w.heap.size < gs := by omega
 have HFX : Hid (∀ V, BW W5 V → V.cell? ⟨w.heap.size, 1, none⟩ = some (iv 200) ∧ V.cell? ⟨w.heap.size, 2, none⟩ = some (iv 800) ∧ V.cell? ⟨gs, 0, none⟩ = some (iv 3500)) := Lq fun V hb => ⟨(HC.out _ (belowT X5.out hb)).2.cell 1, (HC.out _ (belowT X5.out hb)).2.cell 2, (k5.same (hb.block _ k5.lt)).cell 0⟩
 have HL : Hid (∀ V, BW W5 V → (V.cell? ⟨bl, 0, none⟩ = some (iv 300) ∧ V.cell? ⟨bl, 1, none⟩ = some (iv 525000)) ∧ V.cell? ⟨bl, 2, none⟩ = some (iv 700) ∧ V.cell? ⟨bl, 3, none⟩ = some (iv 1575000)) := Lq fun V hb => HLL.out V (belowT X5.out hb)
 have HK5 : Hid (∀ V, BW W5 V → V.cell? ⟨gs, 1, none⟩ = some (iv 1400000)) := Lq fun V hb => (k5.same (hb.block _ k5.lt)).cell 1
 have p1 := (HFX.out _ (belowR _)).1
 have p2 := (HFX.out _ (belowR _)).2.1
 clear hb5 k5
 go_wp2_with fail
 clear p1 p2 hW5 hgs
 obtain ⟨wq, hwq⟩ : ∃ wq : World, wq = W5 := ⟨_, rfl⟩
 have HBQ : Hid (BW W5 wq) := Lq (by rw [hwq]; exact belowR _)
 rw [← hwq]
 clear hwq
 go_loopw [14, 15, 44] (fun va vt vj wr => ((vj = iv 0 ∧ va = iv 0 ∧ vt = iv 0) ∨ (vj = iv 1 ∧ va = iv 525000 ∧ vt = iv 52500000)) ∧ Hid (BW W5 wr)) (fun _ _ vj _ => 1 - (intOf vj).toNat)
 case atStart => exact ⟨by simp, HBQ⟩
 case round =>
  clear HBQ
  obtain ⟨hcase, HBW⟩ := hrel
  rcases hcase with ⟨rfl, rfl, rfl⟩ | ⟨rfl, rfl, rfl⟩
  ·obtain ⟨y0, y1⟩ := HL.out _ HBW.out
   have d0 := (HFX.out _ HBW.out).1
   have d1 := (HFX.out _ HBW.out).2.1
   have d2 := (HFX.out _ HBW.out).2.2
   obtain ⟨x0, x1⟩ := y0
   obtain ⟨gx, hgx⟩ := ex wr.heap.size
   obtain ⟨W6, hW6⟩ := ex (wr.alloc (.cells #[iv 300, iv 525000] 89))
   have hb6 : BW wr W6 := by rw [← hW6]; exact belowA (belowR _) _
   have k6 : Blk W6 gx 89 #[iv 300, iv 525000] := by rw [← hW6, ← hgx]; exact Blk.new wr 89 _
   have X6 := Lq (belowT HBW.out hb6)
   have HG : Hid (∀ V, BW W6 V → V.cell? ⟨gx, 0, none⟩ = some (iv 300) ∧ V.cell? ⟨gx, 1, none⟩ = some (iv 525000)) := Lq fun V hb => ⟨(k6.same (hb.block _ k6.lt)).cell 0, (k6.same (hb.block _ k6.lt)).cell 1⟩
   have hz6 : gx < W6.heap.size := k6.lt
   have e0 := (HFX.out _ X6.out).1
   have e1 := (HFX.out _ X6.out).2.1
   obtain ⟨g0, g1⟩ := HG.out W6 (belowR _)
   have hgs : gs < gx := by have := (HFX.out _ HBW.out).2.2; have := lt_of_cell d2; omega
   have hzg : w.heap.size < gx := by omega
   clear hb6 k6 d0 d1 d2
   go_wp2_with fail
   clear hW6 hgx
   refine (HO.out 300 (by decide) _ _ (by go_simp)).mono ?_
   rintro e w7 ⟨rfl, hb⟩
   have hb7 := belowT (belowA (belowR W6) _) hb
   have X7 := Lq (belowT X6.out hb7)
   have HB7 := Lq hb7
   obtain ⟨g0, g1⟩ := HG.out _ hb7
   have e1 := (HFX.out _ X7.out).2.2
   clear hb hb7 e0
   go_wp2_with fail
   refine (HP.out 2100000 525000 (by decide) _ _ (by go_simp)).mono ?_
   rintro e w8 ⟨rfl, hb⟩
   have hb8 := belowT (belowA HB7.out _) hb
   have X8 := Lq (belowT X6.out hb8)
   obtain ⟨g0, g1⟩ := HG.out _ hb8
   have e0 := (HFX.out _ X8.out).1
   clear hb hb8 e1
   go_wp2_with fail
   go_roundw
   case rel => exact ⟨by simp, X8⟩
   case measure => simp [intOf]
  ·have d2 := (HFX.out _ HBW.out).2.2
   have d3 := HK5.out _ HBW.out
   go_wp2_with fail
   go_ret2
   exact ⟨rfl, belowT HB1.out (belowT X5.out HBW.out)⟩
theorem bears25_2 (A AW AL : Option Addr) (B bl : Nat) (w : World) (hH : H5Rd w B hull5 A 3) (hT : T5Rd w B heavyW heavyL AW AL) (hB : B ≤ w.heap.size)
  (hL : w.cell? ⟨bl, 0, none⟩ = some (iv 300) ∧ w.cell? ⟨bl, 1, none⟩ = some (iv 525000) ∧ w.cell? ⟨bl, 2, none⟩ = some (iv 700) ∧ w.cell? ⟨bl, 3, none⟩ = some (iv 1575000)) :
  Calls Tryz.prog 25 #[.agg #[.slice A 3 3, iv 200, iv 800], .agg #[.slice AW 3 3, .slice AL 3 3], iv 0, .slice (some ⟨bl, 0, none⟩) 2 2] w (Rt w (.tuple #[.bool true, iv 0])) := by
 obtain ⟨gt, hgt⟩ := ex (w.heap.size + 1)
 obtain ⟨W1, hW1⟩ := ex (((w.alloc (.cells #[.slice A 3 3, iv 200, iv 800] 24)).alloc (.cells #[.slice AW 3 3, .slice AL 3 3] 49)))
 have hbW1 : BW w W1 := by rw [← hW1]; exact (belowA (belowA (belowR _) _) _)
 have hzW1 : W1.heap.size = w.heap.size + 2 := by rw [← hW1]; simp
 have k0 : Blk W1 w.heap.size 24 #[.slice A 3 3, iv 200, iv 800] := by
  rw [← hW1]
  exact (Blk.new w 24 #[.slice A 3 3, iv 200, iv 800]).alloc (.cells #[.slice AW 3 3, .slice AL 3 3] 49)
 have k1 : Blk W1 gt 49 #[.slice AW 3 3, .slice AL 3 3] := by
  rw [← hW1, ← hgt]
  have := Blk.new (w.alloc (.cells #[.slice A 3 3, iv 200, iv 800] 24)) 49 #[.slice AW 3 3, .slice AL 3 3]
  rw [World.size_alloc] at this
  exact this
 have HOP : Hid (Calls Tryz.prog 55 #[.agg #[.slice A 3 3, iv 200, iv 800], .agg #[.slice AW 3 3, .slice AL 3 3], iv 0] W1 (Rt W1 (.tuple #[.agg #[.slice A 3 3, iv 200, iv 800], iv 0]))) := Lq (open55_any hull5 A B 3 heavyW heavyL AW AL 3 3 0 W1 (hH.below hbW1 hB) (hT.below hbW1 hB) (by omega) hull5_chk heavy_truth (by omega) (by omega))
 have hin : ∀ V, BW W1 V → Calls Tryz.prog 56 #[.agg #[.slice A 3 3, iv 200, iv 800], .agg #[.slice AW 3 3, .slice AL 3 3], iv 0] V (Rt V (sumsV (truthK hull5 heavyW heavyL 0 0) (truthK hull5 heavyW heavyL 1 0) (truthK hull5 heavyW heavyL 2 0))) := fun V hb => in56_any hull5 A B 3 heavyW heavyL AW AL 3 3 0 V ((hH.below hbW1 hB).below hb (by omega)) ((hT.below hbW1 hB).below hb (by omega)) (by have := hb.size; omega) hull5_ok heavy_truth (by omega) (by omega)
 rw [val_in0.1, val_in0.2.1, val_in0.2.2] at hin
 have HIN := Lq hin
 have HB1 := Lq hbW1
 have HC : Hid (∀ V, BW W1 V → Blk V gt 49 #[.slice AW 3 3, .slice AL 3 3] ∧ Blk V w.heap.size 24 #[.slice A 3 3, iv 200, iv 800]) := Lq fun V hb => ⟨k1.same (hb.block _ k1.lt), k0.same (hb.block _ k0.lt)⟩
 have HLL : Hid (∀ V, BW W1 V → (V.cell? ⟨bl, 0, none⟩ = some (iv 300) ∧ V.cell? ⟨bl, 1, none⟩ = some (iv 525000)) ∧ V.cell? ⟨bl, 2, none⟩ = some (iv 700) ∧ V.cell? ⟨bl, 3, none⟩ = some (iv 1575000)) := Lq fun V hb => ⟨⟨keepC hb (keepC hbW1 hL.1), keepC hb (keepC hbW1 hL.2.1)⟩, keepC hb (keepC hbW1 hL.2.2.1), keepC hb (keepC hbW1 hL.2.2.2)⟩
 have HO : Hid (∀ (x : Int), inB 200 800 x = true → ∀ (g : Nat) (V : World), V.cell? ⟨g, 0, none⟩ = some (iv x) → Calls Tryz.prog 67 #[iv 200, iv 800, .slice (some ⟨g, 0, none⟩) 1 1] V (Rt V (.bool (!true)))) := Lq fun x hx g V hc => bey_oneB hx g V hc
 have HP : Hid (∀ (y x : Int), inB 0 y x = true → ∀ (g : Nat) (V : World), V.cell? ⟨g, 0, none⟩ = some (iv x) → Calls Tryz.prog 67 #[iv 0, iv y, .slice (some ⟨g, 0, none⟩) 1 1] V (Rt V (.bool (!true)))) := Lq fun y x hx g V hc => bey_oneB hx g V hc
 have p0 := k0.c 0
 have p1 := k0.c 1
 have p2 := k0.c 2
 have r0 := k1.c 0
 have r1 := k1.c 1
 clear hH hT hbW1 k0 k1 hin hL
 go_enter Tryz.func25, Tryz.ntmps25
 go_wp2_with fail
 refine HOP.out.mono ?_
 rintro e w2 ⟨rfl, hb2⟩
 obtain ⟨g8, hg8⟩ := ex w2.heap.size
 obtain ⟨W3, hW3⟩ := ex (w2.alloc (.cells #[.slice A 3 3, iv 200, iv 800] 119))
 have hb3 : BW w2 W3 := by rw [← hW3]; exact belowA (belowR _) _
 have k8 : Blk W3 g8 119 #[.slice A 3 3, iv 200, iv 800] := by rw [← hW3, ← hg8]; exact Blk.new w2 119 _
 have X3 := Lq (belowT hb2 hb3)
 have hz8 := hb2.size
 have r0 := (HC.out _ X3.out).1.c 0
 have r1 := (HC.out _ X3.out).1.c 1
 have p0 := k8.c 0
 have p1 := k8.c 1
 have p2 := k8.c 2
 clear hb2 hb3 k8 hW1 HOP
 go_wp2_with fail
 refine (HIN.out _ X3.out).mono ?_
 rintro e w4 ⟨rfl, hb4⟩
 have X4 := Lq (belowT X3.out hb4)
 clear hb4 p0 p1 p2 r0 r1 hW3 HIN
 obtain ⟨gs, hgs⟩ := ex w4.heap.size
 obtain ⟨W5, hW5⟩ := ex (w4.alloc (.cells #[iv 3500, iv 1400000, iv 700000] 123))
 have hb5 : BW w4 W5 := by rw [← hW5]; exact belowA (belowR _) _
 have k5 : Blk W5 gs 123 #[iv 3500, iv 1400000, iv 700000] := by rw [← hW5, ← hgs]; exact Blk.new w4 123 _
 have X5 := Lq (belowT X4.out hb5)
 have hz4 := X4.out.size
 have hgsw : w.heap.size < gs := by omega
 have HFX : Hid (∀ V, BW W5 V → V.cell? ⟨w.heap.size, 1, none⟩ = some (iv 200) ∧ V.cell? ⟨w.heap.size, 2, none⟩ = some (iv 800) ∧ V.cell? ⟨gs, 0, none⟩ = some (iv 3500)) := Lq fun V hb => ⟨(HC.out _ (belowT X5.out hb)).2.cell 1, (HC.out _ (belowT X5.out hb)).2.cell 2, (k5.same (hb.block _ k5.lt)).cell 0⟩
 have HL : Hid (∀ V, BW W5 V → (V.cell? ⟨bl, 0, none⟩ = some (iv 300) ∧ V.cell? ⟨bl, 1, none⟩ = some (iv 525000)) ∧ V.cell? ⟨bl, 2, none⟩ = some (iv 700) ∧ V.cell? ⟨bl, 3, none⟩ = some (iv 1575000)) := Lq fun V hb => HLL.out V (belowT X5.out hb)
 have HK5 : Hid (∀ V, BW W5 V → V.cell? ⟨gs, 1, none⟩ = some (iv 1400000)) := Lq fun V hb => (k5.same (hb.block _ k5.lt)).cell 1
 have p1 := (HFX.out _ (belowR _)).1
 have p2 := (HFX.out _ (belowR _)).2.1
 clear hb5 k5
 go_wp2_with fail
 clear p1 p2 hW5 hgs
 obtain ⟨wq, hwq⟩ : ∃ wq : World, wq = W5 := ⟨_, rfl⟩
 have HBQ : Hid (BW W5 wq) := Lq (by rw [hwq]; exact belowR _)
 rw [← hwq]
 clear hwq
 go_loopw [14, 15, 44] (fun va vt vj wr => ((vj = iv 0 ∧ va = iv 0 ∧ vt = iv 0) ∨ (vj = iv 1 ∧ va = iv 525000 ∧ vt = iv 52500000) ∨ (vj = iv 2 ∧ va = iv 2100000 ∧ vt = iv 840000000)) ∧ Hid (BW W5 wr)) (fun _ _ vj _ => 2 - (intOf vj).toNat)
 case atStart => exact ⟨by simp, HBQ⟩
 case round =>
  clear HBQ
  obtain ⟨hcase, HBW⟩ := hrel
  rcases hcase with ⟨rfl, rfl, rfl⟩ | ⟨rfl, rfl, rfl⟩ | ⟨rfl, rfl, rfl⟩
  ·obtain ⟨y0, y1⟩ := HL.out _ HBW.out
   have d0 := (HFX.out _ HBW.out).1
   have d1 := (HFX.out _ HBW.out).2.1
   have d2 := (HFX.out _ HBW.out).2.2
   obtain ⟨x0, x1⟩ := y0
   obtain ⟨gx, hgx⟩ := ex wr.heap.size
   obtain ⟨W6, hW6⟩ := ex (wr.alloc (.cells #[iv 300, iv 525000] 89))
   have hb6 : BW wr W6 := by rw [← hW6]; exact belowA (belowR _) _
   have k6 : Blk W6 gx 89 #[iv 300, iv 525000] := by rw [← hW6, ← hgx]; exact Blk.new wr 89 _
   have X6 := Lq (belowT HBW.out hb6)
   have HG : Hid (∀ V, BW W6 V → V.cell? ⟨gx, 0, none⟩ = some (iv 300) ∧ V.cell? ⟨gx, 1, none⟩ = some (iv 525000)) := Lq fun V hb => ⟨(k6.same (hb.block _ k6.lt)).cell 0, (k6.same (hb.block _ k6.lt)).cell 1⟩
   have hz6 : gx < W6.heap.size := k6.lt
   have e0 := (HFX.out _ X6.out).1
   have e1 := (HFX.out _ X6.out).2.1
   obtain ⟨g0, g1⟩ := HG.out W6 (belowR _)
   have hgs : gs < gx := by have := (HFX.out _ HBW.out).2.2; have := lt_of_cell d2; omega
   have hzg : w.heap.size < gx := by omega
   clear hb6 k6 d0 d1 d2
   go_wp2_with fail
   clear hW6 hgx
   refine (HO.out 300 (by decide) _ _ (by go_simp)).mono ?_
   rintro e w7 ⟨rfl, hb⟩
   have hb7 := belowT (belowA (belowR W6) _) hb
   have X7 := Lq (belowT X6.out hb7)
   have HB7 := Lq hb7
   obtain ⟨g0, g1⟩ := HG.out _ hb7
   have e1 := (HFX.out _ X7.out).2.2
   clear hb hb7 e0
   go_wp2_with fail
   refine (HP.out 2100000 525000 (by decide) _ _ (by go_simp)).mono ?_
   rintro e w8 ⟨rfl, hb⟩
   have hb8 := belowT (belowA HB7.out _) hb
   have X8 := Lq (belowT X6.out hb8)
   obtain ⟨g0, g1⟩ := HG.out _ hb8
   have e0 := (HFX.out _ X8.out).1
   clear hb hb8 e1
   go_wp2_with fail
   go_roundw
   case rel => exact ⟨by simp, X8⟩
   case measure => simp [intOf]
  ·obtain ⟨y0, y1⟩ := HL.out _ HBW.out
   have d0 := (HFX.out _ HBW.out).1
   have d1 := (HFX.out _ HBW.out).2.1
   have d2 := (HFX.out _ HBW.out).2.2
   obtain ⟨x2, x3⟩ := y1
   obtain ⟨gx, hgx⟩ := ex wr.heap.size
   obtain ⟨W6, hW6⟩ := ex (wr.alloc (.cells #[iv 700, iv 1575000] 89))
   have hb6 : BW wr W6 := by rw [← hW6]; exact belowA (belowR _) _
   have k6 : Blk W6 gx 89 #[iv 700, iv 1575000] := by rw [← hW6, ← hgx]; exact Blk.new wr 89 _
   have X6 := Lq (belowT HBW.out hb6)
   have HG : Hid (∀ V, BW W6 V → V.cell? ⟨gx, 0, none⟩ = some (iv 700) ∧ V.cell? ⟨gx, 1, none⟩ = some (iv 1575000)) := Lq fun V hb => ⟨(k6.same (hb.block _ k6.lt)).cell 0, (k6.same (hb.block _ k6.lt)).cell 1⟩
   have hz6 : gx < W6.heap.size := k6.lt
   have e0 := (HFX.out _ X6.out).1
   have e1 := (HFX.out _ X6.out).2.1
   obtain ⟨g0, g1⟩ := HG.out W6 (belowR _)
   have hgs : gs < gx := by have := (HFX.out _ HBW.out).2.2; have := lt_of_cell d2; omega
   have hzg : w.heap.size < gx := by omega
   clear hb6 k6 d0 d1 d2
   go_wp2_with fail
   clear hW6 hgx
   refine (HO.out 700 (by decide) _ _ (by go_simp)).mono ?_
   rintro e w7 ⟨rfl, hb⟩
   have hb7 := belowT (belowA (belowR W6) _) hb
   have X7 := Lq (belowT X6.out hb7)
   have HB7 := Lq hb7
   obtain ⟨g0, g1⟩ := HG.out _ hb7
   have e1 := (HFX.out _ X7.out).2.2
   clear hb hb7 e0
   go_wp2_with fail
   refine (HP.out 1575000 1575000 (by decide) _ _ (by go_simp)).mono ?_
   rintro e w8 ⟨rfl, hb⟩
   have hb8 := belowT (belowA HB7.out _) hb
   have X8 := Lq (belowT X6.out hb8)
   obtain ⟨g0, g1⟩ := HG.out _ hb8
   have e0 := (HFX.out _ X8.out).1
   clear hb hb8 e1
   go_wp2_with fail
   go_roundw
   case rel => exact ⟨by simp, X8⟩
   case measure => simp [intOf]
  ·have d2 := (HFX.out _ HBW.out).2.2
   have d3 := HK5.out _ HBW.out
   go_wp2_with fail
   go_ret2
   exact ⟨rfl, belowT HB1.out (belowT X5.out HBW.out)⟩
theorem wpIn_region_late {P : Program} {ops : Array Oper} {Q : Exit → Act → World → Prop} {l n : Nat} {S : World → Prop} {late : Nat → Bool} {id : Nat} {a : Act} {w : World} (hm : P.follows .mixedOrders = true) (hd : noDefer ops = true)
  (h : wpAnyL P .any ops (OnlyN Q) S late ops.size (Array.replicate ops.size false) a w.drew) : (Code.region id ops true).wpIn (Fence.wide.inRound l) n P Q a w :=
 wpIn_mono (wpIn_region_any hm (wpAny_lift (noDefer_spec hd) OnlyN.shut _ _ _ _ (wpAny_of_late _ _ _ _ h))) OnlyN.imp
noncomputable def ops28_23 : Array Oper := opsOf (regionOf2 Tryz.f28 23)
theorem reg28_23_0 {Q : Exit → Act → World → Prop} {V : World} {m l2 : Nat} {g18 g3 gp b o1 : Nat} {AR : Int} {z0 z1 z2 z5 z6 z7 z8 z9 z10 z11 z12 z13 z14 z15 z16 z17 z19 z20 z21 z22 z23 z24 z25 z26 z27 z28 z29 z30 z31 z32 z33 z34 z35 z36 z37 z38 z39 z40 z41 z42 z43 z44 z45 z46 z47 z48 z49 z50 z51 z52 z53 z54 z55 z56 z57 z58 z59 z60 z61 z62 z63 z64 z65 z66 z67 z68 z69 z70 z71 z72 z73 z74 z75 z76 z77 z78 z79 z80 z81 z82 z83 z84 z85 z86 z87 z88 z89 z90 z91 z92 z93 z94 z95 z96 z97 z98 z99 z100 z101 z102 z103 z104 z105 z106 z107 z108 z109 z110 z111 z112 z113 z114 z115 : Value} (hA : ∀ W, BW V W → Calls Tryz.prog 102 #[.agg #[.string ⟨#[109, 105, 100]⟩, iv 400, iv 500, iv 600, iv 100, iv 4, iv 5]] W (Rt W (iv AR)))
  (hS : ∀ W, BW V W → W.cell? ⟨g18, 0, none⟩ = some (.func (.func 102) #[] #[]) ∧ W.cell? ⟨g3, 0, none⟩ = some (.slice (some ⟨b, o1, none⟩) 3 3) ∧ W.cell? ⟨gp, 0, none⟩ = some (iv 1) ∧ W.cell? ⟨b, o1 + 7, none⟩ = some (.string ⟨#[109, 105, 100]⟩) ∧ W.cell? ⟨b, o1 + 7 + 1, none⟩ = some (iv 400) ∧ W.cell? ⟨b, o1 + 7 + 2, none⟩ = some (iv 500) ∧ W.cell? ⟨b, o1 + 7 + 3, none⟩ = some (iv 600) ∧ W.cell? ⟨b, o1 + 7 + 4, none⟩ = some (iv 100) ∧ W.cell? ⟨b, o1 + 7 + 5, none⟩ = some (iv 4) ∧ W.cell? ⟨b, o1 + 7 + 6, none⟩ = some (iv 5))
  (hQ : ∀  u85 u86 u87 u88 u89 u90 u91 u92 wx, BW V wx → Q .normal ⟨((z0 :: z1 :: z2 :: (.pointer (some ⟨g3, 0, none⟩)) :: (.pointer (some ⟨gp, 0, none⟩)) :: z5 :: z6 :: z7 :: z8 :: z9 :: z10 :: z11 :: z12 :: z13 :: z14 :: z15 :: z16 :: z17 :: (.pointer (some ⟨g18, 0, none⟩)) :: (iv AR) :: z20 :: z21 :: z22 :: z23 :: z24 :: z25 :: z26 :: z27 :: z28 :: z29 :: z30 :: z31 :: z32 :: z33 :: z34 :: z35 :: z36 :: z37 :: z38 :: z39 :: z40 :: z41 :: z42 :: z43 :: z44 :: z45 :: z46 :: z47 :: z48 :: z49 :: z50 :: z51 :: z52 :: z53 :: z54 :: z55 :: z56 :: z57 :: z58 :: z59 :: z60 :: z61 :: z62 :: z63 :: z64 :: z65 :: z66 :: z67 :: z68 :: z69 :: z70 :: z71 :: z72 :: z73 :: z74 :: z75 :: z76 :: z77 :: z78 :: z79 :: z80 :: z81 :: z82 :: z83 :: z84 :: u85 :: u86 :: u87 :: u88 :: u89 :: u90 :: u91 :: u92 :: z93 :: z94 :: z95 :: z96 :: z97 :: z98 :: z99 :: z100 :: z101 :: z102 :: z103 :: z104 :: z105 :: z106 :: z107 :: z108 :: z109 :: z110 :: z111 :: z112 :: z113 :: z114 :: z115 :: [] : List Value).toArray), []⟩ wx) :
  (regionOf2 Tryz.f28 23).wpIn (Fence.wide.inRound l2) m Tryz.prog Q ⟨((z0 :: z1 :: z2 :: (.pointer (some ⟨g3, 0, none⟩)) :: (.pointer (some ⟨gp, 0, none⟩)) :: z5 :: z6 :: z7 :: z8 :: z9 :: z10 :: z11 :: z12 :: z13 :: z14 :: z15 :: z16 :: z17 :: (.pointer (some ⟨g18, 0, none⟩)) :: z19 :: z20 :: z21 :: z22 :: z23 :: z24 :: z25 :: z26 :: z27 :: z28 :: z29 :: z30 :: z31 :: z32 :: z33 :: z34 :: z35 :: z36 :: z37 :: z38 :: z39 :: z40 :: z41 :: z42 :: z43 :: z44 :: z45 :: z46 :: z47 :: z48 :: z49 :: z50 :: z51 :: z52 :: z53 :: z54 :: z55 :: z56 :: z57 :: z58 :: z59 :: z60 :: z61 :: z62 :: z63 :: z64 :: z65 :: z66 :: z67 :: z68 :: z69 :: z70 :: z71 :: z72 :: z73 :: z74 :: z75 :: z76 :: z77 :: z78 :: z79 :: z80 :: z81 :: z82 :: z83 :: z84 :: z85 :: z86 :: z87 :: z88 :: z89 :: z90 :: z91 :: z92 :: z93 :: z94 :: z95 :: z96 :: z97 :: z98 :: z99 :: z100 :: z101 :: z102 :: z103 :: z104 :: z105 :: z106 :: z107 :: z108 :: z109 :: z110 :: z111 :: z112 :: z113 :: z114 :: z115 :: [] : List Value).toArray), []⟩ V := by
 have HA := Lq hA
 clear hA
 have HS := Lq hS
 have HQ := Lq hQ
 have HB0 := Lq (belowDq (belowR V))
 clear hS hQ
 have e : regionOf2 Tryz.f28 23 = Code.region 23 ops28_23 true := by kernel_rfl
 rw [e]
 refine wpIn_region_lift (S := (fun W => W.cell? ⟨g18, 0, none⟩ = some (.func (.func 102) #[] #[]) ∧ W.cell? ⟨g3, 0, none⟩ = some (.slice (some ⟨b, o1, none⟩) 3 3) ∧ W.cell? ⟨gp, 0, none⟩ = some (iv 1) ∧ W.cell? ⟨b, o1 + 7, none⟩ = some (.string ⟨#[109, 105, 100]⟩) ∧ W.cell? ⟨b, o1 + 7 + 1, none⟩ = some (iv 400) ∧ W.cell? ⟨b, o1 + 7 + 2, none⟩ = some (iv 500) ∧ W.cell? ⟨b, o1 + 7 + 3, none⟩ = some (iv 600) ∧ W.cell? ⟨b, o1 + 7 + 4, none⟩ = some (iv 100) ∧ W.cell? ⟨b, o1 + 7 + 5, none⟩ = some (iv 4) ∧ W.cell? ⟨b, o1 + 7 + 6, none⟩ = some (iv 5))) (by kernel_rfl) (by kernel_rfl) ?_
 have hHeld := HS.out _ HB0.out
 have hsz : ops28_23.size = 9 := by kernel_rfl
 have hrep : Array.replicate 9 false = #[false, false, false, false, false, false, false, false, false] := by kernel_rfl
 rw [hsz, hrep]
 clear e hsz hrep
 generalize V.drew = V0 at HB0 hHeld ⊢
 refine tk 0 (.pointer (some ⟨g18, 0, none⟩)) ?_
 refine tk 2 (.pointer (some ⟨g3, 0, none⟩)) ?_
 refine tk 4 (iv 1) ?_
 refine tk 1 (.func (.func 102) #[] #[]) ?_
 refine tk 3 (.slice (some ⟨b, o1, none⟩) 3 3) ?_
 refine tk 5 (.pointer (some ⟨b, o1 + 7, none⟩)) ?_
 refine tk 6 (.agg #[.string ⟨#[109, 105, 100]⟩, iv 400, iv 500, iv 600, iv 100, iv 4, iv 5]) ?_
 refine rd1 7 fun K' hK => ?_
 go_simp
 refine (HA.out _ HB0.out).mono ?_
 rintro e w7 ⟨rfl, hb⟩
 have HB7 := Lq (belowT HB0.out hb)
 clear hb
 refine hK.out _ _ (HS.out _ HB7.out) (fun hHeld => ?_)
 clear hK
 refine tk 8 (iv AR) ?_
 refine wpAnyH_done (by kernel_rfl) ?_ _
 exact (HQ.out _ _ _ _ _ _ _ _ _ HB7.out)
theorem reg28_23_1 {Q : Exit → Act → World → Prop} {V : World} {m l2 : Nat} {g18 g3 gp b o1 gb : Nat} {AR : Int} {z0 z1 z2 z5 z6 z7 z8 z9 z10 z11 z12 z13 z14 z15 z16 z17 z19 z20 z21 z22 z23 z24 z25 z26 z27 z28 z29 z30 z31 z32 z33 z34 z35 z36 z37 z38 z39 z40 z41 z42 z43 z44 z45 z46 z47 z48 z49 z50 z51 z52 z53 z54 z55 z56 z57 z58 z59 z60 z61 z62 z63 z64 z65 z66 z67 z68 z69 z70 z71 z72 z73 z74 z75 z76 z77 z78 z79 z80 z81 z82 z83 z84 z85 z86 z87 z88 z89 z90 z91 z92 z93 z94 z95 z96 z97 z98 z99 z100 z101 z102 z103 z104 z105 z106 z107 z108 z109 z110 z111 z112 z113 z114 z115 : Value} (hA : ∀ W, BW V W → Calls Tryz.prog 103 #[.agg #[.string ⟨#[109, 105, 100]⟩, iv 400, iv 500, iv 600, iv 100, iv 4, iv 5], .pointer (some ⟨gb, 0, none⟩)] W (Rt W (iv AR)))
  (hS : ∀ W, BW V W → W.cell? ⟨g18, 0, none⟩ = some (.func (.func 103) #[] #[.pointer (some ⟨gb, 0, none⟩)]) ∧ W.cell? ⟨g3, 0, none⟩ = some (.slice (some ⟨b, o1, none⟩) 3 3) ∧ W.cell? ⟨gp, 0, none⟩ = some (iv 1) ∧ W.cell? ⟨b, o1 + 7, none⟩ = some (.string ⟨#[109, 105, 100]⟩) ∧ W.cell? ⟨b, o1 + 7 + 1, none⟩ = some (iv 400) ∧ W.cell? ⟨b, o1 + 7 + 2, none⟩ = some (iv 500) ∧ W.cell? ⟨b, o1 + 7 + 3, none⟩ = some (iv 600) ∧ W.cell? ⟨b, o1 + 7 + 4, none⟩ = some (iv 100) ∧ W.cell? ⟨b, o1 + 7 + 5, none⟩ = some (iv 4) ∧ W.cell? ⟨b, o1 + 7 + 6, none⟩ = some (iv 5))
  (hQ : ∀  u85 u86 u87 u88 u89 u90 u91 u92 wx, BW V wx → Q .normal ⟨((z0 :: z1 :: z2 :: (.pointer (some ⟨g3, 0, none⟩)) :: (.pointer (some ⟨gp, 0, none⟩)) :: z5 :: z6 :: z7 :: z8 :: z9 :: z10 :: z11 :: z12 :: z13 :: z14 :: z15 :: z16 :: z17 :: (.pointer (some ⟨g18, 0, none⟩)) :: (iv AR) :: z20 :: z21 :: z22 :: z23 :: z24 :: z25 :: z26 :: z27 :: z28 :: z29 :: z30 :: z31 :: z32 :: z33 :: z34 :: z35 :: z36 :: z37 :: z38 :: z39 :: z40 :: z41 :: z42 :: z43 :: z44 :: z45 :: z46 :: z47 :: z48 :: z49 :: z50 :: z51 :: z52 :: z53 :: z54 :: z55 :: z56 :: z57 :: z58 :: z59 :: z60 :: z61 :: z62 :: z63 :: z64 :: z65 :: z66 :: z67 :: z68 :: z69 :: z70 :: z71 :: z72 :: z73 :: z74 :: z75 :: z76 :: z77 :: z78 :: z79 :: z80 :: z81 :: z82 :: z83 :: z84 :: u85 :: u86 :: u87 :: u88 :: u89 :: u90 :: u91 :: u92 :: z93 :: z94 :: z95 :: z96 :: z97 :: z98 :: z99 :: z100 :: z101 :: z102 :: z103 :: z104 :: z105 :: z106 :: z107 :: z108 :: z109 :: z110 :: z111 :: z112 :: z113 :: z114 :: z115 :: [] : List Value).toArray), []⟩ wx) :
  (regionOf2 Tryz.f28 23).wpIn (Fence.wide.inRound l2) m Tryz.prog Q ⟨((z0 :: z1 :: z2 :: (.pointer (some ⟨g3, 0, none⟩)) :: (.pointer (some ⟨gp, 0, none⟩)) :: z5 :: z6 :: z7 :: z8 :: z9 :: z10 :: z11 :: z12 :: z13 :: z14 :: z15 :: z16 :: z17 :: (.pointer (some ⟨g18, 0, none⟩)) :: z19 :: z20 :: z21 :: z22 :: z23 :: z24 :: z25 :: z26 :: z27 :: z28 :: z29 :: z30 :: z31 :: z32 :: z33 :: z34 :: z35 :: z36 :: z37 :: z38 :: z39 :: z40 :: z41 :: z42 :: z43 :: z44 :: z45 :: z46 :: z47 :: z48 :: z49 :: z50 :: z51 :: z52 :: z53 :: z54 :: z55 :: z56 :: z57 :: z58 :: z59 :: z60 :: z61 :: z62 :: z63 :: z64 :: z65 :: z66 :: z67 :: z68 :: z69 :: z70 :: z71 :: z72 :: z73 :: z74 :: z75 :: z76 :: z77 :: z78 :: z79 :: z80 :: z81 :: z82 :: z83 :: z84 :: z85 :: z86 :: z87 :: z88 :: z89 :: z90 :: z91 :: z92 :: z93 :: z94 :: z95 :: z96 :: z97 :: z98 :: z99 :: z100 :: z101 :: z102 :: z103 :: z104 :: z105 :: z106 :: z107 :: z108 :: z109 :: z110 :: z111 :: z112 :: z113 :: z114 :: z115 :: [] : List Value).toArray), []⟩ V := by
 have HA := Lq hA
 clear hA
 have HS := Lq hS
 have HQ := Lq hQ
 have HB0 := Lq (belowDq (belowR V))
 clear hS hQ
 have e : regionOf2 Tryz.f28 23 = Code.region 23 ops28_23 true := by kernel_rfl
 rw [e]
 refine wpIn_region_lift (S := (fun W => W.cell? ⟨g18, 0, none⟩ = some (.func (.func 103) #[] #[.pointer (some ⟨gb, 0, none⟩)]) ∧ W.cell? ⟨g3, 0, none⟩ = some (.slice (some ⟨b, o1, none⟩) 3 3) ∧ W.cell? ⟨gp, 0, none⟩ = some (iv 1) ∧ W.cell? ⟨b, o1 + 7, none⟩ = some (.string ⟨#[109, 105, 100]⟩) ∧ W.cell? ⟨b, o1 + 7 + 1, none⟩ = some (iv 400) ∧ W.cell? ⟨b, o1 + 7 + 2, none⟩ = some (iv 500) ∧ W.cell? ⟨b, o1 + 7 + 3, none⟩ = some (iv 600) ∧ W.cell? ⟨b, o1 + 7 + 4, none⟩ = some (iv 100) ∧ W.cell? ⟨b, o1 + 7 + 5, none⟩ = some (iv 4) ∧ W.cell? ⟨b, o1 + 7 + 6, none⟩ = some (iv 5))) (by kernel_rfl) (by kernel_rfl) ?_
 have hHeld := HS.out _ HB0.out
 have hsz : ops28_23.size = 9 := by kernel_rfl
 have hrep : Array.replicate 9 false = #[false, false, false, false, false, false, false, false, false] := by kernel_rfl
 rw [hsz, hrep]
 clear e hsz hrep
 generalize V.drew = V0 at HB0 hHeld ⊢
 refine tk 0 (.pointer (some ⟨g18, 0, none⟩)) ?_
 refine tk 2 (.pointer (some ⟨g3, 0, none⟩)) ?_
 refine tk 4 (iv 1) ?_
 refine tk 1 (.func (.func 103) #[] #[.pointer (some ⟨gb, 0, none⟩)]) ?_
 refine tk 3 (.slice (some ⟨b, o1, none⟩) 3 3) ?_
 refine tk 5 (.pointer (some ⟨b, o1 + 7, none⟩)) ?_
 refine tk 6 (.agg #[.string ⟨#[109, 105, 100]⟩, iv 400, iv 500, iv 600, iv 100, iv 4, iv 5]) ?_
 refine rd1 7 fun K' hK => ?_
 go_simp
 refine (HA.out _ HB0.out).mono ?_
 rintro e w7 ⟨rfl, hb⟩
 have HB7 := Lq (belowT HB0.out hb)
 clear hb
 refine hK.out _ _ (HS.out _ HB7.out) (fun hHeld => ?_)
 clear hK
 refine tk 8 (iv AR) ?_
 refine wpAnyH_done (by kernel_rfl) ?_ _
 exact (HQ.out _ _ _ _ _ _ _ _ _ HB7.out)
theorem reg28_23_2 {Q : Exit → Act → World → Prop} {V : World} {m l2 : Nat} {g18 g3 gp b o1 gb : Nat} {AR : Int} {z0 z1 z2 z5 z6 z7 z8 z9 z10 z11 z12 z13 z14 z15 z16 z17 z19 z20 z21 z22 z23 z24 z25 z26 z27 z28 z29 z30 z31 z32 z33 z34 z35 z36 z37 z38 z39 z40 z41 z42 z43 z44 z45 z46 z47 z48 z49 z50 z51 z52 z53 z54 z55 z56 z57 z58 z59 z60 z61 z62 z63 z64 z65 z66 z67 z68 z69 z70 z71 z72 z73 z74 z75 z76 z77 z78 z79 z80 z81 z82 z83 z84 z85 z86 z87 z88 z89 z90 z91 z92 z93 z94 z95 z96 z97 z98 z99 z100 z101 z102 z103 z104 z105 z106 z107 z108 z109 z110 z111 z112 z113 z114 z115 : Value} (hA : ∀ W, BW V W → Calls Tryz.prog 104 #[.agg #[.string ⟨#[109, 105, 100]⟩, iv 400, iv 500, iv 600, iv 100, iv 4, iv 5], .pointer (some ⟨gb, 0, none⟩)] W (Rt W (iv AR)))
  (hS : ∀ W, BW V W → W.cell? ⟨g18, 0, none⟩ = some (.func (.func 104) #[] #[.pointer (some ⟨gb, 0, none⟩)]) ∧ W.cell? ⟨g3, 0, none⟩ = some (.slice (some ⟨b, o1, none⟩) 3 3) ∧ W.cell? ⟨gp, 0, none⟩ = some (iv 1) ∧ W.cell? ⟨b, o1 + 7, none⟩ = some (.string ⟨#[109, 105, 100]⟩) ∧ W.cell? ⟨b, o1 + 7 + 1, none⟩ = some (iv 400) ∧ W.cell? ⟨b, o1 + 7 + 2, none⟩ = some (iv 500) ∧ W.cell? ⟨b, o1 + 7 + 3, none⟩ = some (iv 600) ∧ W.cell? ⟨b, o1 + 7 + 4, none⟩ = some (iv 100) ∧ W.cell? ⟨b, o1 + 7 + 5, none⟩ = some (iv 4) ∧ W.cell? ⟨b, o1 + 7 + 6, none⟩ = some (iv 5))
  (hQ : ∀  u85 u86 u87 u88 u89 u90 u91 u92 wx, BW V wx → Q .normal ⟨((z0 :: z1 :: z2 :: (.pointer (some ⟨g3, 0, none⟩)) :: (.pointer (some ⟨gp, 0, none⟩)) :: z5 :: z6 :: z7 :: z8 :: z9 :: z10 :: z11 :: z12 :: z13 :: z14 :: z15 :: z16 :: z17 :: (.pointer (some ⟨g18, 0, none⟩)) :: (iv AR) :: z20 :: z21 :: z22 :: z23 :: z24 :: z25 :: z26 :: z27 :: z28 :: z29 :: z30 :: z31 :: z32 :: z33 :: z34 :: z35 :: z36 :: z37 :: z38 :: z39 :: z40 :: z41 :: z42 :: z43 :: z44 :: z45 :: z46 :: z47 :: z48 :: z49 :: z50 :: z51 :: z52 :: z53 :: z54 :: z55 :: z56 :: z57 :: z58 :: z59 :: z60 :: z61 :: z62 :: z63 :: z64 :: z65 :: z66 :: z67 :: z68 :: z69 :: z70 :: z71 :: z72 :: z73 :: z74 :: z75 :: z76 :: z77 :: z78 :: z79 :: z80 :: z81 :: z82 :: z83 :: z84 :: u85 :: u86 :: u87 :: u88 :: u89 :: u90 :: u91 :: u92 :: z93 :: z94 :: z95 :: z96 :: z97 :: z98 :: z99 :: z100 :: z101 :: z102 :: z103 :: z104 :: z105 :: z106 :: z107 :: z108 :: z109 :: z110 :: z111 :: z112 :: z113 :: z114 :: z115 :: [] : List Value).toArray), []⟩ wx) :
  (regionOf2 Tryz.f28 23).wpIn (Fence.wide.inRound l2) m Tryz.prog Q ⟨((z0 :: z1 :: z2 :: (.pointer (some ⟨g3, 0, none⟩)) :: (.pointer (some ⟨gp, 0, none⟩)) :: z5 :: z6 :: z7 :: z8 :: z9 :: z10 :: z11 :: z12 :: z13 :: z14 :: z15 :: z16 :: z17 :: (.pointer (some ⟨g18, 0, none⟩)) :: z19 :: z20 :: z21 :: z22 :: z23 :: z24 :: z25 :: z26 :: z27 :: z28 :: z29 :: z30 :: z31 :: z32 :: z33 :: z34 :: z35 :: z36 :: z37 :: z38 :: z39 :: z40 :: z41 :: z42 :: z43 :: z44 :: z45 :: z46 :: z47 :: z48 :: z49 :: z50 :: z51 :: z52 :: z53 :: z54 :: z55 :: z56 :: z57 :: z58 :: z59 :: z60 :: z61 :: z62 :: z63 :: z64 :: z65 :: z66 :: z67 :: z68 :: z69 :: z70 :: z71 :: z72 :: z73 :: z74 :: z75 :: z76 :: z77 :: z78 :: z79 :: z80 :: z81 :: z82 :: z83 :: z84 :: z85 :: z86 :: z87 :: z88 :: z89 :: z90 :: z91 :: z92 :: z93 :: z94 :: z95 :: z96 :: z97 :: z98 :: z99 :: z100 :: z101 :: z102 :: z103 :: z104 :: z105 :: z106 :: z107 :: z108 :: z109 :: z110 :: z111 :: z112 :: z113 :: z114 :: z115 :: [] : List Value).toArray), []⟩ V := by
 have HA := Lq hA
 clear hA
 have HS := Lq hS
 have HQ := Lq hQ
 have HB0 := Lq (belowDq (belowR V))
 clear hS hQ
 have e : regionOf2 Tryz.f28 23 = Code.region 23 ops28_23 true := by kernel_rfl
 rw [e]
 refine wpIn_region_lift (S := (fun W => W.cell? ⟨g18, 0, none⟩ = some (.func (.func 104) #[] #[.pointer (some ⟨gb, 0, none⟩)]) ∧ W.cell? ⟨g3, 0, none⟩ = some (.slice (some ⟨b, o1, none⟩) 3 3) ∧ W.cell? ⟨gp, 0, none⟩ = some (iv 1) ∧ W.cell? ⟨b, o1 + 7, none⟩ = some (.string ⟨#[109, 105, 100]⟩) ∧ W.cell? ⟨b, o1 + 7 + 1, none⟩ = some (iv 400) ∧ W.cell? ⟨b, o1 + 7 + 2, none⟩ = some (iv 500) ∧ W.cell? ⟨b, o1 + 7 + 3, none⟩ = some (iv 600) ∧ W.cell? ⟨b, o1 + 7 + 4, none⟩ = some (iv 100) ∧ W.cell? ⟨b, o1 + 7 + 5, none⟩ = some (iv 4) ∧ W.cell? ⟨b, o1 + 7 + 6, none⟩ = some (iv 5))) (by kernel_rfl) (by kernel_rfl) ?_
 have hHeld := HS.out _ HB0.out
 have hsz : ops28_23.size = 9 := by kernel_rfl
 have hrep : Array.replicate 9 false = #[false, false, false, false, false, false, false, false, false] := by kernel_rfl
 rw [hsz, hrep]
 clear e hsz hrep
 generalize V.drew = V0 at HB0 hHeld ⊢
 refine tk 0 (.pointer (some ⟨g18, 0, none⟩)) ?_
 refine tk 2 (.pointer (some ⟨g3, 0, none⟩)) ?_
 refine tk 4 (iv 1) ?_
 refine tk 1 (.func (.func 104) #[] #[.pointer (some ⟨gb, 0, none⟩)]) ?_
 refine tk 3 (.slice (some ⟨b, o1, none⟩) 3 3) ?_
 refine tk 5 (.pointer (some ⟨b, o1 + 7, none⟩)) ?_
 refine tk 6 (.agg #[.string ⟨#[109, 105, 100]⟩, iv 400, iv 500, iv 600, iv 100, iv 4, iv 5]) ?_
 refine rd1 7 fun K' hK => ?_
 go_simp
 refine (HA.out _ HB0.out).mono ?_
 rintro e w7 ⟨rfl, hb⟩
 have HB7 := Lq (belowT HB0.out hb)
 clear hb
 refine hK.out _ _ (HS.out _ HB7.out) (fun hHeld => ?_)
 clear hK
 refine tk 8 (iv AR) ?_
 refine wpAnyH_done (by kernel_rfl) ?_ _
 exact (HQ.out _ _ _ _ _ _ _ _ _ HB7.out)
noncomputable def ops28_24 : Array Oper := opsOf (regionOf2 Tryz.f28 24)
theorem reg28_24 {Q : Exit → Act → World → Prop} {V : World} {m l2 : Nat} {gm gs : Nat} {z0 z1 z2 z3 z4 z5 z6 z7 z8 z9 z10 z11 z13 z14 z15 z18 z20 z21 z22 z23 z24 z25 z26 z27 z28 z29 z30 z31 z32 z33 z34 z35 z36 z37 z38 z39 z40 z41 z42 z43 z44 z45 z46 z47 z48 z49 z50 z51 z52 z53 z54 z55 z56 z57 z58 z59 z60 z61 z62 z63 z64 z65 z66 z67 z68 z69 z70 z71 z72 z73 z74 z75 z76 z77 z78 z79 z80 z81 z82 z83 z84 z85 z86 z87 z88 z89 z90 z91 z92 z93 z94 z95 z96 z97 z98 z99 z100 z101 z102 z103 z104 z105 z106 z107 z108 z109 z110 z111 z112 z113 z114 z115 : Value} (h4 : ∀ W, BW V W → W.cell? ⟨gm, 0, none⟩ = some (iv 0) ∧ W.frozen? ⟨gm, 0, none⟩ = false ∧ gm < W.heap.size)
  (hS : ∀ W, BW V W → W.cell? ⟨gm, 0, none⟩ = some (iv 0) ∧ W.cell? ⟨gs, 2, none⟩ = some (iv (-140000)))
  (hQ : ∀  u93 u94 u95 u96 u97 u98 u99 u100 u101 u102 wx, (∃ V0, BW V V0 ∧ wx = V0.setCell ⟨gm, 0, none⟩ (iv 350)) → Q .normal ⟨((z0 :: z1 :: z2 :: z3 :: z4 :: z5 :: z6 :: z7 :: z8 :: z9 :: z10 :: z11 :: (.pointer (some ⟨gm, 0, none⟩)) :: z13 :: z14 :: z15 :: (.pointer (some ⟨gs, 0, none⟩)) :: (iv 2) :: z18 :: (iv 400) :: z20 :: z21 :: z22 :: z23 :: z24 :: z25 :: z26 :: z27 :: z28 :: z29 :: z30 :: z31 :: z32 :: z33 :: z34 :: z35 :: z36 :: z37 :: z38 :: z39 :: z40 :: z41 :: z42 :: z43 :: z44 :: z45 :: z46 :: z47 :: z48 :: z49 :: z50 :: z51 :: z52 :: z53 :: z54 :: z55 :: z56 :: z57 :: z58 :: z59 :: z60 :: z61 :: z62 :: z63 :: z64 :: z65 :: z66 :: z67 :: z68 :: z69 :: z70 :: z71 :: z72 :: z73 :: z74 :: z75 :: z76 :: z77 :: z78 :: z79 :: z80 :: z81 :: z82 :: z83 :: z84 :: z85 :: z86 :: z87 :: z88 :: z89 :: z90 :: z91 :: z92 :: u93 :: u94 :: u95 :: u96 :: u97 :: u98 :: u99 :: u100 :: u101 :: u102 :: z103 :: z104 :: z105 :: z106 :: z107 :: z108 :: z109 :: z110 :: z111 :: z112 :: z113 :: z114 :: z115 :: [] : List Value).toArray), []⟩ wx) :
  (regionOf2 Tryz.f28 24).wpIn (Fence.wide.inRound l2) m Tryz.prog Q ⟨((z0 :: z1 :: z2 :: z3 :: z4 :: z5 :: z6 :: z7 :: z8 :: z9 :: z10 :: z11 :: (.pointer (some ⟨gm, 0, none⟩)) :: z13 :: z14 :: z15 :: (.pointer (some ⟨gs, 0, none⟩)) :: (iv 2) :: z18 :: (iv 400) :: z20 :: z21 :: z22 :: z23 :: z24 :: z25 :: z26 :: z27 :: z28 :: z29 :: z30 :: z31 :: z32 :: z33 :: z34 :: z35 :: z36 :: z37 :: z38 :: z39 :: z40 :: z41 :: z42 :: z43 :: z44 :: z45 :: z46 :: z47 :: z48 :: z49 :: z50 :: z51 :: z52 :: z53 :: z54 :: z55 :: z56 :: z57 :: z58 :: z59 :: z60 :: z61 :: z62 :: z63 :: z64 :: z65 :: z66 :: z67 :: z68 :: z69 :: z70 :: z71 :: z72 :: z73 :: z74 :: z75 :: z76 :: z77 :: z78 :: z79 :: z80 :: z81 :: z82 :: z83 :: z84 :: z85 :: z86 :: z87 :: z88 :: z89 :: z90 :: z91 :: z92 :: z93 :: z94 :: z95 :: z96 :: z97 :: z98 :: z99 :: z100 :: z101 :: z102 :: z103 :: z104 :: z105 :: z106 :: z107 :: z108 :: z109 :: z110 :: z111 :: z112 :: z113 :: z114 :: z115 :: [] : List Value).toArray), []⟩ V := by
 have H4 := Lq h4
 clear h4
 have w1 : IntKind.i64.wrap (400 - 1) = 399 := by decide
 have w2 : IntKind.i64.wrap (399 - -140000) = 140399 := by decide
 have w3 : IntKind.i64.wrap ((140399 : Int).tdiv 400) = 350 := by decide
 have w4 : IntKind.i64.wrap 399 = 399 := by decide
 have w5 : IntKind.i64.wrap 140399 = 140399 := by decide
 have w6 : IntKind.i64.wrap 350 = 350 := by decide
 have HS := Lq hS
 have HQ := Lq hQ
 have HB0 := Lq (belowDq (belowR V))
 clear hS hQ
 have e : regionOf2 Tryz.f28 24 = Code.region 24 ops28_24 true := by kernel_rfl
 rw [e]
 refine wpIn_region_late (S := (fun W => W.cell? ⟨gm, 0, none⟩ = some (iv 0) ∧ W.cell? ⟨gs, 2, none⟩ = some (iv (-140000)))) (late := (fun n => n == 10)) (by kernel_rfl) (by kernel_rfl) ?_
 have hHeld := HS.out _ HB0.out
 have hsz : ops28_24.size = 11 := by kernel_rfl
 have hrep : Array.replicate 11 false = #[false, false, false, false, false, false, false, false, false, false, false] := by kernel_rfl
 rw [hsz, hrep]
 clear e hsz hrep
 generalize V.drew = V0 at HB0 hHeld ⊢
 refine tkL 0 (iv 0) ?_
 refine tkL 1 (iv 400) ?_
 refine tkL 3 (iv 2) ?_
 refine tkL 7 (iv 400) ?_
 refine tkL 2 (iv 399) ?_
 refine tkL 4 (.pointer (some ⟨gs, 2, none⟩)) ?_
 refine tkL 5 (iv (-140000)) ?_
 refine tkL 6 (iv 140399) ?_
 refine tkL 8 (iv 350) ?_
 obtain ⟨o, e0⟩ : ∃ o, o = opN ops28_24 9 := ⟨_, rfl⟩
 have e := e0
 conv at e => rhs; whnf
 refine wpAnyL_take (i := 9) (oi := o) (v := iv 350) (by rw [e0]; kernel_rfl) (by kernel_rfl) (by kernel_rfl) (by kernel_rfl) (fun _ _ _ h => h) (by rfl) (by kernel_rfl) (by kernel_rfl) (Or.inl ⟨by rw [e]; first | rfl | kernel_rfl, ?_⟩) (by assumption) ?_
 ·clear e0
  subst e
  intro w hSw
  obtain ⟨k0, k1⟩ := hSw
  (go_simp; decide)
 clear e0
 subst e
 (try simp only [Act.put, List.setIfInBounds_toArray, List.set_cons_zero, List.set_cons_succ])
 refine rdT 10 fun K' hK => ?_
 obtain ⟨n4, f4, l4⟩ := H4.out _ HB0.out
 go_simp
 refine hK.out _ _ ?_
 clear n4 f4 l4
 clear hK
 refine wpAny_of_held (S := fun _ => True) _ _ _ _ ?_
 refine wpAnyH_done (by kernel_rfl) ?_ _
 exact (HQ.out _ _ _ _ _ _ _ _ _ _ _ ⟨_, HB0.out, rfl⟩)
end Go.Proofs.YtmhjhbchokbonaaGreat
