/- The laws' helpers: Told. Weighings without an error: what is asked of them, of each and of any two; those that are told of a truth. The plain law of BlockTrue. No program is named here. stand.beyond: whether one of some numbers is out of bounds. (From the text on block.out, by mkT1.py.) What is left of a hull, in memory; stand.check and stand.Check (printed by mkT2.py). stand.Check: the walk .. -/
import Derived.Test.YtmhjhbchokbonaaGreatM0
import Derived.Test.YtmhjhbchokbonaaGreatM1
import Derived.Test.YtmhjhbchokbonaaGreatM5
import Derived.Test.YtmhjhbchokbonaaGreatM8
set_option maxRecDepth 1000000
set_option maxHeartbeats 16000000
namespace Go.Proofs.YtmhjhbchokbonaaGreat
open Go.RowKit
def toldW (us : List Int) (w : Nat → Int) (i : Nat) (x : Wgh) : Wgh := ⟨x.set, max 0 (sumS w x.set.toNat - turnI us (2 * i) % 50), min 1000000 (sumS w x.set.toNat + turnI us (2 * i + 1) % 50)⟩
def toldTo (us : List Int) (w : Nat → Int) (l : List Wgh) : Nat → List Wgh
 | 0 => []
 | k + 1 => match l[k]? with
  | some x => toldTo us w l k ++ [toldW us w k x]
  | none => toldTo us w l k
def toldL (us : List Int) (w : Nat → Int) (l : List Wgh) : List Wgh := toldTo us w l l.length
theorem toldTo_succ {us : List Int} {w : Nat → Int} {l : List Wgh} {k : Nat} {x : Wgh} (hx : l[k]? = some x) : toldTo us w l (k + 1) = toldTo us w l k ++ [toldW us w k x] := by
 show (match l[k]? with | some x => toldTo us w l k ++ [toldW us w k x] | none => toldTo us w l k) = _
 rw [hx]
theorem toldTo_len {us : List Int} {w : Nat → Int} {l : List Wgh} : ∀ k, k ≤ l.length → (toldTo us w l k).length = k := by
 intro k
 induction k with
 | zero => intro _; rfl
 | succ k ih =>
  intro hk
  rw [toldTo_succ (List.getElem?_eq_getElem (show k < l.length by omega)), List.length_append, ih (by omega)]
  rfl
theorem toldTo_at {us : List Int} {w : Nat → Int} {l : List Wgh} : ∀ k, k ≤ l.length → ∀ i, i < k → (toldTo us w l k)[i]? = (l[i]?).map (toldW us w i) := by
 intro k
 induction k with
 | zero => intro _ i hi; omega
 | succ k ih =>
  intro hk i hi
  have hx := List.getElem?_eq_getElem (show k < l.length by omega)
  rw [toldTo_succ hx]
  by_cases hik : i < k
  ·rw [List.getElem?_append_left (by rw [toldTo_len k (by omega)]; exact hik), ih (by omega) i hik]
  ·obtain rfl : i = k := by omega
   rw [List.getElem?_append_right (by rw [toldTo_len i (by omega)]; omega), toldTo_len i (by omega), hx]
   simp
theorem toldL_len (us : List Int) (w : Nat → Int) (l : List Wgh) : (toldL us w l).length = l.length := toldTo_len _ (Nat.le_refl _)
theorem toldL_at (us : List Int) (w : Nat → Int) (l : List Wgh) {i : Nat} (hi : i < l.length) : (toldL us w l)[i]? = (l[i]?).map (toldW us w i) := toldTo_at _ (Nat.le_refl _) i hi
theorem Tryz.info54b : (Tryz.prog.info? 54).map (fun i => (i.zero, i.size, i.bytes)) = some (some (.agg #[iv 0, iv 0, iv 0]), 3, 24) := by kernel_rfl
def WghPost (L : List Wgh) (w : World) (e : Ending) (w' : World) : Prop :=
 BW w w' ∧ ∃ A cap, e = .returned (.slice A L.length cap) ∧ RdN 3 encWgh w' w'.heap.size A L ∧ L.length ≤ cap ∧ cap ≤ maxLen
theorem told_any (n : Nat) (AL : Option Addr) (l : List Wgh) (capL : Nat) (AW : Option Addr) (wt : Nat → Int) (capW : Nat) (AU : Option Addr) (us : List Int) (capU : Nat) (B : Nat) (w : World) (hn8 : n ≤ 8)
  (hL : RdN 3 encWgh w B AL l) (hw : WghsOk n l) (hW : Rd1 iv w w.heap.size AW (rowW wt n)) (hb : WtOk n wt) (hu : U32s us) (hU : Rd1 uv w B AU us) (hB : B ≤ w.heap.size) :
  Calls Tryz.prog 11 #[.slice AL l.length capL, .slice AW n capW, .slice AU us.length capU] w (WghPost (toldL us wt l) w) := by
 obtain ⟨i0, hi0, hz0, hz1, hz2⟩ := info_parts Tryz.info54b
 have hl6 := hw.l6
 have HL := Lq hL
 have HU := Lq hU
 have HW := Lq hW
 have HWO := Lq hw
 have HB := Lq hb
 have HUU := Lq hu
 have HFIN : Hid (∀ e w', WghPost (toldTo us wt l l.length) w e w' → WghPost (toldL us wt l) w e w') := Lq fun _ _ h => h
 obtain ⟨POST, hPOST⟩ := ex (WghPost (toldL us wt l) w)
 rw [hPOST] at HFIN ⊢
 clear hL hU hW hw hb hu hPOST
 go_enter Tryz.func11, Tryz.ntmps11
 go_wp2_with fail
 obtain ⟨wq, hwq⟩ : ∃ wq : World, wq = w := ⟨_, rfl⟩
 have HBQ : Hid (BW w wq) := Lq (by rw [hwq]; exact belowR _)
 rw [← hwq]
 clear hwq
 go_loopw [7, 8] (fun vv vi wr => ∃ (k : Nat) (v : Value), k ≤ l.length ∧ vi = iv k ∧ v = vv ∧ Hid (wr.ownsRow w.heap.size 54 3 v k ((toldTo us wt l k).flatMap encWgh)) ∧ Hid (BW w wr)) (fun _ vi _ => l.length - (intOf vi).toNat)
 case atStart => exact ⟨0, _, Nat.zero_le _, rfl, rfl, Lq (World.ownsRow_nil _ _ _ _), HBQ⟩
 case round =>
  obtain ⟨k, v, hk, rfl, rfl, OWN, HBR⟩ := hrel
  have hzr := HBR.out.size
  by_cases hlt : k < l.length
  ·obtain ⟨x, hx⟩ : ∃ x, l[k]? = some x := ⟨_, List.getElem?_eq_getElem hlt⟩
   obtain ⟨s, a1, hs2, a3, a4, a5⟩ := HWO.out.each x (List.mem_of_getElem? hx)
   obtain ⟨b, off, rfl, _, e0, _, _⟩ := wghAt HL.out hx
   have hts := toldTo_succ (us := us) (w := wt) hx
   have htw : toldW us wt k x = ⟨(s : Int), max 0 (sumS wt s - turnI us (2 * k) % 50), min 1000000 (sumS wt s + turnI us (2 * k + 1) % 50)⟩ := by unfold toldW; rw [a1]; rfl
   rw [htw] at hts
   rw [a1] at e0
   have htb1 := turnI_bd us (2 * k) HUU.out.2
   have htb2 := turnI_bd us (2 * k + 1) HUU.out.2
   have hsb := sumS_bd hn8 hs2 HB.out
   have hsc : ∀ V, BW w V → Calls Tryz.prog 50 #[.slice AW n capW, iv s] V fun e w' => e = .returned (iv (sumS wt s)) ∧ V = w' := fun V hb => by
    rw [← sumTo_sumS hn8 hs2]
    exact weight_any AW wt n _ capW s V hn8 (lt256 hn8 hs2) (HW.out.below hb (Nat.le_refl _)) HB.out
   have htc : ∀ V j, j ≤ 1000 → BW w V → Calls Tryz.prog 51 #[.slice AU us.length capU, iv ((j : Nat) : Int)] V fun e w' => e = .returned (iv (turnI us j)) ∧ V = w' := fun V j hj hb => turn_any AU us B capU j V HUU.out.1 (HU.out.below hb hB) HUU.out.2 hj
   have ht1 := fun V => htc V (2 * k) (by omega)
   have ht2 := fun V => htc V (2 * k + 1) (by omega)
   have hm1 : IntKind.i64.wrap (2 * (k : Int)) = ((2 * k : Nat) : Int) := by rw [IntKind.wrap_i64]; omega
   have hm2 : IntKind.i64.wrap (((2 * k : Nat) : Int) + 1) = ((2 * k + 1 : Nat) : Int) := by rw [IntKind.wrap_i64]; omega
   obtain ⟨S, hS⟩ := ex (sumS wt s)
   rw [hS] at hts hsc hsb
   obtain ⟨T1, hT1⟩ := ex (turnI us (2 * k))
   rw [hT1] at hts ht1 htb1
   obtain ⟨T2, hT2⟩ := ex (turnI us (2 * k + 1))
   rw [hT2] at hts ht2 htb2
   obtain ⟨D2, hD2⟩ := ex (2 * k + 1)
   rw [hD2] at ht2 hm2
   obtain ⟨D1, hD1⟩ := ex (2 * k)
   rw [hD1] at ht1 hm1 hm2
   obtain ⟨htb10, htb11⟩ := htb1
   obtain ⟨htb20, htb21⟩ := htb2
   obtain ⟨hsb0, hsb1⟩ := hsb
   have hw1 : IntKind.i64.wrap (S - T1 % 50) = S - T1 % 50 := by rw [IntKind.wrap_i64]; omega
   have hw2 : IntKind.i64.wrap (S + T2 % 50) = S + T2 % 50 := by rw [IntKind.wrap_i64]; omega
   have hr1 : T1.tmod 50 = T1 % 50 := Int.tmod_eq_emod_of_nonneg htb10
   have hr2 : T2.tmod 50 = T2 % 50 := Int.tmod_eq_emod_of_nonneg htb20
   have hpc := fun V => span_any (max 0 (S - T1 % 50)) (min 1000000 (S + T2 % 50)) V
   have HPC := Lq hpc
   have HSC := Lq hsc
   have HT1 := Lq ht1
   have HT2 := Lq ht2
   have HTS := Lq hts
   have hk0 : (0 : Int) ≤ (k : Int) := by omega
   have hkz : (k : Int) < (l.length : Int) := by omega
   have HS : Hid (∀ W, BW w W → W.cell? ⟨b, off + k * 3, none⟩ = some (iv ((s : Nat) : Int))) := Lq fun W hb => keepC hb e0
   have hk9 : k + 1 ≤ maxLen := by unfold maxLen; omega
   have hk8 : (k + 1) * 24 ≤ 140737488355328 := by omega
   clear hx a1 a3 a4 a5 e0 hts htw hsc htc ht1 ht2 hS hT1 hT2 hD1 hD2 hpc
   have e0 := HS.out _ HBR.out
   go_wp2_with (go_at_call 50; refine (HSC.out _ HBR.out).mono ?_; rintro e w2 ⟨rfl, rfl⟩)
   have HBD := Lq (belowDq (belowR wr))
   have HBD1 := Lq (belowT HBR.out HBD.out)
   go_region_held3 (fun W => W.cell? ⟨b, off + k * 3, none⟩ = some (iv ((s : Nat) : Int))) (first | exact HS.out _ HBD1.out | exact HS.out _ HB31.out | exact HS.out _ HB5.out | exact HS.out _ (belowA HB31.out _)) (((first | (have hz3 : w.heap.size ≤ w3.heap.size := HB31.out.size; have hownA := (own_below OWN.out HB3.out).alloc (.cells #[iv (s : Int), iv (max 0 (S - T1 % 50)), iv (min 1000000 (S + T2 % 50))] 54); refine step_append_lies _ (by rfl) _ _ _ (by rfl) w.heap.size 54 i0 _ 3 24 Tryz.underlying51 hi0 hz0 hz1 hz2 rfl (by omega) _ k _ (by rfl) hownA ⟨w3.heap.size, 0, none⟩ 1 1 [iv (s : Int), iv (max 0 (S - T1 % 50)), iv (min 1000000 (S + T2 % 50))] (by rfl) (by rfl) (World.news_of_block (cs := #[iv (s : Int), iv (max 0 (S - T1 % 50)), iv (min 1000000 (S + T2 % 50))]) (t := 54) (fr := (0, 0)) (heap_alloc_new w3 _)) (by simp [Value.oneCell']) (by omega) hk9 hk8 (by simp; omega) (w3.heap.size + 1) (by simp) ?_; intro gg cap9 w5 hown5 hgrow hat hlt5; have HB5 := Lq (grownB hownA hgrow (Nat.le_refl _) (belowA HB31.out _)); have HO5 := Lq hown5; clear hownA hown5 hgrow hat) | (go_at_call 51; (first | ((with_reducible refine (HT1.out _ HBD1.out).mono ?_); rintro e w2 ⟨rfl, rfl⟩) | ((with_reducible refine (HT2.out _ HBD1.out).mono ?_); rintro e w2 ⟨rfl, rfl⟩))) | (go_at_call 40; ((with_reducible refine (HPC.out _).mono ?_); rintro e w3 ⟨rfl, hb3⟩; have HB3 := Lq (belowT HBD.out hb3); have HB31 := Lq (belowT HBR.out HB3.out); clear hb3)))))
   all_goals go_wp2_with fail
   all_goals exact ⟨⟨k + 1, _, by omega, by go_num, rfl, Lq (by rw [HTS.out, List.flatMap_append]; exact HO5.out), HB5⟩, by simp [intOf]; omega⟩
  ·obtain rfl : k = l.length := by omega
   have hown := OWN.out
   have hown' : wr.ownsRow w.heap.size 54 3 v (toldTo us wt l l.length).length ((toldTo us wt l l.length).flatMap encWgh) := by rw [toldTo_len _ (Nat.le_refl _)]; exact hown
   obtain ⟨A9, c9, hv9, hR9, _, hc1, hc2⟩ := own_rdN encWgh_len hown'
   have HR9 := Lq hR9
   have HV9 := Lq hv9
   have HC1 := Lq hc1
   have HC2 := Lq hc2
   clear hown hown' hR9 hv9 hc1 hc2
   go_wp2_with fail
   exact HFIN.out _ _ ⟨HBR.out, A9, c9, by rw [HV9.out]; rfl, HR9.out, HC1.out, HC2.out⟩
end Go.Proofs.YtmhjhbchokbonaaGreat
namespace Go.Proofs.YtmhjhbchokbonaaGreat
theorem crossN_comm (a b : Nat) : crossN a b = crossN b a := by
 unfold crossN
 rw [Nat.and_comm]
 cases (b &&& a != 0) <;> cases (b &&& a != a) <;> cases (b &&& a != b) <;> rfl
def OneOk (h : Hul) (x : Wgh) : Prop := blockE h.ps.length h.js x.set = 0 ∧ 0 ≤ x.lo ∧ x.lo ≤ x.hi ∧ x.hi ≤ 1000000
def NoCross (x y : Wgh) : Prop := crossN x.set.toNat y.set.toNat = false
theorem rangeE_zero_iff {L H lo hi : Int} : rangeE L H lo hi = 0 ↔ L ≤ lo ∧ lo ≤ hi ∧ hi ≤ H := by
 constructor
 ·intro h
  obtain ⟨a, b, c⟩ := rangeE_zero h
  exact ⟨a, b, c⟩
 ·rintro ⟨a, b, c⟩
  exact rangeE_ok (by unfold inB; simp; omega) b
theorem openPre_iff {h : Hul} {l : List Wgh} : openPre h l = 0 ↔ (checkE h).2.2 = 0 ∧ l.length ≤ 6 ∧ (∀ x ∈ l, OneOk h x) ∧ l.Pairwise NoCross := by
 constructor
 ·intro hp
  obtain ⟨h1, h2, h3⟩ := openPre_zero hp
  have h4 : ∀ i (hi : i < l.length), blockE h.ps.length h.js l[i].set = 0 ∧ crossB (l.take i) l[i].set.toNat = false ∧ rangeE 0 1000000 l[i].lo l[i].hi = 0 := fun i hi => by
   have := h3 i hi
   unfold weighedE at this
   rw [List.getElem?_eq_getElem hi] at this
   simp only at this
   split at this
   ·rename_i hb
    split at this
    ·omega
    ·rename_i hc
     exact ⟨hb, by simpa using hc, this⟩
   ·exact absurd this (by assumption)
  refine ⟨h1, h2, fun x hx => ?_, ?_⟩
  ·obtain ⟨i, hi, rfl⟩ := List.getElem_of_mem hx
   obtain ⟨a, _, c⟩ := h4 i hi
   exact ⟨a, rangeE_zero_iff.1 c⟩
  ·rw [List.pairwise_iff_getElem]
   intro i j hi hj hij
   obtain ⟨_, b, _⟩ := h4 j hj
   unfold crossB at b
   rw [List.any_eq_false] at b
   have hm : l[i] ∈ l.take j := by
    rw [List.mem_take_iff_getElem]
    exact ⟨i, by omega, rfl⟩
   have := b _ hm
   unfold NoCross
   rw [crossN_comm]
   simpa using this
 ·rintro ⟨h1, h2, h3, h4⟩
  unfold openPre
  rw [if_pos h1, if_pos h2]
  unfold weighedsE
  have h5 : ∀ i, i < l.length → weighedE h.ps.length h.js l i = 0 := fun i hi => by
   unfold weighedE
   rw [List.getElem?_eq_getElem hi]
   obtain ⟨a, b⟩ := h3 l[i] (List.getElem_mem hi)
   simp only
   rw [if_pos a, if_neg]
   ·exact rangeE_zero_iff.2 b
   ·intro hc
    unfold crossB at hc
    rw [List.any_eq_true] at hc
    obtain ⟨y, hy, hyc⟩ := hc
    obtain ⟨j, hj, rfl⟩ := List.mem_take_iff_getElem.1 hy
    have := List.pairwise_iff_getElem.1 h4 j i (by omega) hi (by omega)
    unfold NoCross at this
    rw [crossN_comm, this] at hyc
    cases hyc
  have h6 : ∀ k, k ≤ l.length → firstBad (weighedE h.ps.length h.js l) k = none := by
   intro k
   induction k with
   | zero => intro _; rfl
   | succ k ih => intro hk; exact firstBad_succ (ih (by omega)) (h5 k (by omega))
  rw [h6 _ (Nat.le_refl _)]
theorem toldL_mem {us : List Int} {w : Nat → Int} {l : List Wgh} {y : Wgh} (hy : y ∈ toldL us w l) : ∃ i x, l[i]? = some x ∧ y = toldW us w i x := by
 obtain ⟨i, hi⟩ := List.getElem?_of_mem hy
 have hil := (List.getElem?_eq_some_iff.1 hi).1
 rw [toldL_len] at hil
 rw [toldL_at _ _ _ hil, List.getElem?_eq_getElem hil] at hi
 simp only [Option.map_some, Option.some.injEq] at hi
 exact ⟨i, _, List.getElem?_eq_getElem hil, hi.symm⟩
theorem told_pre {h : Hul} {l : List Wgh} (hp : openPre h l = 0) {us : List Int} (hu : ∀ x ∈ us, 0 ≤ x ∧ x ≤ 4294967295) {w : Nat → Int} (hw : Box h w) : openPre h (toldL us w l) = 0 ∧ TruthP h (toldL us w l) w := by
 obtain ⟨h1, h2, h3, h4⟩ := openPre_iff.1 hp
 have hk := hulOk h1
 have hwo := wghsOk hp
 have each : ∀ (i : Nat) (x : Wgh), l[i]? = some x → ∃ s : Nat, x.set = (s : Int) ∧ s < 2 ^ h.ps.length ∧ 0 ≤ sumS w s ∧ sumS w s ≤ 800000 := fun i x hx => by
  obtain ⟨s, a1, a2, _⟩ := hwo.each x (List.mem_of_getElem? hx)
  exact ⟨s, a1, a2, sumS_bd hk.n8 a2 (box_wt hk.ps hw)⟩
 refine ⟨openPre_iff.2 ⟨h1, by rw [toldL_len]; exact h2, fun y hy => ?_, ?_⟩, hw, fun y hy => ?_⟩
 ·obtain ⟨i, x, hx, rfl⟩ := toldL_mem hy
  obtain ⟨s, a1, a2, a3, a4⟩ := each i x hx
  have t1 := turnI_bd us (2 * i) hu
  have t2 := turnI_bd us (2 * i + 1) hu
  refine ⟨(h3 x (List.mem_of_getElem? hx)).1, ?_, ?_, ?_⟩
  ·simp only [toldW]; omega
  ·simp only [toldW, a1, Int.toNat_natCast]; omega
  ·simp only [toldW]; omega
 ·rw [List.pairwise_iff_getElem]
  intro i j hi hj hij
  rw [toldL_len] at hi hj
  have e : ∀ k (hk : k < l.length) (hk' : k < (toldL us w l).length), (toldL us w l)[k].set = l[k].set := fun k hk hk' => by
   have := toldL_at us w l hk
   rw [List.getElem?_eq_getElem hk, List.getElem?_eq_getElem hk'] at this
   simp only [Option.map_some, Option.some.injEq] at this
   rw [this]; rfl
  unfold NoCross
  rw [e i hi _, e j hj _]
  exact List.pairwise_iff_getElem.1 h4 i j hi hj hij
 ·obtain ⟨i, x, hx, rfl⟩ := toldL_mem hy
  obtain ⟨s, a1, a2, a3, a4⟩ := each i x hx
  have t1 := turnI_bd us (2 * i) hu
  have t2 := turnI_bd us (2 * i + 1) hu
  simp only [toldW, a1, Int.toNat_natCast]
  omega
theorem openE_zero {h : Hul} {l : List Wgh} (hp : openPre h l = 0) (hf : Feas h l) : openE h l = 0 := by unfold openE; rw [if_pos hp, if_pos hf]
theorem sumS_single (w : Nat → Int) {i : Nat} (hi : i < 8) : sumS w (2 ^ i) = w i := by
 unfold sumS sumP
 exact sumTo_one 8 hi (fun j _ => by
  rw [Nat.testBit_two_pow]
  by_cases h : i = j
  ·subst h; simp
  ·simp [h, Ne.symm h])
end Go.Proofs.YtmhjhbchokbonaaGreat
namespace Go.Proofs.YtmhjhbchokbonaaGreat
open Go.RowKit
theorem bey1_any (n lo hi : Int) (a b : Addr) (w : World) (ha : w.cell? a = some (iv lo)) (hb : w.cell? b = some (iv hi)) :
  Calls Tryz.prog 108 #[iv n, .pointer (some a), .pointer (some b)] w fun e w' => e = .returned (.bool (!inB lo hi n)) ∧ w = w' := by
 by_cases h1 : n < lo
 ·go_enter Tryz.func108, Tryz.ntmps108
  go_wp2
  go_ret
  exact ⟨ret_bool (by unfold inB; rw [Bool.eq_iff_iff]; simp; omega), rfl⟩
 ·go_enter Tryz.func108, Tryz.ntmps108
  go_wp2
  go_ret
  exact ⟨ret_bool (by unfold inB; rw [Bool.eq_iff_iff]; simp; omega), rfl⟩
theorem beyIdx_any (A : Option Addr) (xs : List Int) (B cap : Nat) (lo hi : Int) (a1 a2 : Addr) (w : World) (hm : xs.length ≤ maxLen)
  (hR : Rd1 iv w B A xs) (ha : w.cell? a1 = some (iv lo)) (hb : w.cell? a2 = some (iv hi)) :
  Calls Tryz.prog 131 #[.slice A xs.length cap, .func (.func 108) #[] #[.pointer (some a1), .pointer (some a2)]] w (IdxPost (!allIn lo hi xs) w) := by
 unfold maxLen at hm
 go_enter Tryz.func131, Tryz.ntmps131
 go_wp2
 go_loop [8] (fun i => ∃ k : Nat, k ≤ xs.length ∧ i = iv k ∧ allIn lo hi (xs.take k) = true) (fun i => xs.length - (intOf i).toNat)
 case atStart => exact ⟨0, Nat.zero_le _, rfl, by simp [allIn]⟩
 case round =>
  obtain ⟨k, hk, rfl, hn⟩ := hrel
  by_cases hlt : k < xs.length
  ·obtain ⟨x, hx⟩ : ∃ x, xs[k]? = some x := ⟨_, List.getElem?_eq_getElem hlt⟩
   obtain ⟨b, off, rfl, _, hck⟩ := hR k x hx
   have Hx := Lq hx
   clear hx
   by_cases hp : inB lo hi x = true
   ·go_wp2_with (go_at_call 108; refine (bey1_any _ lo hi _ _ _ ha hb).mono ?_; rintro e w' ⟨rfl, rfl⟩)
    go_round
    case rel => exact ⟨k + 1, by omega, by go_num, by rw [allIn_snoc _ _ _ _ _ Hx.out, hn, hp]; rfl⟩
    case measure => simp [intOf]; omega
   ·have hp' : inB lo hi x = false := by simpa using hp
    go_wp2_with (go_at_call 108; refine (bey1_any _ lo hi _ _ _ ha hb).mono ?_; rintro e w' ⟨rfl, rfl⟩)
    go_ret
    exact ⟨k, rfl, by rw [allIn_no _ _ _ _ _ Hx.out hp']; simp, rfl⟩
  ·go_wp2
   go_ret
   refine ⟨-1, rfl, ?_, rfl⟩
   rw [List.take_of_length_le (by omega)] at hn
   rw [hn]; rfl
theorem beyCont_any (A : Option Addr) (xs : List Int) (B cap : Nat) (lo hi : Int) (a1 a2 : Addr) (w : World) (hm : xs.length ≤ maxLen)
  (hR : Rd1 iv w B A xs) (ha : w.cell? a1 = some (iv lo)) (hb : w.cell? a2 = some (iv hi)) :
  Calls Tryz.prog 107 #[.slice A xs.length cap, .func (.func 108) #[] #[.pointer (some a1), .pointer (some a2)]] w fun e w' => e = .returned (.bool (!allIn lo hi xs)) ∧ w = w' := by
 go_enter Tryz.func107, Tryz.ntmps107
 go_wp2_with (go_at_call 131; refine (beyIdx_any _ xs B cap lo hi _ _ _ hm hR ha hb).mono ?_; rintro e w' ⟨r, rfl, hr, rfl⟩)
 go_ret
 exact ⟨by rw [← hr]; rfl, rfl⟩
theorem beyond_any (A : Option Addr) (xs : List Int) (B cap : Nat) (lo hi : Int) (w : World) (hm : xs.length ≤ maxLen)
  (hR : Rd1 iv w B A xs) (hB : B ≤ w.heap.size) :
  Calls Tryz.prog 67 #[iv lo, iv hi, .slice A xs.length cap] w (Rt w (.bool (!allIn lo hi xs))) := by
 have hR1 := (hR.alloc hB (.cells #[iv lo] 3)).alloc (by simp; omega) (.cells #[iv hi] 3)
 go_enter Tryz.func67, Tryz.ntmps67
 go_wp2_with (go_at_call 107; refine (beyCont_any _ xs B cap lo hi _ _ _ hm hR1 (by go_simp) (by go_simp)).mono ?_; rintro e w' ⟨rfl, rfl⟩)
 go_ret
 exact ⟨rfl, ((Below.refl _ _).alloc (Nat.le_refl _) _).alloc (by simp) _⟩
theorem bey_one (lo hi x : Int) (g : Nat) (w : World) (hc : w.cell? ⟨g, 0, none⟩ = some (iv x)) (hg : g < w.heap.size) :
  Calls Tryz.prog 67 #[iv lo, iv hi, .slice (some ⟨g, 0, none⟩) 1 1] w (Rt w (.bool (!inB lo hi x))) := by
 have hR : Rd1 iv w w.heap.size (some ⟨g, 0, none⟩) [x] := by
  intro i y hy
  match i, hy with
  | 0, hy => simp at hy; subst hy; exact ⟨g, 0, rfl, hg, hc⟩
 refine (beyond_any _ [x] w.heap.size 1 lo hi w (by simp [maxLen]) hR (Nat.le_refl _)).mono ?_
 rintro e w' ⟨rfl, hb⟩
 exact ⟨ret_bool (by simp [allIn]), hb⟩
theorem bey_two (lo hi x y : Int) (g : Nat) (w : World) (hc : w.cell? ⟨g, 0, none⟩ = some (iv x)) (hd : w.cell? ⟨g, 1, none⟩ = some (iv y)) (hg : g < w.heap.size) :
  Calls Tryz.prog 67 #[iv lo, iv hi, .slice (some ⟨g, 0, none⟩) 2 2] w (Rt w (.bool (!(inB lo hi x && inB lo hi y)))) := by
 have hR : Rd1 iv w w.heap.size (some ⟨g, 0, none⟩) [x, y] := by
  intro i z hz
  match i, hz with
  | 0, hz => simp at hz; subst hz; exact ⟨g, 0, rfl, hg, hc⟩
  | 1, hz => simp at hz; subst hz; exact ⟨g, 0, rfl, hg, hd⟩
 refine (beyond_any _ [x, y] w.heap.size 2 lo hi w (by simp [maxLen]) hR (Nat.le_refl _)).mono ?_
 rintro e w' ⟨rfl, hb⟩
 exact ⟨ret_bool (by simp [allIn]), hb⟩
abbrev encS (p : StP) : List Value := [.string p.name, iv p.pos, iv p.wlo, iv p.whi, iv p.keel, iv p.llo, iv p.lhi]
theorem encS_len : ∀ p, (encS p).length = 7 := fun _ => rfl
abbrev stV (p : StP) : Value := .agg #[.string p.name, iv p.pos, iv p.wlo, iv p.whi, iv p.keel, iv p.llo, iv p.lhi]
abbrev h5V (h : StH) (A : Option Addr) (cap : Nat) : Value := .agg #[.slice A h.ps.length cap, iv h.aft, iv h.fore]
structure H5Rd (w : World) (B : Nat) (h : StH) (A : Option Addr) (cap : Nat) : Prop where
 ps : RdN 7 encS w B A h.ps
 pl : h.ps.length ≤ cap
 pm : cap ≤ maxLen
 nm : ∀ p ∈ h.ps, p.name.size ≤ maxLen
theorem H5Rd.below {w w' : World} {B B' : Nat} {h : StH} {A : Option Addr} {cap : Nat} (H : H5Rd w B h A cap) (hb : Below B' w w') (hB : B ≤ B') : H5Rd w' B h A cap := ⟨H.ps.below hb hB, H.pl, H.pm, H.nm⟩
theorem H5Rd.more {w : World} {B B' : Nat} {h : StH} {A : Option Addr} {cap : Nat} (H : H5Rd w B h A cap) (hB : B ≤ B') : H5Rd w B' h A cap := ⟨H.ps.more hB, H.pl, H.pm, H.nm⟩
theorem stAt {w : World} {B : Nat} {A : Option Addr} {xs : List StP} (h : RdN 7 encS w B A xs) {i : Nat} {x : StP} (hx : xs[i]? = some x) :
  ∃ b off, A = some ⟨b, off, none⟩ ∧ b < B ∧ w.cell? ⟨b, off + i * 7, none⟩ = some (.string x.name) ∧ w.cell? ⟨b, off + i * 7 + 1, none⟩ = some (iv x.pos) ∧ w.cell? ⟨b, off + i * 7 + 2, none⟩ = some (iv x.wlo) ∧ w.cell? ⟨b, off + i * 7 + 3, none⟩ = some (iv x.whi) ∧ w.cell? ⟨b, off + i * 7 + 4, none⟩ = some (iv x.keel) ∧ w.cell? ⟨b, off + i * 7 + 5, none⟩ = some (iv x.llo) ∧ w.cell? ⟨b, off + i * 7 + 6, none⟩ = some (iv x.lhi) := by
 obtain ⟨b, off, e, hb, hc⟩ := h i x hx
 exact ⟨b, off, e, hb, hc 0 _ rfl, hc 1 _ rfl, hc 2 _ rfl, hc 3 _ rfl, hc 4 _ rfl, hc 5 _ rfl, hc 6 _ rfl⟩
theorem h5Box (w : World) (h : StH) (A : Option Addr) (cap : Nat) : ∃ W1, w.alloc (.cells #[.slice A h.ps.length cap, iv h.aft, iv h.fore] 24) = W1 ∧ BW w W1 ∧ W1.cell? ⟨w.heap.size, 0, none⟩ = some (.slice A h.ps.length cap) ∧ W1.cell? ⟨w.heap.size, 1, none⟩ = some (iv h.aft) ∧ W1.cell? ⟨w.heap.size, 2, none⟩ = some (iv h.fore) :=
 ⟨_, rfl, belowA (belowR _) _, by go_simp, by go_simp, by go_simp⟩
theorem bey_oneB {lo hi x : Int} {b : Bool} (h : inB lo hi x = b) (g : Nat) (w : World) (hc : w.cell? ⟨g, 0, none⟩ = some (iv x)) : Calls Tryz.prog 67 #[iv lo, iv hi, .slice (some ⟨g, 0, none⟩) 1 1] w (Rt w (.bool (!b))) := by
 subst h
 exact bey_one lo hi x g w hc (lt_of_cell hc)
theorem bey_twoB {lo hi x y : Int} {b : Bool} (h : (inB lo hi x && inB lo hi y) = b) (g : Nat) (w : World) (hc : w.cell? ⟨g, 0, none⟩ = some (iv x)) (hd : w.cell? ⟨g, 1, none⟩ = some (iv y)) : Calls Tryz.prog 67 #[iv lo, iv hi, .slice (some ⟨g, 0, none⟩) 2 2] w (Rt w (.bool (!b))) := by
 subst h
 exact bey_two lo hi x y g w hc hd (lt_of_cell hc)
def partC (x : StP) : Int := if inB 0 5000 x.pos && (inB 0 1000 x.keel && ((inB 0 1000000 x.wlo && inB 0 1000000 x.whi) && (inB 0 5000 x.llo && inB 0 5000 x.lhi))) then (if x.whi < x.wlo ∨ x.lhi < x.llo then 2 else 0) else 7
def spE (ps : List StP) (k : Nat) : Int := match ps[k]? with
 | some c => if freshE ((ps.take k).map StP.name) c.name = 0 then partC c else freshE ((ps.take k).map StP.name) c.name
 | none => 0
def chkT (h : StH) : Int × Int × Int := match firstBad (spE h.ps) h.ps.length with
 | some (i, e) => (2, i, e)
 | none => (0, 0, 0)
def chk5 (h : StH) : Int × Int × Int := if inB 1 10 h.ps.length then (if inB 0 5000 h.aft && inB 0 5000 h.fore then (if h.fore ≤ h.aft then (1, 0, 2) else chkT h) else (1, 0, 7)) else (1, 0, 3)
theorem chkT_at {h : StH} {k : Nat} {e : Int} (hn : firstBad (spE h.ps) k = none) (he : spE h.ps k = e) (h0 : e ≠ 0) (hk : k < h.ps.length) : chkT h = ((2 : Int), (k : Int), e) := by
 unfold chkT
 rw [firstBad_at hn (by rw [he]; exact h0) hk, he]
theorem chkT_ok {h : StH} (hn : firstBad (spE h.ps) h.ps.length = none) : chkT h = (0, 0, 0) := by
 unfold chkT
 rw [hn]
theorem part100_any (x : StP) (w : World) : Calls Tryz.prog 100 #[stV x] w (Rt w (iv (partC x))) := by
 obtain ⟨name, pos, wlo, whi, keel, llo, lhi⟩ := x
 obtain ⟨W1, hW1⟩ := ex (w.alloc (.cells #[.string name, iv pos, iv wlo, iv whi, iv keel, iv llo, iv lhi] 42))
 have hb0 : BW w W1 := by rw [← hW1]; exact belowA (belowR _) _
 have hq : Blk W1 w.heap.size 42 #[.string name, iv pos, iv wlo, iv whi, iv keel, iv llo, iv lhi] := by rw [← hW1]; exact Blk.new w 42 _
 have HB0 := Lq hb0
 have HC : Hid (∀ W, BW W1 W → W.cell? ⟨w.heap.size, 1, none⟩ = some (iv pos) ∧ W.cell? ⟨w.heap.size, 2, none⟩ = some (iv wlo) ∧ W.cell? ⟨w.heap.size, 3, none⟩ = some (iv whi) ∧ W.cell? ⟨w.heap.size, 4, none⟩ = some (iv keel) ∧ W.cell? ⟨w.heap.size, 5, none⟩ = some (iv llo) ∧ W.cell? ⟨w.heap.size, 6, none⟩ = some (iv lhi)) := Lq fun W hb => ⟨keepC hb (hq.cell 1), keepC hb (hq.cell 2), keepC hb (hq.cell 3), keepC hb (hq.cell 4), keepC hb (hq.cell 5), keepC hb (hq.cell 6)⟩
 have hws : w.heap.size < W1.heap.size := hq.lt
 have HP : Hid (partC ⟨name, pos, wlo, whi, keel, llo, lhi⟩ = if inB 0 5000 pos && (inB 0 1000 keel && ((inB 0 1000000 wlo && inB 0 1000000 whi) && (inB 0 5000 llo && inB 0 5000 lhi))) then (if whi < wlo ∨ lhi < llo then 2 else 0) else 7) := Lq rfl
 obtain ⟨R, hR⟩ := ex (partC ⟨name, pos, wlo, whi, keel, llo, lhi⟩)
 rw [hR] at HP ⊢
 obtain ⟨b1, h1⟩ := ex (inB 0 5000 pos)
 obtain ⟨b2, h2⟩ := ex (inB 0 1000 keel)
 obtain ⟨b3, h3⟩ := ex ((inB 0 1000000 wlo && inB 0 1000000 whi))
 obtain ⟨b4, h4⟩ := ex ((inB 0 5000 llo && inB 0 5000 lhi))
 rw [h1, h2, h3, h4] at HP
 have O1 := Lq (fun g W => bey_oneB h1 g W)
 have O2 := Lq (fun g W => bey_oneB h2 g W)
 have O3 := Lq (fun g W => bey_twoB h3 g W)
 have O4 := Lq (fun g W => bey_twoB h4 g W)
 clear h1 h2 h3 h4 hR hb0 hq
 obtain ⟨p1, p2, p3, p4, p5, p6⟩ := HC.out _ (belowR W1)
 cases b1 with
 | false =>
  go_enter Tryz.func100, Tryz.ntmps100
  go_wp2_with fail
  refine (O1.out _ _ (by go_simp)).mono ?_
  rintro e w1 ⟨rfl, hb⟩
  have HB1 := Lq (belowT (belowA (belowR W1) _) hb)
  clear hb hW1 p1 p2 p3 p4 p5 p6
  obtain ⟨p1, p2, p3, p4, p5, p6⟩ := HC.out _ HB1.out
  go_wp2_with fail
  go_ret
  exact ⟨by rw [HP.out]; rfl, belowT HB0.out HB1.out⟩
 | true =>
  cases b2 with
  | false =>
   go_enter Tryz.func100, Tryz.ntmps100
   go_wp2_with fail
   refine (O1.out _ _ (by go_simp)).mono ?_
   rintro e w1 ⟨rfl, hb⟩
   have HB1 := Lq (belowT (belowA (belowR W1) _) hb)
   clear hb hW1 p1 p2 p3 p4 p5 p6
   obtain ⟨p1, p2, p3, p4, p5, p6⟩ := HC.out _ HB1.out
   go_wp2_with fail
   refine (O2.out _ _ (by go_simp)).mono ?_
   rintro e w2 ⟨rfl, hb⟩
   have HB2 := Lq (belowT (belowA (HB1.out) _) hb)
   clear hb p1 p2 p3 p4 p5 p6
   obtain ⟨p1, p2, p3, p4, p5, p6⟩ := HC.out _ HB2.out
   go_wp2_with fail
   go_ret
   exact ⟨by rw [HP.out]; rfl, belowT HB0.out HB2.out⟩
  | true =>
   cases b3 with
   | false =>
    go_enter Tryz.func100, Tryz.ntmps100
    go_wp2_with fail
    refine (O1.out _ _ (by go_simp)).mono ?_
    rintro e w1 ⟨rfl, hb⟩
    have HB1 := Lq (belowT (belowA (belowR W1) _) hb)
    clear hb hW1 p1 p2 p3 p4 p5 p6
    obtain ⟨p1, p2, p3, p4, p5, p6⟩ := HC.out _ HB1.out
    go_wp2_with fail
    refine (O2.out _ _ (by go_simp)).mono ?_
    rintro e w2 ⟨rfl, hb⟩
    have HB2 := Lq (belowT (belowA (HB1.out) _) hb)
    clear hb p1 p2 p3 p4 p5 p6
    obtain ⟨p1, p2, p3, p4, p5, p6⟩ := HC.out _ HB2.out
    go_wp2_with fail
    refine (O3.out _ _ (by go_simp) (by go_simp)).mono ?_
    rintro e w3 ⟨rfl, hb⟩
    have HB3 := Lq (belowT (belowA (HB2.out) _) hb)
    clear hb p1 p2 p3 p4 p5 p6
    obtain ⟨p1, p2, p3, p4, p5, p6⟩ := HC.out _ HB3.out
    go_wp2_with fail
    go_ret
    exact ⟨by rw [HP.out]; rfl, belowT HB0.out HB3.out⟩
   | true =>
    cases b4 with
    | false =>
     go_enter Tryz.func100, Tryz.ntmps100
     go_wp2_with fail
     refine (O1.out _ _ (by go_simp)).mono ?_
     rintro e w1 ⟨rfl, hb⟩
     have HB1 := Lq (belowT (belowA (belowR W1) _) hb)
     clear hb hW1 p1 p2 p3 p4 p5 p6
     obtain ⟨p1, p2, p3, p4, p5, p6⟩ := HC.out _ HB1.out
     go_wp2_with fail
     refine (O2.out _ _ (by go_simp)).mono ?_
     rintro e w2 ⟨rfl, hb⟩
     have HB2 := Lq (belowT (belowA (HB1.out) _) hb)
     clear hb p1 p2 p3 p4 p5 p6
     obtain ⟨p1, p2, p3, p4, p5, p6⟩ := HC.out _ HB2.out
     go_wp2_with fail
     refine (O3.out _ _ (by go_simp) (by go_simp)).mono ?_
     rintro e w3 ⟨rfl, hb⟩
     have HB3 := Lq (belowT (belowA (HB2.out) _) hb)
     clear hb p1 p2 p3 p4 p5 p6
     obtain ⟨p1, p2, p3, p4, p5, p6⟩ := HC.out _ HB3.out
     go_wp2_with fail
     refine (O4.out _ _ (by go_simp) (by go_simp)).mono ?_
     rintro e w4 ⟨rfl, hb⟩
     have HB4 := Lq (belowT (belowA (HB3.out) _) hb)
     clear hb p1 p2 p3 p4 p5 p6
     obtain ⟨p1, p2, p3, p4, p5, p6⟩ := HC.out _ HB4.out
     go_wp2_with fail
     go_ret
     exact ⟨by rw [HP.out]; rfl, belowT HB0.out HB4.out⟩
    | true =>
     have HP : Hid (R = if whi < wlo ∨ lhi < llo then 2 else 0) := Lq HP.out
     by_cases hw : whi < wlo
     ·have hd : decide (whi < wlo) = true := decide_eq_true hw
      rw [if_pos (.inl hw)] at HP
      go_enter Tryz.func100, Tryz.ntmps100
      go_wp2_with fail
      refine (O1.out _ _ (by go_simp)).mono ?_
      rintro e w1 ⟨rfl, hb⟩
      have HB1 := Lq (belowT (belowA (belowR W1) _) hb)
      clear hb hW1 p1 p2 p3 p4 p5 p6
      obtain ⟨p1, p2, p3, p4, p5, p6⟩ := HC.out _ HB1.out
      go_wp2_with fail
      refine (O2.out _ _ (by go_simp)).mono ?_
      rintro e w2 ⟨rfl, hb⟩
      have HB2 := Lq (belowT (belowA (HB1.out) _) hb)
      clear hb p1 p2 p3 p4 p5 p6
      obtain ⟨p1, p2, p3, p4, p5, p6⟩ := HC.out _ HB2.out
      go_wp2_with fail
      refine (O3.out _ _ (by go_simp) (by go_simp)).mono ?_
      rintro e w3 ⟨rfl, hb⟩
      have HB3 := Lq (belowT (belowA (HB2.out) _) hb)
      clear hb p1 p2 p3 p4 p5 p6
      obtain ⟨p1, p2, p3, p4, p5, p6⟩ := HC.out _ HB3.out
      go_wp2_with fail
      refine (O4.out _ _ (by go_simp) (by go_simp)).mono ?_
      rintro e w4 ⟨rfl, hb⟩
      have HB4 := Lq (belowT (belowA (HB3.out) _) hb)
      clear hb p1 p2 p3 p4 p5 p6
      obtain ⟨p1, p2, p3, p4, p5, p6⟩ := HC.out _ HB4.out
      go_wp2_with fail
      go_ret
      exact ⟨by rw [HP.out]; rfl, belowT HB0.out HB4.out⟩
     ·have hd : decide (whi < wlo) = false := decide_eq_false hw
      by_cases hl : lhi < llo
      ·have hd2 : decide (lhi < llo) = true := decide_eq_true hl
       rw [if_pos (.inr hl)] at HP
       go_enter Tryz.func100, Tryz.ntmps100
       go_wp2_with fail
       refine (O1.out _ _ (by go_simp)).mono ?_
       rintro e w1 ⟨rfl, hb⟩
       have HB1 := Lq (belowT (belowA (belowR W1) _) hb)
       clear hb hW1 p1 p2 p3 p4 p5 p6
       obtain ⟨p1, p2, p3, p4, p5, p6⟩ := HC.out _ HB1.out
       go_wp2_with fail
       refine (O2.out _ _ (by go_simp)).mono ?_
       rintro e w2 ⟨rfl, hb⟩
       have HB2 := Lq (belowT (belowA (HB1.out) _) hb)
       clear hb p1 p2 p3 p4 p5 p6
       obtain ⟨p1, p2, p3, p4, p5, p6⟩ := HC.out _ HB2.out
       go_wp2_with fail
       refine (O3.out _ _ (by go_simp) (by go_simp)).mono ?_
       rintro e w3 ⟨rfl, hb⟩
       have HB3 := Lq (belowT (belowA (HB2.out) _) hb)
       clear hb p1 p2 p3 p4 p5 p6
       obtain ⟨p1, p2, p3, p4, p5, p6⟩ := HC.out _ HB3.out
       go_wp2_with fail
       refine (O4.out _ _ (by go_simp) (by go_simp)).mono ?_
       rintro e w4 ⟨rfl, hb⟩
       have HB4 := Lq (belowT (belowA (HB3.out) _) hb)
       clear hb p1 p2 p3 p4 p5 p6
       obtain ⟨p1, p2, p3, p4, p5, p6⟩ := HC.out _ HB4.out
       go_wp2_with fail
       go_ret
       exact ⟨by rw [HP.out]; rfl, belowT HB0.out HB4.out⟩
      ·have hd2 : decide (lhi < llo) = false := decide_eq_false hl
       rw [if_neg (by omega)] at HP
       go_enter Tryz.func100, Tryz.ntmps100
       go_wp2_with fail
       refine (O1.out _ _ (by go_simp)).mono ?_
       rintro e w1 ⟨rfl, hb⟩
       have HB1 := Lq (belowT (belowA (belowR W1) _) hb)
       clear hb hW1 p1 p2 p3 p4 p5 p6
       obtain ⟨p1, p2, p3, p4, p5, p6⟩ := HC.out _ HB1.out
       go_wp2_with fail
       refine (O2.out _ _ (by go_simp)).mono ?_
       rintro e w2 ⟨rfl, hb⟩
       have HB2 := Lq (belowT (belowA (HB1.out) _) hb)
       clear hb p1 p2 p3 p4 p5 p6
       obtain ⟨p1, p2, p3, p4, p5, p6⟩ := HC.out _ HB2.out
       go_wp2_with fail
       refine (O3.out _ _ (by go_simp) (by go_simp)).mono ?_
       rintro e w3 ⟨rfl, hb⟩
       have HB3 := Lq (belowT (belowA (HB2.out) _) hb)
       clear hb p1 p2 p3 p4 p5 p6
       obtain ⟨p1, p2, p3, p4, p5, p6⟩ := HC.out _ HB3.out
       go_wp2_with fail
       refine (O4.out _ _ (by go_simp) (by go_simp)).mono ?_
       rintro e w4 ⟨rfl, hb⟩
       have HB4 := Lq (belowT (belowA (HB3.out) _) hb)
       clear hb p1 p2 p3 p4 p5 p6
       obtain ⟨p1, p2, p3, p4, p5, p6⟩ := HC.out _ HB4.out
       go_wp2_with fail
       go_ret
       exact ⟨by rw [HP.out]; rfl, belowT HB0.out HB4.out⟩
theorem sameS_any (x y : StP) (gx : Nat) (w : World) (hc : w.cell? ⟨gx, 0, none⟩ = some (.string x.name)) : Calls Tryz.prog 99 #[stV y, pT gx 0] w (Rt w (.bool (y.name.toList == x.name.toList))) := by
 have hl := lt_of_cell hc
 have hc2 := keepA hc (.cells #[.string y.name, iv y.pos, iv y.wlo, iv y.whi, iv y.keel, iv y.llo, iv y.lhi] 42)
 go_enter Tryz.func99, Tryz.ntmps99
 go_wp2
 go_ret
 exact ⟨rfl, belowA (belowR _) _⟩
theorem idxS_any (A : Option Addr) (xs : List StP) (B cap gx : Nat) (x : StP) (w : World) (hm : xs.length ≤ maxLen) (hR : RdN 7 encS w B A xs) (hB : B ≤ w.heap.size) (hc : w.cell? ⟨gx, 0, none⟩ = some (.string x.name)) :
  Calls Tryz.prog 130 #[.slice A xs.length cap, .func (.func 99) #[] #[pT gx 0]] w (IdxPostB (oneOf (xs.map StP.name) x.name) w) := by
 unfold maxLen at hm
 have HS : Hid (∀ (V : World) (y : StP), BW w V → Calls Tryz.prog 99 #[stV y, pT gx 0] V (Rt V (.bool (y.name.toList == x.name.toList)))) := Lq fun V y hb => sameS_any x y gx V (keepC hb hc)
 have HR := Lq hR
 clear hR hc
 go_enter Tryz.func130, Tryz.ntmps130
 go_wp2
 go_loopw [8] (fun i wr => ∃ k : Nat, k ≤ xs.length ∧ i = iv k ∧ Hid (oneOf ((xs.map StP.name).take k) x.name = false) ∧ Hid (BW w wr)) (fun i _ => xs.length - (intOf i).toNat)
 case atStart => exact ⟨0, Nat.zero_le _, rfl, Lq (by simp [oneOf]), Lq (belowR _)⟩
 case round =>
  obtain ⟨k, hk, rfl, HN, HBW⟩ := hrel
  by_cases hlt : k < xs.length
  ·obtain ⟨y, hy⟩ : ∃ y, xs[k]? = some y := ⟨_, List.getElem?_eq_getElem hlt⟩
   obtain ⟨b, off, rfl, _, c0, c1, c2, c3, c4, c5, c6⟩ := stAt (HR.out.below HBW.out hB) hy
   have HY : Hid ((xs.map StP.name)[k]? = some y.name) := Lq (by rw [List.getElem?_map, hy]; rfl)
   have HSY := Lq (fun V hb => HS.out V y hb)
   have hkz : (k : Int) < (xs.length : Int) := by omega
   have hk0 : (0 : Int) ≤ (k : Int) := by omega
   clear hy
   obtain ⟨name, pos, wlo, whi, keel, llo, lhi⟩ := y
   simp only at c0 c1 c2 c3 c4 c5 c6 HY HSY
   cases hp : (name.toList == x.name.toList) with
   | true =>
    rw [hp] at HSY
    have HO : Hid (oneOf (xs.map StP.name) x.name = true) := Lq (by unfold oneOf; rw [List.any_eq_true]; exact ⟨_, List.mem_of_getElem? HY.out, hp⟩)
    clear hp
    go_wp2_with fail
    refine (HSY.out _ HBW.out).mono ?_
    rintro e w1 ⟨rfl, hb⟩
    have HB1 := Lq (belowT HBW.out hb)
    clear hb
    go_wp2_with fail
    go_ret
    exact ⟨k, rfl, by rw [HO.out]; simp, HB1.out⟩
   | false =>
    rw [hp] at HSY
    have HN2 : Hid (oneOf ((xs.map StP.name).take (k + 1)) x.name = false) := Lq (by rw [oneOf_snoc _ _ _ _ HY.out, HN.out, hp]; rfl)
    clear hp
    go_wp2_with fail
    refine (HSY.out _ HBW.out).mono ?_
    rintro e w1 ⟨rfl, hb⟩
    have HB1 := Lq (belowT HBW.out hb)
    clear hb
    go_wp2_with fail
    go_roundw
    case rel => exact ⟨k + 1, by omega, by go_num, HN2, HB1⟩
    case measure => simp [intOf]; omega
  ·have HN2 : Hid (oneOf (xs.map StP.name) x.name = false) := Lq (by have := HN.out; rwa [List.take_of_length_le (by rw [List.length_map]; omega)] at this)
   go_wp2
   go_ret
   exact ⟨-1, rfl, by rw [HN2.out]; rfl, HBW.out⟩
theorem conS_any (A : Option Addr) (xs : List StP) (B cap gx : Nat) (x : StP) (w : World) (hm : xs.length ≤ maxLen) (hR : RdN 7 encS w B A xs) (hB : B ≤ w.heap.size) (hc : w.cell? ⟨gx, 0, none⟩ = some (.string x.name)) :
  Calls Tryz.prog 98 #[.slice A xs.length cap, .func (.func 99) #[] #[pT gx 0]] w (Rt w (.bool (oneOf (xs.map StP.name) x.name))) := by
 have HI := Lq (idxS_any A xs B cap gx x w hm hR hB hc)
 go_enter Tryz.func98, Tryz.ntmps98
 go_wp2_with fail
 refine HI.out.mono ?_
 rintro e w' ⟨r, rfl, hr, hb⟩
 have HR := Lq hr
 have HB := Lq hb
 clear hr hb
 go_wp2_with fail
 go_ret
 exact ⟨by rw [← HR.out]; rfl, HB.out⟩
theorem check60_any (h : StH) (A : Option Addr) (B cap : Nat) (w : World) (hH : H5Rd w B h A cap) (hB : B ≤ w.heap.size) :
  Calls Tryz.prog 60 #[h5V h A cap] w (Rt w (ret3 (chk5 h))) := by
 obtain ⟨W1, hW1, hb0, p0, p1, p2⟩ := h5Box w h A cap
 have HC : Hid (∀ W, BW W1 W → W.cell? ⟨w.heap.size, 0, none⟩ = some (.slice A h.ps.length cap) ∧ W.cell? ⟨w.heap.size, 1, none⟩ = some (iv h.aft) ∧ W.cell? ⟨w.heap.size, 2, none⟩ = some (iv h.fore)) := Lq fun W hb => ⟨keepC hb p0, keepC hb p1, keepC hb p2⟩
 have HH := Lq (hH.below hb0 hB)
 have HB0 := Lq hb0
 have hz1 := hb0.size
 have hws : w.heap.size < W1.heap.size := lt_of_cell p0
 have hpl := hH.pl
 have hpm := hH.pm
 unfold maxLen at hpm
 have HCH : Hid (chk5 h = if inB 1 10 h.ps.length then (if inB 0 5000 h.aft && inB 0 5000 h.fore then (if h.fore ≤ h.aft then (1, 0, 2) else chkT h) else (1, 0, 7)) else (1, 0, 3)) := Lq rfl
 obtain ⟨R, hR⟩ := ex (chk5 h)
 rw [hR] at HCH ⊢
 obtain ⟨b1, h1⟩ := ex (inB 1 10 (h.ps.length : Int))
 obtain ⟨b2, h2⟩ := ex ((inB 0 5000 h.aft && inB 0 5000 h.fore))
 rw [h1, h2] at HCH
 have O1 := Lq (fun g W => bey_oneB h1 g W)
 have O2 := Lq (fun g W => bey_twoB h2 g W)
 clear hR hb0 hH
 cases b1 with
 | false =>
  have HR : Hid (R = (1, 0, 3)) := Lq (by rw [HCH.out]; rfl)
  go_enter Tryz.func60, Tryz.ntmps60
  go_wp2_with fail
  refine (O1.out _ _ (by go_simp)).mono ?_
  rintro e w2 ⟨rfl, hb⟩
  have HB2 := Lq (belowT (belowA (belowR W1) _) hb)
  clear hb hW1 p0 p1 p2
  obtain ⟨p0, p1, p2⟩ := HC.out _ HB2.out
  go_wp2_with fail
  go_ret3
  exact ⟨by rw [HR.out]; rfl, belowT HB0.out HB2.out⟩
 | true =>
  have h10 : h.ps.length ≤ 10 := by have := (inB_t h1).2; omega
  have hn1 : 1 ≤ h.ps.length := by have := (inB_t h1).1; omega
  cases b2 with
  | false =>
   have HR : Hid (R = (1, 0, 7)) := Lq (by rw [HCH.out]; rfl)
   go_enter Tryz.func60, Tryz.ntmps60
   go_wp2_with fail
   refine (O1.out _ _ (by go_simp)).mono ?_
   rintro e w2 ⟨rfl, hb⟩
   have HB2 := Lq (belowT (belowA (belowR W1) _) hb)
   clear hb hW1 p0 p1 p2
   obtain ⟨p0, p1, p2⟩ := HC.out _ HB2.out
   go_wp2_with fail
   refine (O2.out _ _ (by go_simp) (by go_simp)).mono ?_
   rintro e w3 ⟨rfl, hb⟩
   have HB3 := Lq (belowT (belowA (HB2.out) _) hb)
   clear hb p0 p1 p2
   obtain ⟨p0, p1, p2⟩ := HC.out _ HB3.out
   go_wp2_with fail
   go_ret3
   exact ⟨by rw [HR.out]; rfl, belowT HB0.out HB3.out⟩
  | true =>
   by_cases hf : h.fore ≤ h.aft
   ·have HR : Hid (R = (1, 0, 2)) := Lq (by rw [HCH.out, if_pos rfl, if_pos rfl, if_pos hf])
    have hd : decide (h.fore ≤ h.aft) = true := decide_eq_true hf
    go_enter Tryz.func60, Tryz.ntmps60
    go_wp2_with fail
    refine (O1.out _ _ (by go_simp)).mono ?_
    rintro e w2 ⟨rfl, hb⟩
    have HB2 := Lq (belowT (belowA (belowR W1) _) hb)
    clear hb hW1 p0 p1 p2
    obtain ⟨p0, p1, p2⟩ := HC.out _ HB2.out
    go_wp2_with fail
    refine (O2.out _ _ (by go_simp) (by go_simp)).mono ?_
    rintro e w3 ⟨rfl, hb⟩
    have HB3 := Lq (belowT (belowA (HB2.out) _) hb)
    clear hb p0 p1 p2
    obtain ⟨p0, p1, p2⟩ := HC.out _ HB3.out
    go_wp2_with fail
    go_ret3
    exact ⟨by rw [HR.out]; rfl, belowT HB0.out HB3.out⟩
   ·have HR : Hid (R = chkT h) := Lq (by rw [HCH.out, if_pos rfl, if_pos rfl, if_neg hf])
    have hd : decide (h.fore ≤ h.aft) = false := decide_eq_false hf
    clear h1 h2
    go_enter Tryz.func60, Tryz.ntmps60
    go_wp2_with fail
    refine (O1.out _ _ (by go_simp)).mono ?_
    rintro e w2 ⟨rfl, hb⟩
    have HB2 := Lq (belowT (belowA (belowR W1) _) hb)
    clear hb hW1 p0 p1 p2
    obtain ⟨p0, p1, p2⟩ := HC.out _ HB2.out
    go_wp2_with fail
    refine (O2.out _ _ (by go_simp) (by go_simp)).mono ?_
    rintro e w3 ⟨rfl, hb⟩
    have HB3 := Lq (belowT (belowA (HB2.out) _) hb)
    clear hb p0 p1 p2
    obtain ⟨p0, p1, p2⟩ := HC.out _ HB3.out
    go_wp2_with fail
    clear p0 p1 p2
    go_loopw [29] (fun i wr => ∃ k : Nat, k ≤ h.ps.length ∧ i = iv k ∧ Hid (firstBad (spE h.ps) k = none) ∧ Hid (BW W1 wr)) (fun i _ => h.ps.length - (intOf i).toNat)
    case atStart => exact ⟨0, Nat.zero_le _, rfl, Lq rfl, HB3⟩
    case round =>
     clear HB3 HB2
     obtain ⟨k, hk, rfl, HN, HBW⟩ := hrel
     obtain ⟨p0, p1, p2⟩ := HC.out _ HBW.out
     have hzr := HBW.out.size
     by_cases hlt : k < h.ps.length
     ·obtain ⟨c, hx⟩ : ∃ c, h.ps[k]? = some c := ⟨_, List.getElem?_eq_getElem hlt⟩
      have hRw := HH.out.ps.below HBW.out (by omega)
      have hnm := HH.out.nm c (List.mem_of_getElem? hx)
      have htl : (h.ps.take k).length = k := by rw [List.length_take]; omega
      have hcon : ∀ (V : World) (gx : Nat), BW wr V → V.cell? ⟨gx, 0, none⟩ = some (.string c.name) → Calls Tryz.prog 98 #[.slice A k cap, .func (.func 99) #[] #[pT gx 0]] V fun e w' => e = .returned (.bool (oneOf ((h.ps.take k).map StP.name) c.name)) ∧ BW V w' := fun V gx hb hc => by
       have := conS_any A (h.ps.take k) B cap gx c V (by rw [htl]; unfold maxLen; omega) ((hRw.take k).below hb (by omega)) (by have := hb.size; omega) hc
       rwa [htl] at this
      have hpe : spE h.ps k = if freshE ((h.ps.take k).map StP.name) c.name = 0 then partC c else freshE ((h.ps.take k).map StP.name) c.name := by simp [spE, hx]
      have hnam := fun V => name_any c.name V hnm
      have hpc := fun V => part100_any c V
      unfold freshE at hpe
      obtain ⟨nb, hnb⟩ := ex (nameB c.name)
      obtain ⟨ob, hob⟩ := ex (oneOf ((h.ps.take k).map StP.name) c.name)
      obtain ⟨E, hE⟩ := ex (partC c)
      rw [hnb] at hnam hpe
      rw [hob] at hcon hpe
      rw [hE] at hpc hpe
      obtain ⟨bb, off, rfl, _, d0, d1, d2, d3, d4, d5, d6⟩ := stAt hRw hx
      have HNAM := Lq hnam
      have HCON := Lq hcon
      have HPC := Lq hpc
      have HPE := Lq hpe
      have hkz : (k : Int) < (h.ps.length : Int) := by omega
      have hkc : (k : Int) ≤ (cap : Int) := by omega
      have hk0 : (0 : Int) ≤ (k : Int) := by omega
      clear hnam hcon hpc hpe hnb hob hE hx hRw hnm htl
      obtain ⟨name, pos, wlo, whi, keel, llo, lhi⟩ := c
      simp only at d0 d1 d2 d3 d4 d5 d6 HNAM HCON HPC
      have hbx : BW wr (wr.alloc (.cells #[.string name, iv pos, iv wlo, iv whi, iv keel, iv llo, iv lhi] 42)) := belowA (belowR _) _
      have hbk := Blk.new wr 42 #[.string name, iv pos, iv wlo, iv whi, iv keel, iv llo, iv lhi]
      have HBX := Lq hbx
      have HBK := Lq hbk
      clear hbx hbk
      cases nb with
      | false =>
       have HEND : Hid (R = ((2 : Int), (k : Int), (6 : Int))) := Lq (by rw [HR.out]; exact chkT_at HN.out HPE.out (by decide) hlt)
       go_wp2_with fail
       refine (HNAM.out _).mono ?_
       rintro e x1 ⟨rfl, hb⟩
       have X1 := Lq (belowT (belowT HBW.out HBX.out) hb)
       clear hb p0 p1 p2 d0 d1 d2 d3 d4 d5 d6
       go_wp2_with fail
       go_ret3
       exact ⟨by rw [HEND.out]; rfl, belowT HB0.out X1.out⟩
      | true =>
       cases ob with
       | true =>
        have HEND : Hid (R = ((2 : Int), (k : Int), (5 : Int))) := Lq (by rw [HR.out]; exact chkT_at HN.out HPE.out (by decide) hlt)
        go_wp2_with fail
        refine (HNAM.out _).mono ?_
        rintro e x1 ⟨rfl, hb⟩
        have hb1 := belowT HBX.out hb
        have hbk1 := HBK.out.same (hb.block _ HBK.out.lt)
        have X1 := Lq hb1
        have XW := Lq (belowT HBW.out hb1)
        have HK1 := Lq hbk1
        have c0 : x1.cell? ⟨wr.heap.size, 0, none⟩ = some (.string name) := hbk1.cell 0
        clear hb hb1 hbk1 p0 p1 p2 d0 d1 d2 d3 d4 d5 d6
        obtain ⟨p0, p1, p2⟩ := HC.out _ XW.out
        go_wp2_with fail
        refine (HCON.out _ _ X1.out c0).mono ?_
        rintro e x2 ⟨rfl, hb⟩
        have X2 := Lq (belowT XW.out hb)
        clear hb p0 p1 p2 c0
        go_wp2_with fail
        go_ret3
        exact ⟨by rw [HEND.out]; rfl, belowT HB0.out X2.out⟩
       | false =>
        have HPE2 : Hid (spE h.ps k = E) := Lq (by rw [HPE.out]; rfl)
        go_wp2_with fail
        refine (HNAM.out _).mono ?_
        rintro e x1 ⟨rfl, hb⟩
        have hb1 := belowT HBX.out hb
        have hbk1 := HBK.out.same (hb.block _ HBK.out.lt)
        have X1 := Lq hb1
        have XW := Lq (belowT HBW.out hb1)
        have HK1 := Lq hbk1
        have c0 : x1.cell? ⟨wr.heap.size, 0, none⟩ = some (.string name) := hbk1.cell 0
        clear hb hb1 hbk1 p0 p1 p2 d0 d1 d2 d3 d4 d5 d6
        obtain ⟨p0, p1, p2⟩ := HC.out _ XW.out
        go_wp2_with fail
        refine (HCON.out _ _ X1.out c0).mono ?_
        rintro e x2 ⟨rfl, hb⟩
        have X2 := Lq (belowT XW.out hb)
        have hbk2 := HK1.out.same (hb.block _ HK1.out.lt)
        have c0 : x2.cell? ⟨wr.heap.size, 0, none⟩ = some (.string name) := hbk2.cell 0
        have c1 : x2.cell? ⟨wr.heap.size, 1, none⟩ = some (iv pos) := hbk2.cell 1
        have c2 : x2.cell? ⟨wr.heap.size, 2, none⟩ = some (iv wlo) := hbk2.cell 2
        have c3 : x2.cell? ⟨wr.heap.size, 3, none⟩ = some (iv whi) := hbk2.cell 3
        have c4 : x2.cell? ⟨wr.heap.size, 4, none⟩ = some (iv keel) := hbk2.cell 4
        have c5 : x2.cell? ⟨wr.heap.size, 5, none⟩ = some (iv llo) := hbk2.cell 5
        have c6 : x2.cell? ⟨wr.heap.size, 6, none⟩ = some (iv lhi) := hbk2.cell 6
        clear hb hbk2 p0 p1 p2
        go_wp2_with fail
        refine (HPC.out _).mono ?_
        rintro e x3 ⟨rfl, hb⟩
        have X3 := Lq (belowT X2.out hb)
        clear hb c0 c1 c2 c3 c4 c5 c6
        by_cases hE0 : E = 0
        ·subst hE0
         go_wp2_with fail
         go_roundw
         case rel => exact ⟨k + 1, by omega, by go_num, Lq (firstBad_succ HN.out HPE2.out), X3⟩
         case measure => simp [intOf]; omega
        ·have hne2 : (E != 0) = true := by simpa using hE0
         have HEND : Hid (R = ((2 : Int), (k : Int), (E : Int))) := Lq (by rw [HR.out]; exact chkT_at HN.out HPE2.out hE0 hlt)
         go_wp2_with fail
         go_ret3
         exact ⟨by rw [HEND.out]; rfl, belowT HB0.out X3.out⟩
     ·obtain rfl : k = h.ps.length := by omega
      have HEND : Hid (R = (0, 0, 0)) := Lq (by rw [HR.out]; exact chkT_ok HN.out)
      go_wp2_with fail
      go_ret3
      exact ⟨by rw [HEND.out]; rfl, belowT HB0.out HBW.out⟩
end Go.Proofs.YtmhjhbchokbonaaGreat
