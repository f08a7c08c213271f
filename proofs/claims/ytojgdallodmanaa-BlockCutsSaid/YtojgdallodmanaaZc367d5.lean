/- The laws' helpers: Told. Weighings without an error: what is asked of them, of each and of any two; those that are told of a truth. The plain law of BlockTrue. No program is named here. The reference's asked, Greatest, up, Pull. The reference's Weights. -/
import Derived.Test.YtojgdallodmanaaZ382934
import Derived.Test.YtojgdallodmanaaZ872d06
namespace Go.Proofs.Ytojgdallodmanaa
open Go.RowKit

/-- A weighing of the same parts that is true of some weights. -/
def toldW (us : List Int) (w : Nat → Int) (i : Nat) (x : Wgh) : Wgh := ⟨x.set, max 0 (sumS w x.set.toNat - turnI us (2 * i) % 50), min 1000000 (sumS w x.set.toNat + turnI us (2 * i + 1) % 50)⟩
def toldTo (us : List Int) (w : Nat → Int) (l : List Wgh) : Nat → List Wgh
  | 0 => []
  | k + 1 => match l[k]? with
    | some x => toldTo us w l k ++ [toldW us w k x]
    | none => toldTo us w l k
def toldL (us : List Int) (w : Nat → Int) (l : List Wgh) : List Wgh := toldTo us w l l.length
theorem toldTo_succ {us : List Int} {w : Nat → Int} {l : List Wgh} {k : Nat} {x : Wgh} (hx : l[k]? = some x) : toldTo us w l (k + 1) = toldTo us w l k ++ [toldW us w k x] := by
  show (match l[k]? with | some x => toldTo us w l k ++ [toldW us w k x] | none => toldTo us w l k) = _
  rw [hx]
theorem toldTo_len {us : List Int} {w : Nat → Int} {l : List Wgh} : ∀ k, k ≤ l.length → (toldTo us w l k).length = k := by
  intro k
  induction k with
  | zero => intro _; rfl
  | succ k ih =>
    intro hk
    rw [toldTo_succ (List.getElem?_eq_getElem (show k < l.length by omega)), List.length_append, ih (by omega)]
    rfl
theorem toldTo_at {us : List Int} {w : Nat → Int} {l : List Wgh} : ∀ k, k ≤ l.length → ∀ i, i < k → (toldTo us w l k)[i]? = (l[i]?).map (toldW us w i) := by
  intro k
  induction k with
  | zero => intro _ i hi; omega
  | succ k ih =>
    intro hk i hi
    have hx := List.getElem?_eq_getElem (show k < l.length by omega)
    rw [toldTo_succ hx]
    by_cases hik : i < k
    · rw [List.getElem?_append_left (by rw [toldTo_len k (by omega)]; exact hik), ih (by omega) i hik]
    · obtain rfl : i = k := by omega
      rw [List.getElem?_append_right (by rw [toldTo_len i (by omega)]; omega), toldTo_len i (by omega), hx]
      simp
theorem toldL_len (us : List Int) (w : Nat → Int) (l : List Wgh) : (toldL us w l).length = l.length := toldTo_len _ (Nat.le_refl _)
theorem toldL_at (us : List Int) (w : Nat → Int) (l : List Wgh) {i : Nat} (hi : i < l.length) : (toldL us w l)[i]? = (l[i]?).map (toldW us w i) := toldTo_at _ (Nat.le_refl _) i hi

theorem Try.info82b : (Try.prog.info? 82).map (fun i => (i.zero, i.size, i.bytes)) = some (some (.agg #[.int .i64 0, .int .i64 0, .int .i64 0]), 3, 24) := by kernel_rfl
/-- A list of weighings of a call's own. -/
def WghPost (L : List Wgh) (w : World) (e : Ending) (w' : World) : Prop :=
  Below w.heap.size w w' ∧ ∃ A cap, e = .returned (.slice A L.length cap) ∧ RdN 3 encWgh w' w'.heap.size A L ∧ L.length ≤ cap ∧ cap ≤ maxLen

set_option maxRecDepth 100000 in
set_option maxHeartbeats 8000000 in
theorem told_any (n : Nat) (AL : Option Addr) (l : List Wgh) (capL : Nat) (AW : Option Addr) (wt : Nat → Int) (capW : Nat) (AU : Option Addr) (us : List Int) (capU : Nat) (B : Nat) (w : World) (hn8 : n ≤ 8)
    (hL : RdN 3 encWgh w B AL l) (hw : WghsOk n l) (hW : Rd1 iv w w.heap.size AW (rowW wt n)) (hb : WtOk n wt) (hu : U32s us) (hU : Rd1 uv w B AU us) (hB : B ≤ w.heap.size) :
    Calls Try.prog 41 #[.slice AL l.length capL, .slice AW n capW, .slice AU us.length capU] w (WghPost (toldL us wt l) w) := by
  obtain ⟨i0, hi0, hz0, hz1, hz2⟩ := info_parts Try.info82b
  have hl6 := hw.l6
  have HL := Lib.hid hL
  have HU := Lib.hid hU
  have HW := Lib.hid hW
  have HWO := Lib.hid hw
  have HB := Lib.hid hb
  have HUU := Lib.hid hu
  have HFIN : Hid (∀ e w', WghPost (toldTo us wt l l.length) w e w' → WghPost (toldL us wt l) w e w') := Lib.hid fun _ _ h => h
  obtain ⟨POST, hPOST⟩ : ∃ P, WghPost (toldL us wt l) w = P := ⟨_, rfl⟩
  rw [hPOST] at HFIN ⊢
  clear hL hU hW hw hb hu hPOST
  go_enter Try.func41, Try.ntmps41
  go_wp2_with fail
  obtain ⟨wq, hwq⟩ : ∃ wq : World, wq = w := ⟨_, rfl⟩
  have HBQ : Hid (Below w.heap.size w wq) := Lib.hid (by rw [hwq]; exact belowR _)
  rw [← hwq]
  clear hwq
  go_loopw [7, 8] (fun vv vi wr => ∃ (k : Nat) (v : Value), k ≤ l.length ∧ vi = .int .i64 k ∧ v = vv ∧ Hid (wr.ownsRow w.heap.size 82 3 v k ((toldTo us wt l k).flatMap encWgh)) ∧ Hid (Below w.heap.size w wr)) (fun _ vi _ => l.length - (intOf vi).toNat)
  case atStart => exact ⟨0, _, Nat.zero_le _, rfl, rfl, Lib.hid (World.ownsRow_nil _ _ _ _), HBQ⟩
  case round =>
    obtain ⟨k, v, hk, rfl, rfl, OWN, HBR⟩ := hrel
    have hzr := HBR.out.size
    by_cases hlt : k < l.length
    · obtain ⟨x, hx⟩ : ∃ x, l[k]? = some x := ⟨_, List.getElem?_eq_getElem hlt⟩
      obtain ⟨s, a1, hs2, a3, a4, a5⟩ := HWO.out.each x (List.mem_of_getElem? hx)
      obtain ⟨b, off, rfl, _, e0, _, _⟩ := wghAt HL.out hx
      have hts := toldTo_succ (us := us) (w := wt) hx
      have htw : toldW us wt k x = ⟨(s : Int), max 0 (sumS wt s - turnI us (2 * k) % 50), min 1000000 (sumS wt s + turnI us (2 * k + 1) % 50)⟩ := by unfold toldW; rw [a1]; rfl
      rw [htw] at hts
      rw [a1] at e0
      have htb1 := turnI_bd us (2 * k) HUU.out.2
      have htb2 := turnI_bd us (2 * k + 1) HUU.out.2
      have hsb := sumS_bd hn8 hs2 HB.out
      have hsc : ∀ V, Below w.heap.size w V → Calls Try.prog 44 #[.slice AW n capW, .int .i64 s] V fun e w' => e = .returned (iv (sumS wt s)) ∧ V = w' := fun V hb => by
        rw [← sumTo_sumS hn8 hs2]
        exact weight_any AW wt n _ capW s V hn8 (lt256 hn8 hs2) (HW.out.below hb (Nat.le_refl _)) HB.out
      have htc : ∀ V j, j ≤ 1000 → Below w.heap.size w V → Calls Try.prog 53 #[.slice AU us.length capU, .int .i64 ((j : Nat) : Int)] V fun e w' => e = .returned (iv (turnI us j)) ∧ V = w' := fun V j hj hb => turn_any AU us B capU j V HUU.out.1 (HU.out.below hb hB) HUU.out.2 hj
      have ht1 := fun V => htc V (2 * k) (by omega)
      have ht2 := fun V => htc V (2 * k + 1) (by omega)
      have hm1 : IntKind.i64.wrap (2 * (k : Int)) = ((2 * k : Nat) : Int) := by rw [IntKind.wrap_i64]; omega
      have hm2 : IntKind.i64.wrap (((2 * k : Nat) : Int) + 1) = ((2 * k + 1 : Nat) : Int) := by rw [IntKind.wrap_i64]; omega
      obtain ⟨S, hS⟩ : ∃ S, sumS wt s = S := ⟨_, rfl⟩
      rw [hS] at hts hsc hsb
      obtain ⟨T1, hT1⟩ : ∃ T, turnI us (2 * k) = T := ⟨_, rfl⟩
      rw [hT1] at hts ht1 htb1
      obtain ⟨T2, hT2⟩ : ∃ T, turnI us (2 * k + 1) = T := ⟨_, rfl⟩
      rw [hT2] at hts ht2 htb2
      obtain ⟨D2, hD2⟩ : ∃ D, 2 * k + 1 = D := ⟨_, rfl⟩
      rw [hD2] at ht2 hm2
      obtain ⟨D1, hD1⟩ : ∃ D, 2 * k = D := ⟨_, rfl⟩
      rw [hD1] at ht1 hm1 hm2
      obtain ⟨htb10, htb11⟩ := htb1
      obtain ⟨htb20, htb21⟩ := htb2
      obtain ⟨hsb0, hsb1⟩ := hsb
      have hw1 : IntKind.i64.wrap (S - T1 % 50) = S - T1 % 50 := by rw [IntKind.wrap_i64]; omega
      have hw2 : IntKind.i64.wrap (S + T2 % 50) = S + T2 % 50 := by rw [IntKind.wrap_i64]; omega
      have hr1 : T1.tmod 50 = T1 % 50 := Int.tmod_eq_emod_of_nonneg htb10
      have hr2 : T2.tmod 50 = T2 % 50 := Int.tmod_eq_emod_of_nonneg htb20
      have hpc := fun V => span_any (max 0 (S - T1 % 50)) (min 1000000 (S + T2 % 50)) V
      have HPC := Lib.hid hpc
      have HSC := Lib.hid hsc
      have HT1 := Lib.hid ht1
      have HT2 := Lib.hid ht2
      have HTS := Lib.hid hts
      have hk0 : (0 : Int) ≤ (k : Int) := by omega
      have hkz : (k : Int) < (l.length : Int) := by omega
      have HS : Hid (∀ W, Below w.heap.size w W → W.cell? ⟨b, off + k * 3, none⟩ = some (iv ((s : Nat) : Int))) := Lib.hid fun W hb => keepC hb e0
      have hk9 : k + 1 ≤ maxLen := by unfold maxLen; omega
      have hk8 : (k + 1) * 24 ≤ 140737488355328 := by omega
      clear hx a1 a3 a4 a5 e0 hts htw hsc htc ht1 ht2 hS hT1 hT2 hD1 hD2 hpc
      have e0 := HS.out _ HBR.out
      go_wp2_with (go_at_call 44; refine (HSC.out _ HBR.out).mono ?_; rintro e w2 ⟨rfl, rfl⟩)
      have HBD := Lib.hid (belowDq (belowR wr))
      have HBD1 := Lib.hid (belowT HBR.out HBD.out)
      go_region_held3 (fun W => W.cell? ⟨b, off + k * 3, none⟩ = some (iv ((s : Nat) : Int))) (first | exact HS.out _ HBD1.out | exact HS.out _ HB31.out | exact HS.out _ HB5.out | exact HS.out _ (belowA HB31.out _)) (((first | (have hz3 : w.heap.size ≤ w3.heap.size := HB31.out.size; have hownA := (own_below OWN.out HB3.out).alloc (.cells #[.int .i64 (s : Int), .int .i64 (max 0 (S - T1 % 50)), .int .i64 (min 1000000 (S + T2 % 50))] 82); refine step_append_lies _ (by rfl) _ _ _ (by rfl) w.heap.size 82 i0 _ 3 24 Try.underlying28 hi0 hz0 hz1 hz2 rfl (by omega) _ k _ (by rfl) hownA ⟨w3.heap.size, 0, none⟩ 1 1 [.int .i64 (s : Int), .int .i64 (max 0 (S - T1 % 50)), .int .i64 (min 1000000 (S + T2 % 50))] (by rfl) (by rfl) (World.news_of_block (cs := #[.int .i64 (s : Int), .int .i64 (max 0 (S - T1 % 50)), .int .i64 (min 1000000 (S + T2 % 50))]) (t := 82) (fr := (0, 0)) (heap_alloc_new w3 _)) (by simp [Value.oneCell']) (by omega) hk9 hk8 (by simp; omega) (w3.heap.size + 1) (by simp) ?_; intro gg cap9 w5 hown5 hgrow hat hlt5; have HB5 := Lib.hid (grownB hownA hgrow (Nat.le_refl _) (belowA HB31.out _)); have HO5 := Lib.hid hown5; clear hownA hown5 hgrow hat) | (go_at_call 53; (first | ((with_reducible refine (HT1.out _ HBD1.out).mono ?_); rintro e w2 ⟨rfl, rfl⟩) | ((with_reducible refine (HT2.out _ HBD1.out).mono ?_); rintro e w2 ⟨rfl, rfl⟩))) | (go_at_call 38; ((with_reducible refine (HPC.out _).mono ?_); rintro e w3 ⟨rfl, hb3⟩; have HB3 := Lib.hid (belowT HBD.out hb3); have HB31 := Lib.hid (belowT HBR.out HB3.out); clear hb3)))))
      all_goals go_wp2_with fail
      all_goals exact ⟨⟨k + 1, _, by omega, by go_num, rfl, Lib.hid (by rw [HTS.out, List.flatMap_append]; exact HO5.out), HB5⟩, by simp [intOf]; omega⟩
    · obtain rfl : k = l.length := by omega
      have hown := OWN.out
      have hown' : wr.ownsRow w.heap.size 82 3 v (toldTo us wt l l.length).length ((toldTo us wt l l.length).flatMap encWgh) := by rw [toldTo_len _ (Nat.le_refl _)]; exact hown
      obtain ⟨A9, c9, hv9, hR9, _, hc1, hc2⟩ := own_rdN encWgh_len hown'
      have HR9 := Lib.hid hR9
      have HV9 := Lib.hid hv9
      have HC1 := Lib.hid hc1
      have HC2 := Lib.hid hc2
      clear hown hown' hR9 hv9 hc1 hc2
      go_wp2_with fail
      exact HFIN.out _ _ ⟨HBR.out, A9, c9, by rw [HV9.out]; rfl, HR9.out, HC1.out, HC2.out⟩
end Go.Proofs.Ytojgdallodmanaa

namespace Go.Proofs.Ytojgdallodmanaa

theorem crossN_comm (a b : Nat) : crossN a b = crossN b a := by
  unfold crossN
  rw [Nat.and_comm]
  cases (b &&& a != 0) <;> cases (b &&& a != a) <;> cases (b &&& a != b) <;> rfl
/-- A weighing by itself is right. -/
def OneOk (h : Hul) (x : Wgh) : Prop := blockE h.ps.length h.js x.set = 0 ∧ 0 ≤ x.lo ∧ x.lo ≤ x.hi ∧ x.hi ≤ 1000000
def NoCross (x y : Wgh) : Prop := crossN x.set.toNat y.set.toNat = false
theorem rangeE_zero_iff {L H lo hi : Int} : rangeE L H lo hi = 0 ↔ L ≤ lo ∧ lo ≤ hi ∧ hi ≤ H := by
  constructor
  · intro h
    obtain ⟨a, b, c⟩ := rangeE_zero h
    exact ⟨a, b, c⟩
  · rintro ⟨a, b, c⟩
    exact rangeE_ok (by unfold inB; simp; omega) b
theorem openPre_iff {h : Hul} {l : List Wgh} : openPre h l = 0 ↔ (checkE h).2.2 = 0 ∧ l.length ≤ 6 ∧ (∀ x ∈ l, OneOk h x) ∧ l.Pairwise NoCross := by
  constructor
  · intro hp
    obtain ⟨h1, h2, h3⟩ := openPre_zero hp
    have h4 : ∀ i (hi : i < l.length), blockE h.ps.length h.js l[i].set = 0 ∧ crossB (l.take i) l[i].set.toNat = false ∧ rangeE 0 1000000 l[i].lo l[i].hi = 0 := fun i hi => by
      have := h3 i hi
      unfold weighedE at this
      rw [List.getElem?_eq_getElem hi] at this
      simp only at this
      split at this
      · rename_i hb
        split at this
        · omega
        · rename_i hc
          exact ⟨hb, by simpa using hc, this⟩
      · exact absurd this (by assumption)
    refine ⟨h1, h2, fun x hx => ?_, ?_⟩
    · obtain ⟨i, hi, rfl⟩ := List.getElem_of_mem hx
      obtain ⟨a, _, c⟩ := h4 i hi
      exact ⟨a, rangeE_zero_iff.1 c⟩
    · rw [List.pairwise_iff_getElem]
      intro i j hi hj hij
      obtain ⟨_, b, _⟩ := h4 j hj
      unfold crossB at b
      rw [List.any_eq_false] at b
      have hm : l[i] ∈ l.take j := by
        rw [List.mem_take_iff_getElem]
        exact ⟨i, by omega, rfl⟩
      have := b _ hm
      unfold NoCross
      rw [crossN_comm]
      simpa using this
  · rintro ⟨h1, h2, h3, h4⟩
    unfold openPre
    rw [if_pos h1, if_pos h2]
    unfold weighedsE
    have h5 : ∀ i, i < l.length → weighedE h.ps.length h.js l i = 0 := fun i hi => by
      unfold weighedE
      rw [List.getElem?_eq_getElem hi]
      obtain ⟨a, b⟩ := h3 l[i] (List.getElem_mem hi)
      simp only
      rw [if_pos a, if_neg]
      · exact rangeE_zero_iff.2 b
      · intro hc
        unfold crossB at hc
        rw [List.any_eq_true] at hc
        obtain ⟨y, hy, hyc⟩ := hc
        obtain ⟨j, hj, rfl⟩ := List.mem_take_iff_getElem.1 hy
        have := List.pairwise_iff_getElem.1 h4 j i (by omega) hi (by omega)
        unfold NoCross at this
        rw [crossN_comm, this] at hyc
        cases hyc
    have h6 : ∀ k, k ≤ l.length → firstBad (weighedE h.ps.length h.js l) k = none := by
      intro k
      induction k with
      | zero => intro _; rfl
      | succ k ih => intro hk; exact firstBad_succ (ih (by omega)) (h5 k (by omega))
    rw [h6 _ (Nat.le_refl _)]
theorem rangeE_ne9 (L H lo hi : Int) : rangeE L H lo hi ≠ 9 := by unfold rangeE; split <;> (try split) <;> omega
theorem freshE_ne9 (l : List ByteArray) (s : ByteArray) : freshE l s ≠ 9 := by unfold freshE; split <;> (try split) <;> omega
theorem firstBad_ne9 {f : Nat → Int} {n : Nat} (hf : ∀ i, f i ≠ 9) {p : Nat × Int} (h : firstBad f n = some p) : p.2 ≠ 9 := by
  unfold firstBad at h
  obtain ⟨i, _, hi⟩ := List.exists_of_findSome?_eq_some h
  split at hi
  · cases hi
  · injection hi with hi
    subst hi
    exact hf i
theorem blockE_ne9 (n : Nat) (js : List (Int × Int)) (s : Int) : blockE n js s ≠ 9 := by unfold blockE; split <;> (try split) <;> omega
theorem checkE_ne9 (h : Hul) : (checkE h).2.2 ≠ 9 := by
  unfold checkE
  split
  · split
    · split
      · simp
      · unfold listsE
        split
        · rename_i i e hfb
          have := firstBad_ne9 (p := (i, e)) (fun i => by
            unfold partE
            split
            · split
              · exact rangeE_ne9 _ _ _ _
              · exact freshE_ne9 _ _
            · omega) hfb
          exact this
        · split
          · rename_i i e hfb
            have := firstBad_ne9 (p := (i, e)) (fun i => by
              unfold jointE
              split
              · split
                · split
                  · omega
                  · split <;> omega
                · omega
              · omega) hfb
            exact this
          · simp
    · simp
  · simp
theorem openPre_ne9 (h : Hul) (l : List Wgh) : openPre h l ≠ 9 := by
  unfold openPre
  split
  · split
    · unfold weighedsE
      split
      · rename_i p hfb
        exact firstBad_ne9 (fun i => by
          unfold weighedE
          split
          · split
            · split
              · omega
              · exact rangeE_ne9 _ _ _ _
            · exact blockE_ne9 _ _ _
          · omega) hfb
      · omega
    · omega
  · exact checkE_ne9 h
/-- What sets says. -/
theorem sets_iff {h : Hul} {l : List Wgh} : (openE h l == 0 || openE h l == 9) = true ↔ openPre h l = 0 := by
  constructor
  · intro hs
    unfold openE at hs
    split at hs
    · assumption
    · rename_i hne
      have := openPre_ne9 h l
      simp [hne, this] at hs
  · intro hp
    unfold openE
    rw [if_pos hp]
    split <;> simp
theorem sets_no {h : Hul} {l : List Wgh} (hs : (openE h l == 0 || openE h l == 9) = false) : openE h l ≠ 0 := fun h0 => by rw [h0] at hs; cases hs

theorem toldL_mem {us : List Int} {w : Nat → Int} {l : List Wgh} {y : Wgh} (hy : y ∈ toldL us w l) : ∃ i x, l[i]? = some x ∧ y = toldW us w i x := by
  obtain ⟨i, hi⟩ := List.getElem?_of_mem hy
  have hil := (List.getElem?_eq_some_iff.1 hi).1
  rw [toldL_len] at hil
  rw [toldL_at _ _ _ hil, List.getElem?_eq_getElem hil] at hi
  simp only [Option.map_some, Option.some.injEq] at hi
  exact ⟨i, _, List.getElem?_eq_getElem hil, hi.symm⟩
theorem told_pre {h : Hul} {l : List Wgh} (hp : openPre h l = 0) {us : List Int} (hu : ∀ x ∈ us, 0 ≤ x ∧ x ≤ 4294967295) {w : Nat → Int} (hw : Box h w) : openPre h (toldL us w l) = 0 ∧ TruthP h (toldL us w l) w := by
  obtain ⟨h1, h2, h3, h4⟩ := openPre_iff.1 hp
  have hk := hulOk h1
  have hwo := wghsOk hp
  have each : ∀ (i : Nat) (x : Wgh), l[i]? = some x → ∃ s : Nat, x.set = (s : Int) ∧ s < 2 ^ h.ps.length ∧ 0 ≤ sumS w s ∧ sumS w s ≤ 800000 := fun i x hx => by
    obtain ⟨s, a1, a2, _⟩ := hwo.each x (List.mem_of_getElem? hx)
    exact ⟨s, a1, a2, sumS_bd hk.n8 a2 (box_wt hk.ps hw)⟩
  refine ⟨openPre_iff.2 ⟨h1, by rw [toldL_len]; exact h2, fun y hy => ?_, ?_⟩, hw, fun y hy => ?_⟩
  · obtain ⟨i, x, hx, rfl⟩ := toldL_mem hy
    obtain ⟨s, a1, a2, a3, a4⟩ := each i x hx
    have t1 := turnI_bd us (2 * i) hu
    have t2 := turnI_bd us (2 * i + 1) hu
    refine ⟨(h3 x (List.mem_of_getElem? hx)).1, ?_, ?_, ?_⟩
    · simp only [toldW]; omega
    · simp only [toldW, a1, Int.toNat_natCast]; omega
    · simp only [toldW]; omega
  · rw [List.pairwise_iff_getElem]
    intro i j hi hj hij
    rw [toldL_len] at hi hj
    have e : ∀ k (hk : k < l.length) (hk' : k < (toldL us w l).length), (toldL us w l)[k].set = l[k].set := fun k hk hk' => by
      have := toldL_at us w l hk
      rw [List.getElem?_eq_getElem hk, List.getElem?_eq_getElem hk'] at this
      simp only [Option.map_some, Option.some.injEq] at this
      rw [this]; rfl
    unfold NoCross
    rw [e i hi _, e j hj _]
    exact List.pairwise_iff_getElem.1 h4 i j hi hj hij
  · obtain ⟨i, x, hx, rfl⟩ := toldL_mem hy
    obtain ⟨s, a1, a2, a3, a4⟩ := each i x hx
    have t1 := turnI_bd us (2 * i) hu
    have t2 := turnI_bd us (2 * i + 1) hu
    simp only [toldW, a1, Int.toNat_natCast]
    omega
theorem openE_zero {h : Hul} {l : List Wgh} (hp : openPre h l = 0) (hf : Feas h l) : openE h l = 0 := by unfold openE; rw [if_pos hp, if_pos hf]
theorem sumS_single (w : Nat → Int) {i : Nat} (hi : i < 8) : sumS w (2 ^ i) = w i := by
  unfold sumS sumP
  exact sumTo_one 8 hi (fun j _ => by
    rw [Nat.testBit_two_pow]
    by_cases h : i = j
    · subst h; simp
    · simp [h, Ne.symm h])
theorem upD_nat {n : Int} (hn : 0 ≤ n) : 1000 * upD n 1000 ≥ n ∧ 1000 * (upD n 1000 - 1) < n := by
  unfold upD
  rw [Int.tdiv_eq_ediv_of_nonneg (by omega)]
  omega
/-- To pull a block takes what is in the range of Pull. -/
theorem pull_in {h : Hul} (hk : HulOk h) {lo hi v s : Int} (h0 : 0 ≤ lo) (h1 : lo ≤ v) (h2 : v ≤ hi) (h3 : h.slo ≤ s) (h4 : s ≤ h.shi) : 1000 * (pullV h lo hi).1 ≤ v * s ∧ v * s ≤ 1000 * (pullV h lo hi).2 := by
  have hs1 := hk.s1
  have hs2 := hk.s2
  have e1 : lo * h.slo ≤ v * s := Int.mul_le_mul h1 h3 (by omega) (by omega)
  have e2 : v * s ≤ hi * h.shi := Int.mul_le_mul h2 h4 (by omega) (by omega)
  have e3 : 0 ≤ lo * h.slo := Int.mul_nonneg h0 (by omega)
  have e4 : 0 ≤ hi * h.shi := Int.mul_nonneg (by omega) (by omega)
  have := (upD_nat e4).1
  unfold pullV
  simp only
  rw [Int.tdiv_eq_ediv_of_nonneg e3]
  omega
theorem pullV_bd {h : Hul} (hk : HulOk h) {lo hi : Int} (h0 : 0 ≤ lo) (h1 : 0 ≤ hi) (h2 : hi ≤ 800000) : 0 ≤ (pullV h lo hi).1 ∧ (pullV h lo hi).2 ≤ 2000000 := by
  have hs1 := hk.s1
  have hs2 := hk.s2
  have hs3 := hk.s3
  have e3 : 0 ≤ lo * h.slo := Int.mul_nonneg h0 (by omega)
  have e4 : 0 ≤ hi * h.shi := Int.mul_nonneg (by omega) (by omega)
  have e5 : hi * h.shi ≤ 800000 * 2000 := Int.mul_le_mul h2 hs3 (by omega) (by omega)
  have := (upD_nat e4).2
  unfold pullV
  simp only
  rw [Int.tdiv_eq_ediv_of_nonneg e3]
  omega
theorem blockE_ok {n : Nat} {js : List (Int × Int)} {s : Nat} (h0 : 0 < s) (h1 : s < 2 ^ n) (h2 : hangsB js s = true) : blockE n js (s : Int) = 0 := by
  unfold blockE
  rw [if_pos, Int.toNat_natCast, h2]
  · rfl
  · have : ((2 : Int) ^ n) = ((2 ^ n : Nat) : Int) := by rw [Int.natCast_pow]; rfl
    unfold inB
    rw [this]
    simp
    omega
end Go.Proofs.Ytojgdallodmanaa

namespace Go.Proofs.Ytojgdallodmanaa
open Go.RowKit

set_option maxRecDepth 100000 in
set_option maxHeartbeats 8000000 in
theorem asked_any (h : Hul) (A J : Option Addr) (B cap capJ : Nat) (AL : Option Addr) (l : List Wgh) (capL : Nat) (set : Int) (w : World)
    (hH : HulRd w B h A cap J capJ) (hL : RdN 3 encWgh w B AL l) (hlm : l.length ≤ maxLen) (hB : B ≤ w.heap.size) :
    Calls Try.prog 70 #[hv h A cap J capJ, .slice AL l.length capL, .int .i64 set] w fun e w' => e = .returned (iv (enterE h l set)) ∧ Below w.heap.size w w' := by
  obtain ⟨W1, hW1, hb0, hzz, p0, p1, p2, p3, p4⟩ := hulBox w h A cap J capJ
  have HKB : Hid (∀ W, Below W1.heap.size W1 W → W.cell? ⟨w.heap.size, 0, none⟩ = some (.slice A h.ps.length cap) ∧ W.cell? ⟨w.heap.size, 1, none⟩ = some (.slice J h.js.length capJ) ∧ W.cell? ⟨w.heap.size, 2, none⟩ = some (.int .i64 h.slo) ∧ W.cell? ⟨w.heap.size, 3, none⟩ = some (.int .i64 h.shi) ∧ W.cell? ⟨w.heap.size, 4, none⟩ = some (.int .i64 h.winch)) := Lib.hid fun W hb => ⟨keepC hb p0, keepC hb p1, keepC hb p2, keepC hb p3, keepC hb p4⟩
  have hwc := weighings_any h A J B cap capJ AL l capL W1 (hH.below hb0 hB) (hL.below hb0 hB) hlm (Nat.le_trans hB hb0.size)
  have hbz := Nat.le_trans hB hb0.size
  have HH := Lib.hid (hH.below hb0 hB)
  have HB0 := Lib.hid hb0
  obtain ⟨E, hE⟩ : ∃ E, openE h l = E := ⟨_, rfl⟩
  rw [hE] at hwc
  have HWC := Lib.hid hwc
  have hen : enterE h l set = if E = 0 then blockE h.ps.length h.js set else E := by unfold enterE; rw [hE]
  by_cases h0 : E = 0
  · subst h0
    rw [if_pos rfl] at hen
    have hp : openPre h l = 0 := by
      unfold openE at hE
      split at hE
      · assumption
      · exact hE
    have hk := hulOk (openPre_zero hp).1
    have HK := Lib.hid hk
    rw [hen]
    obtain ⟨F, hF⟩ : ∃ F, blockE h.ps.length h.js set = F := ⟨_, rfl⟩
    rw [hF]
    have HF := Lib.hid hF
    clear hwc hb0 hH hL hE hzz hen hp hk hF
    go_enter Try.func70, Try.ntmps70
    go_wp2_with fail
    refine HWC.out.mono ?_
    rintro e w2 ⟨rfl, hb2⟩
    have HB2 := Lib.hid hb2
    clear hb2 hW1 p0 p1 p2 p3 p4
    obtain ⟨p0, p1, p2, p3, p4⟩ := HKB.out _ HB2.out
    have hbc := refBlock_any h A J B cap capJ set w2 (HH.out.below HB2.out hbz) HK.out.n1 HK.out.n8 HK.out.js HK.out.j12 (Nat.le_trans hbz HB2.out.size)
    rw [HF.out] at hbc
    have HBC := Lib.hid hbc
    clear hbc
    go_wp2_with fail
    refine HBC.out.mono ?_
    rintro e w3 ⟨rfl, hb3⟩
    have HB3 := Lib.hid (belowT HB2.out hb3)
    clear hb3
    go_wp2_with fail
    go_ret
    exact ⟨rfl, belowT HB0.out HB3.out⟩
  · rw [if_neg h0] at hen
    rw [hen]
    have hne : (E == 0) = false := by simpa using h0
    clear hwc hb0 hH hL hE hzz hen h0
    go_enter Try.func70, Try.ntmps70
    go_wp2_with fail
    refine HWC.out.mono ?_
    rintro e w2 ⟨rfl, hb2⟩
    have HB2 := Lib.hid hb2
    clear hb2 hW1 p0 p1 p2 p3 p4
    go_wp2_with fail
    go_ret
    exact ⟨rfl, belowT HB0.out HB2.out⟩

theorem greatest_any (h : Hul) (A J : Option Addr) (B cap capJ : Nat) (AL : Option Addr) (l : List Wgh) (capL s : Nat) (w : World)
    (hH : HulRd w B h A cap J capJ) (hk : HulOk h) (hL : RdN 3 encWgh w B AL l) (hw : WghsOk h.ps.length l) (hs : s < 2 ^ h.ps.length) (hB : B ≤ w.heap.size) :
    Calls Try.prog 72 #[hv h A cap J capJ, .slice AL l.length capL, .int .i64 s] w fun e w' => e = .returned (iv (mostRef h l s)) ∧ Below w.heap.size w w' := by
  obtain ⟨W1, hW1, hb0, hzz, p0, p1, p2, p3, p4⟩ := hulBox w h A cap J capJ
  have hn8 := hk.n8
  have hmc := most66_any h A J B cap capJ AL l capL s W1 (hH.below hb0 hB) hk (hL.below hb0 hB) hw (lt256 hn8 hs) (Nat.le_trans hB hb0.size)
  have hbw := box_wt hk.ps (mostW_box (l := l) hk.ps s)
  have HB0 := Lib.hid hb0
  have hsc : ∀ (V : World) g c base, V.ownsRow base 3 1 (.slice (some ⟨g, 0, none⟩) h.ps.length c) h.ps.length ((rowW (mostW h l s) h.ps.length).map iv) → Calls Try.prog 78 #[.slice (some ⟨g, 0, none⟩) h.ps.length c, .int .i64 s] V fun e w' => e = .returned (iv (mostRef h l s)) ∧ w' = V := fun V g c base ho => sumS_any _ _ h.ps.length _ c s V hn8 hs (row_rd ho) hbw
  have HMC := Lib.hid hmc
  have HSC := Lib.hid hsc
  clear hmc hbw hsc hb0 hH hL hw hk hzz
  obtain ⟨R, hR⟩ : ∃ R, mostRef h l s = R := ⟨_, rfl⟩
  rw [hR] at HSC ⊢
  clear hR
  go_enter Try.func72, Try.ntmps72
  go_wp2_with fail
  refine HMC.out.mono ?_
  rintro e w2 ⟨hb2, g2, c2, rfl, hown⟩
  have HB2 := Lib.hid hb2
  have HO := Lib.hid hown
  clear hb2 hown hW1 p0 p1 p2 p3 p4
  go_wp2_with fail
  refine (HSC.out _ _ _ _ HO.out).mono ?_
  rintro e w3 ⟨rfl, rfl⟩
  go_wp2_with fail
  go_ret
  exact ⟨rfl, belowT HB0.out HB2.out⟩

set_option maxRecDepth 100000 in
set_option maxHeartbeats 2000000 in
theorem refUpDiv_any {w : World} (n b : Int) (h0 : 0 ≤ n) (h1 : n ≤ 4611686018427387904) (b0 : 0 < b) (b1 : b ≤ 1000000000) :
    Calls Try.prog 71 #[.int .i64 n, .int .i64 b] w fun e w' => e = .returned (iv ((n + b - 1).tdiv b)) ∧ Below w.heap.size w w' := by
  have hq : (n + b - 1).tdiv b ≤ n + b - 1 := by
    rw [Int.tdiv_eq_ediv_of_nonneg (by omega)]
    exact Int.ediv_le_self _ (by omega)
  have hq0 : 0 ≤ (n + b - 1).tdiv b := Int.tdiv_nonneg (by omega) (by omega)
  have hwr : ∀ x : Int, 0 ≤ x → x < 9223372036854775808 → wrap64 x = x := fun x h h2 => by unfold wrap64; omega
  have hw0 := hwr (n + b) (by omega) (by omega)
  have hw1 := hwr (n + b - 1) (by omega) (by omega)
  have hw2 := hwr ((n + b - 1).tdiv b) hq0 (by omega)
  have hb0 : (b == 0) = false := by simp; omega
  go_enter Try.func71, Try.ntmps71
  go_wp2
  go_ret
  exact ⟨rfl, belowR _⟩

def RefPullPost (h : Hul) (l : List Wgh) (set : Int) (w : World) (e : Ending) (w' : World) : Prop :=
  Below w.heap.size w w' ∧ ((enterE h l set ≠ 0 ∧ e = .returned (.tuple #[.agg #[iv 0, iv 0], iv (enterE h l set)])) ∨ (enterE h l set = 0 ∧ openPre h l = 0 ∧ Feas h l ∧ blockE h.ps.length h.js set = 0 ∧ e = .returned (.tuple #[.agg #[iv (pullV h (leastRef h l set.toNat) (mostRef h l set.toNat)).1, iv (pullV h (leastRef h l set.toNat) (mostRef h l set.toNat)).2], iv 0])))
theorem openE_zero_iff {h : Hul} {l : List Wgh} (h0 : openE h l = 0) : openPre h l = 0 ∧ Feas h l := by
  unfold openE at h0
  split at h0
  · rename_i hp
    split at h0
    · exact ⟨hp, by assumption⟩
    · omega
  · exact absurd h0 (by assumption)
theorem enterE_zero {h : Hul} {l : List Wgh} {set : Int} (h0 : enterE h l set = 0) : openPre h l = 0 ∧ Feas h l ∧ blockE h.ps.length h.js set = 0 := by
  unfold enterE at h0
  split at h0
  · rename_i h1
    obtain ⟨a, b⟩ := openE_zero_iff h1
    exact ⟨a, b, h0⟩
  · exact absurd h0 (by assumption)
theorem mostRef_bd {h : Hul} {l : List Wgh} (hk : HulOk h) {s : Nat} (hs : s < 2 ^ h.ps.length) : 0 ≤ mostRef h l s ∧ mostRef h l s ≤ 800000 := sumS_bd hk.n8 hs (box_wt hk.ps (mostW_box hk.ps s))
theorem leastRef_bd {h : Hul} {l : List Wgh} (hk : HulOk h) {s : Nat} (hs : s < 2 ^ h.ps.length) : 0 ≤ leastRef h l s ∧ leastRef h l s ≤ 800000 := sumS_bd hk.n8 hs (box_wt hk.ps (filledTo_box hk.ps _ _))

set_option maxRecDepth 100000 in
set_option maxHeartbeats 8000000 in
theorem refPull_any (h : Hul) (A J : Option Addr) (B cap capJ : Nat) (AL : Option Addr) (l : List Wgh) (capL : Nat) (set : Int) (w : World)
    (hH : HulRd w B h A cap J capJ) (hL : RdN 3 encWgh w B AL l) (hlm : l.length ≤ maxLen) (hB : B ≤ w.heap.size) :
    Calls Try.prog 23 #[hv h A cap J capJ, .slice AL l.length capL, .int .i64 set] w (RefPullPost h l set w) := by
  obtain ⟨W1, hW1, hb1, hzz, p0, p1, p2, p3, p4⟩ := hulBox w h A cap J capJ
  obtain ⟨W2, hW2⟩ : ∃ W2, W1.alloc (.cells #[iv 0, iv 0] 25) = W2 := ⟨_, rfl⟩
  have hb2 : Below W1.heap.size W1 W2 := by rw [← hW2]; exact belowA (belowR _) _
  have r0 : W2.cell? ⟨W1.heap.size, 0, none⟩ = some (iv 0) := by rw [← hW2]; clear hW2; go_simp
  have r1 : W2.cell? ⟨W1.heap.size, 1, none⟩ = some (iv 0) := by rw [← hW2]; clear hW2; go_simp
  have rf : ∀ o, W2.frozen? ⟨W1.heap.size, o, none⟩ = false := fun o => by rw [← hW2]; clear hW2; go_simp
  have hb0 := belowT hb1 hb2
  have hl1 : W1.heap.size < W2.heap.size := by rw [← hW2]; simp
  have hw1 : w.heap.size ≤ W1.heap.size := hb1.size
  have HKB : Hid (∀ W, Below W2.heap.size W2 W → W.cell? ⟨w.heap.size, 0, none⟩ = some (.slice A h.ps.length cap) ∧ W.cell? ⟨w.heap.size, 1, none⟩ = some (.slice J h.js.length capJ) ∧ W.cell? ⟨w.heap.size, 2, none⟩ = some (.int .i64 h.slo) ∧ W.cell? ⟨w.heap.size, 3, none⟩ = some (.int .i64 h.shi) ∧ W.cell? ⟨w.heap.size, 4, none⟩ = some (.int .i64 h.winch)) := Lib.hid fun W hb => ⟨keepC hb (keepC hb2 p0), keepC hb (keepC hb2 p1), keepC hb (keepC hb2 p2), keepC hb (keepC hb2 p3), keepC hb (keepC hb2 p4)⟩
  have HKR : Hid (∀ W, Below W2.heap.size W2 W → W.cell? ⟨W1.heap.size, 0, none⟩ = some (iv 0) ∧ W.cell? ⟨W1.heap.size, 1, none⟩ = some (iv 0) ∧ W.frozen? ⟨W1.heap.size, 0, none⟩ = false ∧ W.frozen? ⟨W1.heap.size, 1, none⟩ = false) := Lib.hid fun W hb => ⟨keepC hb r0, keepC hb r1, (World.frozen?_of_block (w := W2) (a := ⟨W1.heap.size, 0, none⟩) (hb.block _ hl1)).trans (rf 0), (World.frozen?_of_block (w := W2) (a := ⟨W1.heap.size, 1, none⟩) (hb.block _ hl1)).trans (rf 1)⟩
  have hBz : B ≤ W2.heap.size := Nat.le_trans hB hb0.size
  have HH := Lib.hid (hH.below hb0 hB)
  have HL := Lib.hid (hL.below hb0 hB)
  have HB0 := Lib.hid hb0
  have hac := asked_any h A J B cap capJ AL l capL set W2 HH.out HL.out hlm hBz
  have hlt0 : w.heap.size < W2.heap.size := by omega
  have hlt1 : w.heap.size ≠ W1.heap.size := by have := lt_of_cell p0; omega
  by_cases h0 : enterE h l set = 0
  case neg =>
    have hen : RefPullPost h l set w = fun e w' => Below w.heap.size w w' ∧ e = .returned (.tuple #[.agg #[iv 0, iv 0], iv (enterE h l set)]) := by
      funext e w'
      unfold RefPullPost
      simp [h0]
    rw [hen]
    obtain ⟨E, hE⟩ : ∃ E, enterE h l set = E := ⟨_, rfl⟩
    rw [hE] at hac h0 ⊢
    have HAC := Lib.hid hac
    have hne : (E != 0) = true := by simpa using h0
    clear hac h0 hen hE hb0 hb1 hb2 hH hL hzz rf
    obtain ⟨p0, p1, p2, p3, p4⟩ := HKB.out _ (belowR W2)
    go_enter Try.func23, Try.ntmps23
    go_wp2_with fail
    refine HAC.out.mono ?_
    rintro e w3 ⟨rfl, hb3⟩
    have HB3 := Lib.hid hb3
    clear hb3 hW1 hW2 p0 p1 p2 p3 p4 r0 r1
    obtain ⟨r0, r1, f0, f1⟩ := HKR.out _ HB3.out
    go_wp2_with fail
    obtain ⟨wx, hwx⟩ : ∃ wx, (w3.setCell ⟨W1.heap.size, 0, none⟩ (.int .i64 0)).setCell ⟨W1.heap.size, 1, none⟩ (.int .i64 0) = wx := ⟨_, rfl⟩
    have y0 : wx.cell? ⟨W1.heap.size, 0, none⟩ = some (.int .i64 0) := by rw [← hwx]; clear hwx; go_simp
    have y1 : wx.cell? ⟨W1.heap.size, 1, none⟩ = some (.int .i64 0) := by rw [← hwx]; clear hwx; go_simp
    have hbx : Below w.heap.size w wx := by rw [← hwx]; exact belowS (belowS (belowT HB0.out HB3.out) hw1 _) hw1 _
    rw [hwx]
    refine bodyPost_ret (v := .tuple #[.agg #[iv 0, iv 0], iv E]) (by simp [results, Try.results23, go_sem, y0, y1]) rfl ?_
    exact ⟨hbx, rfl⟩
  case pos =>
    obtain ⟨hp, hf, hbe⟩ := enterE_zero h0
    have hk := hulOk (openPre_zero hp).1
    obtain ⟨s, _, _, hs2, rfl, _⟩ := blockE_zero hk.n8 hbe
    have hwo := wghsOk hp
    rw [h0] at hac
    have hlc : ∀ V, Below W2.heap.size W2 V → Calls Try.prog 67 #[hv h A cap J capJ, .slice AL l.length capL, .int .i64 s] V fun e w' => e = .returned (iv (leastRef h l s)) ∧ Below V.heap.size V w' := fun V hb => least67_any h A J B cap capJ AL l capL s V (HH.out.below hb hBz) hk (HL.out.below hb hBz) hwo hs2 (Nat.le_trans hBz hb.size)
    have hgc : ∀ V, Below W2.heap.size W2 V → Calls Try.prog 72 #[hv h A cap J capJ, .slice AL l.length capL, .int .i64 s] V fun e w' => e = .returned (iv (mostRef h l s)) ∧ Below V.heap.size V w' := fun V hb => greatest_any h A J B cap capJ AL l capL s V (HH.out.below hb hBz) hk (HL.out.below hb hBz) hwo hs2 (Nat.le_trans hBz hb.size)
    have bl := leastRef_bd (l := l) hk hs2
    have bm := mostRef_bd (l := l) hk hs2
    have HFIN : Hid (∀ wx, Below w.heap.size w wx → RefPullPost h l (s : Int) w (.returned (.tuple #[.agg #[iv ((leastRef h l s * h.slo).tdiv 1000), iv ((mostRef h l s * h.shi + 1000 - 1).tdiv 1000)], iv 0])) wx) := Lib.hid fun wx hb => ⟨hb, .inr ⟨h0, hp, hf, hbe, by rw [Int.toNat_natCast]; rfl⟩⟩
    obtain ⟨POST, hPOST⟩ : ∃ P, RefPullPost h l (s : Int) w = P := ⟨_, rfl⟩
    rw [hPOST] at HFIN ⊢
    obtain ⟨lv, hlv⟩ : ∃ v, leastRef h l s = v := ⟨_, rfl⟩
    obtain ⟨mv, hmv⟩ : ∃ v, mostRef h l s = v := ⟨_, rfl⟩
    rw [hlv] at hlc bl HFIN
    rw [hmv] at hgc bm HFIN
    have hx1 : 0 ≤ lv * h.slo := Int.mul_nonneg bl.1 (by have := hk.s1; omega)
    have hx2 : lv * h.slo ≤ 800000 * 2000 := Int.mul_le_mul bl.2 (by have := hk.s2; have := hk.s3; omega) (by have := hk.s1; omega) (by omega)
    have hy1 : 0 ≤ mv * h.shi := Int.mul_nonneg bm.1 (by have := hk.s1; have := hk.s2; omega)
    have hy2 : mv * h.shi ≤ 800000 * 2000 := Int.mul_le_mul bm.2 hk.s3 (by have := hk.s1; have := hk.s2; omega) (by omega)
    have hw1' : IntKind.i64.wrap (lv * h.slo) = lv * h.slo := wrap62 _ hx1 (by omega)
    have hw2' : IntKind.i64.wrap (mv * h.shi) = mv * h.shi := wrap62 _ hy1 (by omega)
    have hq0 : 0 ≤ (lv * h.slo).tdiv 1000 := Int.tdiv_nonneg hx1 (by decide)
    have hq1 : (lv * h.slo).tdiv 1000 ≤ lv * h.slo := by rw [Int.tdiv_eq_ediv_of_nonneg hx1]; exact Int.ediv_le_self _ hx1
    have hw3 : IntKind.i64.wrap ((lv * h.slo).tdiv 1000) = (lv * h.slo).tdiv 1000 := wrap62 _ hq0 (by omega)
    have hup := fun W => refUpDiv_any (w := W) (mv * h.shi) 1000 hy1 (by omega) (by decide) (by decide)
    have HUP := Lib.hid hup
    have HLC := Lib.hid hlc
    have HGC := Lib.hid hgc
    have HAC := Lib.hid hac
    clear hup hlc hgc hac hlv hmv hPOST hp hf hbe hk hwo h0 bl bm hb0 hb1 hb2 hH hL hzz rf hs2
    obtain ⟨p0, p1, p2, p3, p4⟩ := HKB.out _ (belowR W2)
    go_enter Try.func23, Try.ntmps23
    go_wp2_with fail
    refine HAC.out.mono ?_
    rintro e w3 ⟨rfl, hb3⟩
    have HB3 := Lib.hid hb3
    clear hb3 hW1 hW2 p0 p1 p2 p3 p4 r0 r1
    obtain ⟨p0, p1, p2, p3, p4⟩ := HKB.out _ HB3.out
    go_wp2_with fail
    have HBD := Lib.hid (belowT HB3.out (belowDq (belowR w3)))
    clear p0 p1 p2 p3 p4
    have hne01 : W1.heap.size ≠ w.heap.size := Ne.symm hlt1
    go_region_held3 (fun W => W.cell? ⟨w.heap.size, 0, none⟩ = some (.slice A h.ps.length cap) ∧ W.cell? ⟨w.heap.size, 1, none⟩ = some (.slice J h.js.length capJ) ∧ W.cell? ⟨w.heap.size, 2, none⟩ = some (.int .i64 h.slo) ∧ W.cell? ⟨w.heap.size, 3, none⟩ = some (.int .i64 h.shi) ∧ W.cell? ⟨w.heap.size, 4, none⟩ = some (.int .i64 h.winch)) (first | exact HKB.out _ HBD.out | exact HKB.out _ HB4.out | exact HKB.out _ HB5.out | exact HKB.out _ HB6.out | exact ⟨keepSet (keepSet (HKB.out _ HB6.out).1 hlt1) hlt1, keepSet (keepSet (HKB.out _ HB6.out).2.1 hlt1) hlt1, keepSet (keepSet (HKB.out _ HB6.out).2.2.1 hlt1) hlt1, keepSet (keepSet (HKB.out _ HB6.out).2.2.2.1 hlt1) hlt1, keepSet (keepSet (HKB.out _ HB6.out).2.2.2.2 hlt1) hlt1⟩) (((first | (go_at_call 67; ((with_reducible refine (HLC.out _ HBD.out).mono ?_); rintro e w4 ⟨rfl, hb4⟩; have HB4 := Lib.hid (belowT HBD.out hb4); clear hb4)) | (go_at_call 72; ((with_reducible refine (HGC.out _ HB4.out).mono ?_); rintro e w5 ⟨rfl, hb5⟩; have HB5 := Lib.hid (belowT HB4.out hb5); clear hb5)) | (go_at_call 71; ((with_reducible refine (HUP.out _).mono ?_); rintro e w6 ⟨rfl, hb6⟩; have HB6 := Lib.hid (belowT HB5.out hb6); obtain ⟨q0, q1, f0, f1⟩ := HKR.out _ HB6.out; clear hb6)))))
    rename_i hHeld
    clear hHeld
    obtain ⟨wx, hwx⟩ : ∃ wx, (w6.setCell ⟨W1.heap.size, 0, none⟩ (.int .i64 ((lv * h.slo).tdiv 1000))).setCell ⟨W1.heap.size, 1, none⟩ (.int .i64 ((mv * h.shi + 1000 - 1).tdiv 1000)) = wx := ⟨_, rfl⟩
    have y0 : wx.cell? ⟨W1.heap.size, 0, none⟩ = some (.int .i64 ((lv * h.slo).tdiv 1000)) := by rw [← hwx]; clear hwx; go_simp
    have y1 : wx.cell? ⟨W1.heap.size, 1, none⟩ = some (.int .i64 ((mv * h.shi + 1000 - 1).tdiv 1000)) := by rw [← hwx]; clear hwx; go_simp
    have hbx : Below w.heap.size w wx := by rw [← hwx]; exact belowS (belowS (belowT HB0.out HB6.out) hw1 _) hw1 _
    rw [hwx]
    clear q0 q1 f0 f1 hwx
    go_wp2_with fail
    refine bodyPost_ret (v := .tuple #[.agg #[iv ((lv * h.slo).tdiv 1000), iv ((mv * h.shi + 1000 - 1).tdiv 1000)], iv 0]) (by simp [results, Try.results23, go_sem, y0, y1]) rfl ?_
    exact HFIN.out wx hbx
end Go.Proofs.Ytojgdallodmanaa

namespace Go.Proofs.Ytojgdallodmanaa
open Go.RowKit

def spansRef (h : Hul) (l : List Wgh) (k : Nat) : List (Int × Int) := (List.range k).map fun i => (leastRef h l (2 ^ i), mostRef h l (2 ^ i))
theorem spansRef_len (h : Hul) (l : List Wgh) (k : Nat) : (spansRef h l k).length = k := by simp [spansRef]
theorem spansRef_succ (h : Hul) (l : List Wgh) (k : Nat) : spansRef h l (k + 1) = spansRef h l k ++ [(leastRef h l (2 ^ k), mostRef h l (2 ^ k))] := by simp [spansRef, List.range_succ]
def RefWeightsPost (h : Hul) (l : List Wgh) (w : World) (e : Ending) (w' : World) : Prop :=
  Below w.heap.size w w' ∧ ((openE h l ≠ 0 ∧ e = .returned (.tuple #[.slice none 0 0, iv (openE h l)])) ∨ (openE h l = 0 ∧ openPre h l = 0 ∧ Feas h l ∧ ∃ A cap, e = .returned (.tuple #[.slice A h.ps.length cap, iv 0]) ∧ w'.ownsRow w.heap.size 25 2 (.slice A h.ps.length cap) h.ps.length ((spansRef h l h.ps.length).flatMap encSp)))

set_option maxRecDepth 100000 in
set_option maxHeartbeats 16000000 in
theorem refWeights_any (h : Hul) (A J : Option Addr) (B cap capJ : Nat) (AL : Option Addr) (l : List Wgh) (capL : Nat) (w : World) (hH : HulRd w B h A cap J capJ) (hL : RdN 3 encWgh w B AL l) (hlm : l.length ≤ maxLen) (hB : B ≤ w.heap.size) :
    Calls Try.prog 20 #[hv h A cap J capJ, .slice AL l.length capL] w (RefWeightsPost h l w) := by
  obtain ⟨i0, hi0, hz0, hzz1, hzz2⟩ := info_parts Try.info25
  obtain ⟨W1, hW1, hb0, hzz, p0, p1, p2, p3, p4⟩ := hulBox w h A cap J capJ
  have HKB : Hid (∀ W, Below W1.heap.size W1 W → W.cell? ⟨w.heap.size, 0, none⟩ = some (.slice A h.ps.length cap) ∧ W.cell? ⟨w.heap.size, 1, none⟩ = some (.slice J h.js.length capJ) ∧ W.cell? ⟨w.heap.size, 2, none⟩ = some (.int .i64 h.slo) ∧ W.cell? ⟨w.heap.size, 3, none⟩ = some (.int .i64 h.shi) ∧ W.cell? ⟨w.heap.size, 4, none⟩ = some (.int .i64 h.winch)) := Lib.hid fun W hb => ⟨keepC hb p0, keepC hb p1, keepC hb p2, keepC hb p3, keepC hb p4⟩
  have hwc := weighings_any h A J B cap capJ AL l capL W1 (hH.below hb0 hB) (hL.below hb0 hB) hlm (Nat.le_trans hB hb0.size)
  have hBz := Nat.le_trans hB hb0.size
  have hzW := hb0.size
  have HH := Lib.hid (hH.below hb0 hB)
  have HL := Lib.hid (hL.below hb0 hB)
  have HB0 := Lib.hid hb0
  have hpm := hH.pm
  have hpl := hH.pl
  unfold maxLen at hpm
  by_cases h0 : openE h l = 0
  case neg =>
    have hen : RefWeightsPost h l w = fun e w' => Below w.heap.size w w' ∧ e = .returned (.tuple #[.slice none 0 0, iv (openE h l)]) := by
      funext e w'
      unfold RefWeightsPost
      simp [h0]
    rw [hen]
    obtain ⟨E, hE⟩ : ∃ E, openE h l = E := ⟨_, rfl⟩
    rw [hE] at hwc h0 ⊢
    have HWC := Lib.hid hwc
    have hne : (E != 0) = true := by simpa using h0
    clear hwc h0 hen hE hb0 hH hL hzz
    go_enter Try.func20, Try.ntmps20
    go_wp2_with fail
    refine HWC.out.mono ?_
    rintro e w3 ⟨rfl, hb3⟩
    have HB3 := Lib.hid hb3
    clear hb3 hW1 p0 p1 p2 p3 p4
    go_wp2_with fail
    go_ret2
    exact ⟨belowT HB0.out HB3.out, rfl⟩
  obtain ⟨hp, hf⟩ := openE_zero_iff h0
  have hk := hulOk (openPre_zero hp).1
  have hn8 := hk.n8
  have hn1 := hk.n1
  have hwo := wghsOk hp
  rw [h0] at hwc
  have HWC := Lib.hid hwc
  have HK := Lib.hid hk
  have HWO := Lib.hid hwo
  have HFIN : Hid (∀ e w', (Below w.heap.size w w' ∧ ∃ A cap, e = .returned (.tuple #[.slice A h.ps.length cap, iv 0]) ∧ w'.ownsRow W1.heap.size 25 2 (.slice A h.ps.length cap) h.ps.length ((spansRef h l h.ps.length).flatMap encSp)) → RefWeightsPost h l w e w') := Lib.hid fun e w' ⟨a, A, cap, b, c⟩ => ⟨a, .inr ⟨h0, hp, hf, A, cap, b, own_base c hzW⟩⟩
  obtain ⟨POST, hPOST⟩ : ∃ P, RefWeightsPost h l w = P := ⟨_, rfl⟩
  rw [hPOST] at HFIN ⊢
  clear hwc hk hwo h0 hp hf hb0 hH hL hzz hPOST
  go_enter Try.func20, Try.ntmps20
  go_wp2_with fail
  refine HWC.out.mono ?_
  rintro e w3 ⟨rfl, hb3⟩
  have HB3 := Lib.hid hb3
  clear hb3 hW1 p0 p1 p2 p3 p4
  go_wp2_with fail
  go_loopw [7, 8] (fun vv vi wr => ∃ (k : Nat) (vo : Value), k ≤ h.ps.length ∧ vi = .int .i64 k ∧ vo = vv ∧ Hid (wr.ownsRow W1.heap.size 25 2 vo k ((spansRef h l k).flatMap encSp)) ∧ Hid (Below W1.heap.size W1 wr)) (fun _ vi _ => h.ps.length - (intOf vi).toNat)
  case atStart => exact ⟨0, _, Nat.zero_le _, rfl, rfl, Lib.hid (World.ownsRow_nil _ _ _ _), HB3⟩
  case round =>
    obtain ⟨k, vo, hkk, rfl, rfl, HO, HBR⟩ := hrel
    obtain ⟨p0, p1, p2, p3, p4⟩ := HKB.out _ HBR.out
    have hzr := HBR.out.size
    by_cases hlt : k < h.ps.length
    · have hp2 : 2 ^ k < 2 ^ h.ps.length := Nat.pow_lt_pow_right (by decide) hlt
      have hp3 : 2 ^ k < 256 := lt256 hn8 hp2
      have hbi := fun W => bit_any k W (by omega)
      have hmc : ∀ V, Below W1.heap.size W1 V → Calls Try.prog 66 #[hv h A cap J capJ, .slice AL l.length capL, .int .i64 ((2 ^ k : Nat) : Int)] V (MostRow (mostW h l (2 ^ k)) (agreesB l (mostW h l (2 ^ k))) h.ps.length V) := fun V hb => most66_any h A J B cap capJ AL l capL (2 ^ k) V (HH.out.below hb hBz) HK.out (HL.out.below hb hBz) HWO.out hp3 (Nat.le_trans hBz hb.size)
      have hlc : ∀ V, Below W1.heap.size W1 V → Calls Try.prog 67 #[hv h A cap J capJ, .slice AL l.length capL, .int .i64 ((2 ^ k : Nat) : Int)] V fun e w' => e = .returned (iv (leastRef h l (2 ^ k))) ∧ Below V.heap.size V w' := fun V hb => least67_any h A J B cap capJ AL l capL (2 ^ k) V (HH.out.below hb hBz) HK.out (HL.out.below hb hBz) HWO.out hp2 (Nat.le_trans hBz hb.size)
      have hsn := spansRef_succ h l k
      have hmr : mostRef h l (2 ^ k) = mostW h l (2 ^ k) k := sumS_single _ (by omega)
      rw [hmr] at hsn
      obtain ⟨AG, hAG⟩ : ∃ b, agreesB l (mostW h l (2 ^ k)) = b := ⟨_, rfl⟩
      rw [hAG] at hmc
      obtain ⟨MW, hMW⟩ : ∃ b, mostW h l (2 ^ k) = b := ⟨_, rfl⟩
      rw [hMW] at hmc hsn
      obtain ⟨x, hx⟩ : ∃ x, leastRef h l (2 ^ k) = x := ⟨_, rfl⟩
      rw [hx] at hlc hsn
      obtain ⟨P, hP⟩ : ∃ P, (2 ^ k : Nat) = P := ⟨_, rfl⟩
      rw [hP] at hbi hmc hlc
      obtain ⟨y, hy⟩ : ∃ y, MW k = y := ⟨_, rfl⟩
      rw [hy] at hsn
      have HBI := Lib.hid hbi
      have HMC := Lib.hid hmc
      have HLC := Lib.hid hlc
      have HSN := Lib.hid hsn
      have HY := Lib.hid hy
      have hk9 : k + 1 ≤ maxLen := by unfold maxLen; omega
      have hk16 : (k + 1) * 16 ≤ 140737488355328 := by omega
      have hk0 : (0 : Int) ≤ (k : Int) := by omega
      have hkz : (k : Int) < (h.ps.length : Int) := by omega
      clear hsn hx hy hP hmc hlc hbi hmr hAG hMW hp2 hp3
      go_wp2_with fail
      clear p0 p1 p2 p3 p4
      have HBD0 := Lib.hid (belowDq (belowR wr))
      have HBD := Lib.hid (belowT HBR.out HBD0.out)
      go_region_held3 (fun W => W.cell? ⟨w.heap.size, 0, none⟩ = some (.slice A h.ps.length cap) ∧ W.cell? ⟨w.heap.size, 1, none⟩ = some (.slice J h.js.length capJ) ∧ W.cell? ⟨w.heap.size, 2, none⟩ = some (.int .i64 h.slo) ∧ W.cell? ⟨w.heap.size, 3, none⟩ = some (.int .i64 h.shi) ∧ W.cell? ⟨w.heap.size, 4, none⟩ = some (.int .i64 h.winch)) (first | exact HKB.out _ HBD.out | exact HKB.out _ HB4.out) (((first | (go_at_call 47; ((with_reducible refine (HBI.out _).mono ?_); rintro e w9 ⟨rfl, rfl⟩)) | (go_at_call 66; ((with_reducible refine (HMC.out _ HBD.out).mono ?_); rintro e w4 ⟨hb4, g4, c4, rfl, hown4⟩; have HB40 := Lib.hid (belowT HBD0.out hb4); have HB4 := Lib.hid (belowT HBR.out HB40.out); have HO4 := Lib.hid hown4; clear hb4 hown4)))))
      have HOW := Lib.hid (own_below HO.out HB40.out)
      obtain ⟨b9, o9, he9, _, hc9⟩ := row_rd HO4.out k (MW k) (rowW_at MW hlt)
      injection he9 with he9
      injection he9 with he91 he92
      subst he91 he92
      rw [HY.out, Nat.zero_add] at hc9
      have hlg := lt_of_cell hc9
      have HKY : Hid (∀ W, Below w4.heap.size w4 W → W.cell? ⟨g4, k, none⟩ = some (iv y)) := Lib.hid fun W hb => keepC hb hc9
      have hge4 : W1.heap.size ≤ w4.heap.size := HB4.out.size
      obtain ⟨p0, p1, p2, p3, p4⟩ := HKB.out _ HB4.out
      obtain ⟨_, _, he4, hgw, _, _⟩ := own_form HO4.out hn1
      injection he4 with he4
      injection he4 with he4
      injection he4 with he4
      rw [← he4] at hgw
      have hgw' : wr.heap.size ≤ g4 := hgw
      have HNE : Hid (∀ q, vo.ownBlock = some q → some q ≠ some g4) := Lib.hid fun q e hc => by
        have := (HO.out.lt q e).2
        injection hc with hc
        omega
      clear he4 hgw
      go_wp2_with fail
      clear p0 p1 p2 p3 p4
      have HBE0 := Lib.hid (belowDq (belowR w4))
      have HBE := Lib.hid (belowT HB4.out HBE0.out)
      go_region_held3 (fun W => W.cell? ⟨w.heap.size, 0, none⟩ = some (.slice A h.ps.length cap) ∧ W.cell? ⟨w.heap.size, 1, none⟩ = some (.slice J h.js.length capJ) ∧ W.cell? ⟨w.heap.size, 2, none⟩ = some (.int .i64 h.slo) ∧ W.cell? ⟨w.heap.size, 3, none⟩ = some (.int .i64 h.shi) ∧ W.cell? ⟨w.heap.size, 4, none⟩ = some (.int .i64 h.winch) ∧ W.cell? ⟨g4, k, none⟩ = some (iv y)) (first | exact ⟨(HKB.out _ HBE.out).1, (HKB.out _ HBE.out).2.1, (HKB.out _ HBE.out).2.2.1, (HKB.out _ HBE.out).2.2.2.1, (HKB.out _ HBE.out).2.2.2.2, HKY.out _ HBE0.out⟩ | exact ⟨(HKB.out _ HB6.out).1, (HKB.out _ HB6.out).2.1, (HKB.out _ HB6.out).2.2.1, (HKB.out _ HB6.out).2.2.2.1, (HKB.out _ HB6.out).2.2.2.2, HKY.out _ HB60.out⟩ | exact ⟨(HKB.out _ HB7.out).1, (HKB.out _ HB7.out).2.1, (HKB.out _ HB7.out).2.2.1, (HKB.out _ HB7.out).2.2.2.1, (HKB.out _ HB7.out).2.2.2.2, hy7⟩ | exact ⟨(HKB.out _ (belowA HB6.out _)).1, (HKB.out _ (belowA HB6.out _)).2.1, (HKB.out _ (belowA HB6.out _)).2.2.1, (HKB.out _ (belowA HB6.out _)).2.2.2.1, (HKB.out _ (belowA HB6.out _)).2.2.2.2, HKY.out _ (belowA HB60.out _)⟩) (((first | (have hz6 : W1.heap.size ≤ w6.heap.size := HB6.out.size; have hz64 : w4.heap.size ≤ w6.heap.size := HB60.out.size; have hownA := (own_below HOW.out HB60.out).alloc (.cells #[.int .i64 x, .int .i64 y] 25); refine step_append_lies _ (by rfl) _ _ _ (by rfl) W1.heap.size 25 i0 _ 2 16 Try.underlying32 hi0 hz0 hzz1 hzz2 rfl (by omega) _ k _ (by rfl) hownA ⟨w6.heap.size, 0, none⟩ 1 1 [.int .i64 x, .int .i64 y] (by rfl) (by rfl) (World.news_of_block (cs := #[.int .i64 x, .int .i64 y]) (t := 25) (fr := (0, 0)) (heap_alloc_new w6 _)) (by simp [Value.oneCell']) (by omega) hk9 hk16 (by simp; omega) (w6.heap.size + 1) (by simp) ?_; intro gg cap9 w7 hown7 hgrow hat hlt7; have HB7 := Lib.hid (grownB hownA hgrow (Nat.le_refl _) (belowA HB6.out _)); have hy7 : w7.cell? ⟨g4, k, none⟩ = some (iv y) := (World.cell?_of_block (a := ⟨g4, k, none⟩) (hgrow.block g4 (by simp; omega) (fun e => HNE.out g4 e.symm rfl))).trans (HKY.out _ (belowA HB60.out _)); have HO7 := Lib.hid hown7; clear hownA hown7 hgrow hat) | (go_at_call 47; ((with_reducible refine (HBI.out _).mono ?_); rintro e w9 ⟨rfl, rfl⟩)) | (go_at_call 67; ((with_reducible refine (HLC.out _ HBE.out).mono ?_); rintro e w6 ⟨rfl, hb6⟩; have HB60 := Lib.hid (belowT HBE0.out hb6); have HB6 := Lib.hid (belowT HB4.out HB60.out); clear hb6)))))
      go_wp2_with fail
      exact ⟨⟨k + 1, _, by omega, by go_num, rfl, Lib.hid (by rw [HSN.out, List.flatMap_append]; exact HO7.out), HB7⟩, by simp [intOf]; omega⟩
    · obtain rfl : k = h.ps.length := by omega
      have hown := HO.out
      have hown' : wr.ownsRow W1.heap.size 25 2 vo (spansRef h l h.ps.length).length ((spansRef h l h.ps.length).flatMap encSp) := by rw [spansRef_len]; exact hown
      obtain ⟨A5, cap5, hv5, _⟩ := own_rdN encSp_len hown'
      rw [spansRef_len] at hv5
      subst hv5
      have HO5 := Lib.hid hown
      clear hown hown' HO
      go_wp2_with fail
      exact HFIN.out _ _ ⟨belowT HB0.out HBR.out, A5, cap5, rfl, HO5.out⟩
end Go.Proofs.Ytojgdallodmanaa
