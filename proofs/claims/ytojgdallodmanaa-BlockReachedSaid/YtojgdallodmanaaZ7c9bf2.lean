/- The laws' helpers: Told. Weighings without an error: what is asked of them, of each and of any two; those that are told of a truth. The plain law of BlockTrue. No program is named here. -/
import Derived.Test.YtojgdallodmanaaZ382934
import Derived.Test.YtojgdallodmanaaZ872d06
namespace Go.Proofs.Ytojgdallodmanaa
open Go.RowKit

/-- A weighing of the same parts that is true of some weights. -/
def toldW (us : List Int) (w : Nat → Int) (i : Nat) (x : Wgh) : Wgh := ⟨x.set, max 0 (sumS w x.set.toNat - turnI us (2 * i) % 50), min 1000000 (sumS w x.set.toNat + turnI us (2 * i + 1) % 50)⟩
def toldTo (us : List Int) (w : Nat → Int) (l : List Wgh) : Nat → List Wgh
  | 0 => []
  | k + 1 => match l[k]? with
    | some x => toldTo us w l k ++ [toldW us w k x]
    | none => toldTo us w l k
def toldL (us : List Int) (w : Nat → Int) (l : List Wgh) : List Wgh := toldTo us w l l.length
theorem toldTo_succ {us : List Int} {w : Nat → Int} {l : List Wgh} {k : Nat} {x : Wgh} (hx : l[k]? = some x) : toldTo us w l (k + 1) = toldTo us w l k ++ [toldW us w k x] := by
  show (match l[k]? with | some x => toldTo us w l k ++ [toldW us w k x] | none => toldTo us w l k) = _
  rw [hx]
theorem toldTo_len {us : List Int} {w : Nat → Int} {l : List Wgh} : ∀ k, k ≤ l.length → (toldTo us w l k).length = k := by
  intro k
  induction k with
  | zero => intro _; rfl
  | succ k ih =>
    intro hk
    rw [toldTo_succ (List.getElem?_eq_getElem (show k < l.length by omega)), List.length_append, ih (by omega)]
    rfl
theorem toldTo_at {us : List Int} {w : Nat → Int} {l : List Wgh} : ∀ k, k ≤ l.length → ∀ i, i < k → (toldTo us w l k)[i]? = (l[i]?).map (toldW us w i) := by
  intro k
  induction k with
  | zero => intro _ i hi; omega
  | succ k ih =>
    intro hk i hi
    have hx := List.getElem?_eq_getElem (show k < l.length by omega)
    rw [toldTo_succ hx]
    by_cases hik : i < k
    · rw [List.getElem?_append_left (by rw [toldTo_len k (by omega)]; exact hik), ih (by omega) i hik]
    · obtain rfl : i = k := by omega
      rw [List.getElem?_append_right (by rw [toldTo_len i (by omega)]; omega), toldTo_len i (by omega), hx]
      simp
theorem toldL_len (us : List Int) (w : Nat → Int) (l : List Wgh) : (toldL us w l).length = l.length := toldTo_len _ (Nat.le_refl _)
theorem toldL_at (us : List Int) (w : Nat → Int) (l : List Wgh) {i : Nat} (hi : i < l.length) : (toldL us w l)[i]? = (l[i]?).map (toldW us w i) := toldTo_at _ (Nat.le_refl _) i hi

theorem Try.info82b : (Try.prog.info? 82).map (fun i => (i.zero, i.size, i.bytes)) = some (some (.agg #[.int .i64 0, .int .i64 0, .int .i64 0]), 3, 24) := by kernel_rfl
/-- A list of weighings of a call's own. -/
def WghPost (L : List Wgh) (w : World) (e : Ending) (w' : World) : Prop :=
  Below w.heap.size w w' ∧ ∃ A cap, e = .returned (.slice A L.length cap) ∧ RdN 3 encWgh w' w'.heap.size A L ∧ L.length ≤ cap ∧ cap ≤ maxLen

set_option maxRecDepth 100000 in
set_option maxHeartbeats 8000000 in
theorem told_any (n : Nat) (AL : Option Addr) (l : List Wgh) (capL : Nat) (AW : Option Addr) (wt : Nat → Int) (capW : Nat) (AU : Option Addr) (us : List Int) (capU : Nat) (B : Nat) (w : World) (hn8 : n ≤ 8)
    (hL : RdN 3 encWgh w B AL l) (hw : WghsOk n l) (hW : Rd1 iv w w.heap.size AW (rowW wt n)) (hb : WtOk n wt) (hu : U32s us) (hU : Rd1 uv w B AU us) (hB : B ≤ w.heap.size) :
    Calls Try.prog 41 #[.slice AL l.length capL, .slice AW n capW, .slice AU us.length capU] w (WghPost (toldL us wt l) w) := by
  obtain ⟨i0, hi0, hz0, hz1, hz2⟩ := info_parts Try.info82b
  have hl6 := hw.l6
  have HL := Lib.hid hL
  have HU := Lib.hid hU
  have HW := Lib.hid hW
  have HWO := Lib.hid hw
  have HB := Lib.hid hb
  have HUU := Lib.hid hu
  have HFIN : Hid (∀ e w', WghPost (toldTo us wt l l.length) w e w' → WghPost (toldL us wt l) w e w') := Lib.hid fun _ _ h => h
  obtain ⟨POST, hPOST⟩ : ∃ P, WghPost (toldL us wt l) w = P := ⟨_, rfl⟩
  rw [hPOST] at HFIN ⊢
  clear hL hU hW hw hb hu hPOST
  go_enter Try.func41, Try.ntmps41
  go_wp2_with fail
  obtain ⟨wq, hwq⟩ : ∃ wq : World, wq = w := ⟨_, rfl⟩
  have HBQ : Hid (Below w.heap.size w wq) := Lib.hid (by rw [hwq]; exact belowR _)
  rw [← hwq]
  clear hwq
  go_loopw [7, 8] (fun vv vi wr => ∃ (k : Nat) (v : Value), k ≤ l.length ∧ vi = .int .i64 k ∧ v = vv ∧ Hid (wr.ownsRow w.heap.size 82 3 v k ((toldTo us wt l k).flatMap encWgh)) ∧ Hid (Below w.heap.size w wr)) (fun _ vi _ => l.length - (intOf vi).toNat)
  case atStart => exact ⟨0, _, Nat.zero_le _, rfl, rfl, Lib.hid (World.ownsRow_nil _ _ _ _), HBQ⟩
  case round =>
    obtain ⟨k, v, hk, rfl, rfl, OWN, HBR⟩ := hrel
    have hzr := HBR.out.size
    by_cases hlt : k < l.length
    · obtain ⟨x, hx⟩ : ∃ x, l[k]? = some x := ⟨_, List.getElem?_eq_getElem hlt⟩
      obtain ⟨s, a1, hs2, a3, a4, a5⟩ := HWO.out.each x (List.mem_of_getElem? hx)
      obtain ⟨b, off, rfl, _, e0, _, _⟩ := wghAt HL.out hx
      have hts := toldTo_succ (us := us) (w := wt) hx
      have htw : toldW us wt k x = ⟨(s : Int), max 0 (sumS wt s - turnI us (2 * k) % 50), min 1000000 (sumS wt s + turnI us (2 * k + 1) % 50)⟩ := by unfold toldW; rw [a1]; rfl
      rw [htw] at hts
      rw [a1] at e0
      have htb1 := turnI_bd us (2 * k) HUU.out.2
      have htb2 := turnI_bd us (2 * k + 1) HUU.out.2
      have hsb := sumS_bd hn8 hs2 HB.out
      have hsc : ∀ V, Below w.heap.size w V → Calls Try.prog 44 #[.slice AW n capW, .int .i64 s] V fun e w' => e = .returned (iv (sumS wt s)) ∧ V = w' := fun V hb => by
        rw [← sumTo_sumS hn8 hs2]
        exact weight_any AW wt n _ capW s V hn8 (lt256 hn8 hs2) (HW.out.below hb (Nat.le_refl _)) HB.out
      have htc : ∀ V j, j ≤ 1000 → Below w.heap.size w V → Calls Try.prog 53 #[.slice AU us.length capU, .int .i64 ((j : Nat) : Int)] V fun e w' => e = .returned (iv (turnI us j)) ∧ V = w' := fun V j hj hb => turn_any AU us B capU j V HUU.out.1 (HU.out.below hb hB) HUU.out.2 hj
      have ht1 := fun V => htc V (2 * k) (by omega)
      have ht2 := fun V => htc V (2 * k + 1) (by omega)
      have hm1 : IntKind.i64.wrap (2 * (k : Int)) = ((2 * k : Nat) : Int) := by rw [IntKind.wrap_i64]; omega
      have hm2 : IntKind.i64.wrap (((2 * k : Nat) : Int) + 1) = ((2 * k + 1 : Nat) : Int) := by rw [IntKind.wrap_i64]; omega
      obtain ⟨S, hS⟩ : ∃ S, sumS wt s = S := ⟨_, rfl⟩
      rw [hS] at hts hsc hsb
      obtain ⟨T1, hT1⟩ : ∃ T, turnI us (2 * k) = T := ⟨_, rfl⟩
      rw [hT1] at hts ht1 htb1
      obtain ⟨T2, hT2⟩ : ∃ T, turnI us (2 * k + 1) = T := ⟨_, rfl⟩
      rw [hT2] at hts ht2 htb2
      obtain ⟨D2, hD2⟩ : ∃ D, 2 * k + 1 = D := ⟨_, rfl⟩
      rw [hD2] at ht2 hm2
      obtain ⟨D1, hD1⟩ : ∃ D, 2 * k = D := ⟨_, rfl⟩
      rw [hD1] at ht1 hm1 hm2
      obtain ⟨htb10, htb11⟩ := htb1
      obtain ⟨htb20, htb21⟩ := htb2
      obtain ⟨hsb0, hsb1⟩ := hsb
      have hw1 : IntKind.i64.wrap (S - T1 % 50) = S - T1 % 50 := by rw [IntKind.wrap_i64]; omega
      have hw2 : IntKind.i64.wrap (S + T2 % 50) = S + T2 % 50 := by rw [IntKind.wrap_i64]; omega
      have hr1 : T1.tmod 50 = T1 % 50 := Int.tmod_eq_emod_of_nonneg htb10
      have hr2 : T2.tmod 50 = T2 % 50 := Int.tmod_eq_emod_of_nonneg htb20
      have hpc := fun V => span_any (max 0 (S - T1 % 50)) (min 1000000 (S + T2 % 50)) V
      have HPC := Lib.hid hpc
      have HSC := Lib.hid hsc
      have HT1 := Lib.hid ht1
      have HT2 := Lib.hid ht2
      have HTS := Lib.hid hts
      have hk0 : (0 : Int) ≤ (k : Int) := by omega
      have hkz : (k : Int) < (l.length : Int) := by omega
      have HS : Hid (∀ W, Below w.heap.size w W → W.cell? ⟨b, off + k * 3, none⟩ = some (iv ((s : Nat) : Int))) := Lib.hid fun W hb => keepC hb e0
      have hk9 : k + 1 ≤ maxLen := by unfold maxLen; omega
      have hk8 : (k + 1) * 24 ≤ 140737488355328 := by omega
      clear hx a1 a3 a4 a5 e0 hts htw hsc htc ht1 ht2 hS hT1 hT2 hD1 hD2 hpc
      have e0 := HS.out _ HBR.out
      go_wp2_with (go_at_call 44; refine (HSC.out _ HBR.out).mono ?_; rintro e w2 ⟨rfl, rfl⟩)
      have HBD := Lib.hid (belowDq (belowR wr))
      have HBD1 := Lib.hid (belowT HBR.out HBD.out)
      go_region_held3 (fun W => W.cell? ⟨b, off + k * 3, none⟩ = some (iv ((s : Nat) : Int))) (first | exact HS.out _ HBD1.out | exact HS.out _ HB31.out | exact HS.out _ HB5.out | exact HS.out _ (belowA HB31.out _)) (((first | (have hz3 : w.heap.size ≤ w3.heap.size := HB31.out.size; have hownA := (own_below OWN.out HB3.out).alloc (.cells #[.int .i64 (s : Int), .int .i64 (max 0 (S - T1 % 50)), .int .i64 (min 1000000 (S + T2 % 50))] 82); refine step_append_lies _ (by rfl) _ _ _ (by rfl) w.heap.size 82 i0 _ 3 24 Try.underlying28 hi0 hz0 hz1 hz2 rfl (by omega) _ k _ (by rfl) hownA ⟨w3.heap.size, 0, none⟩ 1 1 [.int .i64 (s : Int), .int .i64 (max 0 (S - T1 % 50)), .int .i64 (min 1000000 (S + T2 % 50))] (by rfl) (by rfl) (World.news_of_block (cs := #[.int .i64 (s : Int), .int .i64 (max 0 (S - T1 % 50)), .int .i64 (min 1000000 (S + T2 % 50))]) (t := 82) (fr := (0, 0)) (heap_alloc_new w3 _)) (by simp [Value.oneCell']) (by omega) hk9 hk8 (by simp; omega) (w3.heap.size + 1) (by simp) ?_; intro gg cap9 w5 hown5 hgrow hat hlt5; have HB5 := Lib.hid (grownB hownA hgrow (Nat.le_refl _) (belowA HB31.out _)); have HO5 := Lib.hid hown5; clear hownA hown5 hgrow hat) | (go_at_call 53; (first | ((with_reducible refine (HT1.out _ HBD1.out).mono ?_); rintro e w2 ⟨rfl, rfl⟩) | ((with_reducible refine (HT2.out _ HBD1.out).mono ?_); rintro e w2 ⟨rfl, rfl⟩))) | (go_at_call 38; ((with_reducible refine (HPC.out _).mono ?_); rintro e w3 ⟨rfl, hb3⟩; have HB3 := Lib.hid (belowT HBD.out hb3); have HB31 := Lib.hid (belowT HBR.out HB3.out); clear hb3)))))
      all_goals go_wp2_with fail
      all_goals exact ⟨⟨k + 1, _, by omega, by go_num, rfl, Lib.hid (by rw [HTS.out, List.flatMap_append]; exact HO5.out), HB5⟩, by simp [intOf]; omega⟩
    · obtain rfl : k = l.length := by omega
      have hown := OWN.out
      have hown' : wr.ownsRow w.heap.size 82 3 v (toldTo us wt l l.length).length ((toldTo us wt l l.length).flatMap encWgh) := by rw [toldTo_len _ (Nat.le_refl _)]; exact hown
      obtain ⟨A9, c9, hv9, hR9, _, hc1, hc2⟩ := own_rdN encWgh_len hown'
      have HR9 := Lib.hid hR9
      have HV9 := Lib.hid hv9
      have HC1 := Lib.hid hc1
      have HC2 := Lib.hid hc2
      clear hown hown' hR9 hv9 hc1 hc2
      go_wp2_with fail
      exact HFIN.out _ _ ⟨HBR.out, A9, c9, by rw [HV9.out]; rfl, HR9.out, HC1.out, HC2.out⟩
end Go.Proofs.Ytojgdallodmanaa

namespace Go.Proofs.Ytojgdallodmanaa

theorem crossN_comm (a b : Nat) : crossN a b = crossN b a := by
  unfold crossN
  rw [Nat.and_comm]
  cases (b &&& a != 0) <;> cases (b &&& a != a) <;> cases (b &&& a != b) <;> rfl
/-- A weighing by itself is right. -/
def OneOk (h : Hul) (x : Wgh) : Prop := blockE h.ps.length h.js x.set = 0 ∧ 0 ≤ x.lo ∧ x.lo ≤ x.hi ∧ x.hi ≤ 1000000
def NoCross (x y : Wgh) : Prop := crossN x.set.toNat y.set.toNat = false
theorem rangeE_zero_iff {L H lo hi : Int} : rangeE L H lo hi = 0 ↔ L ≤ lo ∧ lo ≤ hi ∧ hi ≤ H := by
  constructor
  · intro h
    obtain ⟨a, b, c⟩ := rangeE_zero h
    exact ⟨a, b, c⟩
  · rintro ⟨a, b, c⟩
    exact rangeE_ok (by unfold inB; simp; omega) b
theorem openPre_iff {h : Hul} {l : List Wgh} : openPre h l = 0 ↔ (checkE h).2.2 = 0 ∧ l.length ≤ 6 ∧ (∀ x ∈ l, OneOk h x) ∧ l.Pairwise NoCross := by
  constructor
  · intro hp
    obtain ⟨h1, h2, h3⟩ := openPre_zero hp
    have h4 : ∀ i (hi : i < l.length), blockE h.ps.length h.js l[i].set = 0 ∧ crossB (l.take i) l[i].set.toNat = false ∧ rangeE 0 1000000 l[i].lo l[i].hi = 0 := fun i hi => by
      have := h3 i hi
      unfold weighedE at this
      rw [List.getElem?_eq_getElem hi] at this
      simp only at this
      split at this
      · rename_i hb
        split at this
        · omega
        · rename_i hc
          exact ⟨hb, by simpa using hc, this⟩
      · exact absurd this (by assumption)
    refine ⟨h1, h2, fun x hx => ?_, ?_⟩
    · obtain ⟨i, hi, rfl⟩ := List.getElem_of_mem hx
      obtain ⟨a, _, c⟩ := h4 i hi
      exact ⟨a, rangeE_zero_iff.1 c⟩
    · rw [List.pairwise_iff_getElem]
      intro i j hi hj hij
      obtain ⟨_, b, _⟩ := h4 j hj
      unfold crossB at b
      rw [List.any_eq_false] at b
      have hm : l[i] ∈ l.take j := by
        rw [List.mem_take_iff_getElem]
        exact ⟨i, by omega, rfl⟩
      have := b _ hm
      unfold NoCross
      rw [crossN_comm]
      simpa using this
  · rintro ⟨h1, h2, h3, h4⟩
    unfold openPre
    rw [if_pos h1, if_pos h2]
    unfold weighedsE
    have h5 : ∀ i, i < l.length → weighedE h.ps.length h.js l i = 0 := fun i hi => by
      unfold weighedE
      rw [List.getElem?_eq_getElem hi]
      obtain ⟨a, b⟩ := h3 l[i] (List.getElem_mem hi)
      simp only
      rw [if_pos a, if_neg]
      · exact rangeE_zero_iff.2 b
      · intro hc
        unfold crossB at hc
        rw [List.any_eq_true] at hc
        obtain ⟨y, hy, hyc⟩ := hc
        obtain ⟨j, hj, rfl⟩ := List.mem_take_iff_getElem.1 hy
        have := List.pairwise_iff_getElem.1 h4 j i (by omega) hi (by omega)
        unfold NoCross at this
        rw [crossN_comm, this] at hyc
        cases hyc
    have h6 : ∀ k, k ≤ l.length → firstBad (weighedE h.ps.length h.js l) k = none := by
      intro k
      induction k with
      | zero => intro _; rfl
      | succ k ih => intro hk; exact firstBad_succ (ih (by omega)) (h5 k (by omega))
    rw [h6 _ (Nat.le_refl _)]
theorem rangeE_ne9 (L H lo hi : Int) : rangeE L H lo hi ≠ 9 := by unfold rangeE; split <;> (try split) <;> omega
theorem freshE_ne9 (l : List ByteArray) (s : ByteArray) : freshE l s ≠ 9 := by unfold freshE; split <;> (try split) <;> omega
theorem firstBad_ne9 {f : Nat → Int} {n : Nat} (hf : ∀ i, f i ≠ 9) {p : Nat × Int} (h : firstBad f n = some p) : p.2 ≠ 9 := by
  unfold firstBad at h
  obtain ⟨i, _, hi⟩ := List.exists_of_findSome?_eq_some h
  split at hi
  · cases hi
  · injection hi with hi
    subst hi
    exact hf i
theorem blockE_ne9 (n : Nat) (js : List (Int × Int)) (s : Int) : blockE n js s ≠ 9 := by unfold blockE; split <;> (try split) <;> omega
theorem checkE_ne9 (h : Hul) : (checkE h).2.2 ≠ 9 := by
  unfold checkE
  split
  · split
    · split
      · simp
      · unfold listsE
        split
        · rename_i i e hfb
          have := firstBad_ne9 (p := (i, e)) (fun i => by
            unfold partE
            split
            · split
              · exact rangeE_ne9 _ _ _ _
              · exact freshE_ne9 _ _
            · omega) hfb
          exact this
        · split
          · rename_i i e hfb
            have := firstBad_ne9 (p := (i, e)) (fun i => by
              unfold jointE
              split
              · split
                · split
                  · omega
                  · split <;> omega
                · omega
              · omega) hfb
            exact this
          · simp
    · simp
  · simp
theorem openPre_ne9 (h : Hul) (l : List Wgh) : openPre h l ≠ 9 := by
  unfold openPre
  split
  · split
    · unfold weighedsE
      split
      · rename_i p hfb
        exact firstBad_ne9 (fun i => by
          unfold weighedE
          split
          · split
            · split
              · omega
              · exact rangeE_ne9 _ _ _ _
            · exact blockE_ne9 _ _ _
          · omega) hfb
      · omega
    · omega
  · exact checkE_ne9 h
/-- What sets says. -/
theorem sets_iff {h : Hul} {l : List Wgh} : (openE h l == 0 || openE h l == 9) = true ↔ openPre h l = 0 := by
  constructor
  · intro hs
    unfold openE at hs
    split at hs
    · assumption
    · rename_i hne
      have := openPre_ne9 h l
      simp [hne, this] at hs
  · intro hp
    unfold openE
    rw [if_pos hp]
    split <;> simp
theorem sets_no {h : Hul} {l : List Wgh} (hs : (openE h l == 0 || openE h l == 9) = false) : openE h l ≠ 0 := fun h0 => by rw [h0] at hs; cases hs

theorem toldL_mem {us : List Int} {w : Nat → Int} {l : List Wgh} {y : Wgh} (hy : y ∈ toldL us w l) : ∃ i x, l[i]? = some x ∧ y = toldW us w i x := by
  obtain ⟨i, hi⟩ := List.getElem?_of_mem hy
  have hil := (List.getElem?_eq_some_iff.1 hi).1
  rw [toldL_len] at hil
  rw [toldL_at _ _ _ hil, List.getElem?_eq_getElem hil] at hi
  simp only [Option.map_some, Option.some.injEq] at hi
  exact ⟨i, _, List.getElem?_eq_getElem hil, hi.symm⟩
theorem told_pre {h : Hul} {l : List Wgh} (hp : openPre h l = 0) {us : List Int} (hu : ∀ x ∈ us, 0 ≤ x ∧ x ≤ 4294967295) {w : Nat → Int} (hw : Box h w) : openPre h (toldL us w l) = 0 ∧ TruthP h (toldL us w l) w := by
  obtain ⟨h1, h2, h3, h4⟩ := openPre_iff.1 hp
  have hk := hulOk h1
  have hwo := wghsOk hp
  have each : ∀ (i : Nat) (x : Wgh), l[i]? = some x → ∃ s : Nat, x.set = (s : Int) ∧ s < 2 ^ h.ps.length ∧ 0 ≤ sumS w s ∧ sumS w s ≤ 800000 := fun i x hx => by
    obtain ⟨s, a1, a2, _⟩ := hwo.each x (List.mem_of_getElem? hx)
    exact ⟨s, a1, a2, sumS_bd hk.n8 a2 (box_wt hk.ps hw)⟩
  refine ⟨openPre_iff.2 ⟨h1, by rw [toldL_len]; exact h2, fun y hy => ?_, ?_⟩, hw, fun y hy => ?_⟩
  · obtain ⟨i, x, hx, rfl⟩ := toldL_mem hy
    obtain ⟨s, a1, a2, a3, a4⟩ := each i x hx
    have t1 := turnI_bd us (2 * i) hu
    have t2 := turnI_bd us (2 * i + 1) hu
    refine ⟨(h3 x (List.mem_of_getElem? hx)).1, ?_, ?_, ?_⟩
    · simp only [toldW]; omega
    · simp only [toldW, a1, Int.toNat_natCast]; omega
    · simp only [toldW]; omega
  · rw [List.pairwise_iff_getElem]
    intro i j hi hj hij
    rw [toldL_len] at hi hj
    have e : ∀ k (hk : k < l.length) (hk' : k < (toldL us w l).length), (toldL us w l)[k].set = l[k].set := fun k hk hk' => by
      have := toldL_at us w l hk
      rw [List.getElem?_eq_getElem hk, List.getElem?_eq_getElem hk'] at this
      simp only [Option.map_some, Option.some.injEq] at this
      rw [this]; rfl
    unfold NoCross
    rw [e i hi _, e j hj _]
    exact List.pairwise_iff_getElem.1 h4 i j hi hj hij
  · obtain ⟨i, x, hx, rfl⟩ := toldL_mem hy
    obtain ⟨s, a1, a2, a3, a4⟩ := each i x hx
    have t1 := turnI_bd us (2 * i) hu
    have t2 := turnI_bd us (2 * i + 1) hu
    simp only [toldW, a1, Int.toNat_natCast]
    omega
theorem openE_zero {h : Hul} {l : List Wgh} (hp : openPre h l = 0) (hf : Feas h l) : openE h l = 0 := by unfold openE; rw [if_pos hp, if_pos hf]
theorem sumS_single (w : Nat → Int) {i : Nat} (hi : i < 8) : sumS w (2 ^ i) = w i := by
  unfold sumS sumP
  exact sumTo_one 8 hi (fun j _ => by
    rw [Nat.testBit_two_pow]
    by_cases h : i = j
    · subst h; simp
    · simp [h, Ne.symm h])
theorem upD_nat {n : Int} (hn : 0 ≤ n) : 1000 * upD n 1000 ≥ n ∧ 1000 * (upD n 1000 - 1) < n := by
  unfold upD
  rw [Int.tdiv_eq_ediv_of_nonneg (by omega)]
  omega
/-- To pull a block takes what is in the range of Pull. -/
theorem pull_in {h : Hul} (hk : HulOk h) {lo hi v s : Int} (h0 : 0 ≤ lo) (h1 : lo ≤ v) (h2 : v ≤ hi) (h3 : h.slo ≤ s) (h4 : s ≤ h.shi) : 1000 * (pullV h lo hi).1 ≤ v * s ∧ v * s ≤ 1000 * (pullV h lo hi).2 := by
  have hs1 := hk.s1
  have hs2 := hk.s2
  have e1 : lo * h.slo ≤ v * s := Int.mul_le_mul h1 h3 (by omega) (by omega)
  have e2 : v * s ≤ hi * h.shi := Int.mul_le_mul h2 h4 (by omega) (by omega)
  have e3 : 0 ≤ lo * h.slo := Int.mul_nonneg h0 (by omega)
  have e4 : 0 ≤ hi * h.shi := Int.mul_nonneg (by omega) (by omega)
  have := (upD_nat e4).1
  unfold pullV
  simp only
  rw [Int.tdiv_eq_ediv_of_nonneg e3]
  omega
theorem pullV_bd {h : Hul} (hk : HulOk h) {lo hi : Int} (h0 : 0 ≤ lo) (h1 : 0 ≤ hi) (h2 : hi ≤ 800000) : 0 ≤ (pullV h lo hi).1 ∧ (pullV h lo hi).2 ≤ 2000000 := by
  have hs1 := hk.s1
  have hs2 := hk.s2
  have hs3 := hk.s3
  have e3 : 0 ≤ lo * h.slo := Int.mul_nonneg h0 (by omega)
  have e4 : 0 ≤ hi * h.shi := Int.mul_nonneg (by omega) (by omega)
  have e5 : hi * h.shi ≤ 800000 * 2000 := Int.mul_le_mul h2 hs3 (by omega) (by omega)
  have := (upD_nat e4).2
  unfold pullV
  simp only
  rw [Int.tdiv_eq_ediv_of_nonneg e3]
  omega
theorem blockE_ok {n : Nat} {js : List (Int × Int)} {s : Nat} (h0 : 0 < s) (h1 : s < 2 ^ n) (h2 : hangsB js s = true) : blockE n js (s : Int) = 0 := by
  unfold blockE
  rw [if_pos, Int.toNat_natCast, h2]
  · rfl
  · have : ((2 : Int) ^ n) = ((2 ^ n : Nat) : Int) := by rw [Int.natCast_pow]; rfl
    unfold inB
    rw [this]
    simp
    omega
end Go.Proofs.Ytojgdallodmanaa
