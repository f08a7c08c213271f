/- The reference's hanging and heavy: the walks. The reference's Fewest: the walk. The reference's lightest, counted, Winch and Sand: the walks (printed by mkK24.py). -/
import Derived.Deep.DeepCutAuto
import Derived.Deep.RegionHeld3
import Derived.Test.YtojgdallodmanaaYK20
import Derived.Test.YtojgdallodmanaaYK21
import Derived.Test.YtojgdallodmanaaZ150f09
namespace Go.Proofs.Ytojgdallodmanaa
open Go.RowKit

/-- The numbers of the first sets. -/
def rowF (f : Nat → Int) (P : Nat) : List Int := (List.range P).map f
theorem rowF_len (f : Nat → Int) (P : Nat) : (rowF f P).length = P := by simp [rowF]
theorem rowF_at (f : Nat → Int) {P s : Nat} (h : s < P) : (rowF f P)[s]? = some (f s) := by simp [rowF, h]
theorem rowF_succ (f : Nat → Int) (P : Nat) : rowF f (P + 1) = rowF f P ++ [f P] := by simp [rowF, List.range_succ]

set_option maxRecDepth 100000 in
set_option maxHeartbeats 4000000 in
theorem heavy87_any (f : Nat → Int) (P : Nat) (HA QA : Option Addr) (hc qc : Nat) (q : List Nat) (B : Nat) (w : World) (hq8 : q.length ≤ 8) (hg : grow 0 q = true) (hlt : ∀ x ∈ rowB q q.length, x < P)
    (hH : Rd1 iv w B HA (rowF f P)) (hQ : Rd1 nv w B QA q) (hB : B ≤ w.heap.size) :
    Calls Try.prog 87 #[.slice HA P hc, .slice QA q.length qc] w fun e w' => e = .returned (iv (heavyF f (rowB q q.length))) ∧ Below w.heap.size w w' := by
  have hbl : ∀ V, Below w.heap.size w V → Calls Try.prog 49 #[.slice QA q.length qc] V fun e w' => Below V.heap.size V w' ∧ ∃ A cap, e = .returned (.slice A (rowB q q.length).length cap) ∧ Rd1 nv w' w'.heap.size A (rowB q q.length) := fun V hb => (blocks49_any B QA q qc V hq8 hg (hQ.below hb hB) (Nat.le_trans hB hb.size)).mono fun e w' ⟨h1, A, c, h2, h3⟩ => by
    have hl := rowB_len hq8 hg (Nat.le_refl q.length)
    refine ⟨h1, A, c, by rw [hl]; exact h2, ?_⟩
    exact row_nats hl h3
  have hl8 : (rowB q q.length).length ≤ 8 := by rw [rowB_len hq8 hg (Nat.le_refl _)]; have := grow_le_k hg q.length (Nat.le_refl _); omega
  obtain ⟨S, hS⟩ : ∃ S, rowB q q.length = S := ⟨_, rfl⟩
  rw [hS] at hbl hl8 hlt ⊢
  have HBL := Lib.hid hbl
  have HLT := Lib.hid hlt
  have HR := Lib.hid hH
  clear hS hbl hlt hH hQ hg hq8
  go_enter Try.func87, Try.ntmps87
  go_wp2_with fail
  refine (HBL.out _ (belowR w)).mono ?_
  rintro e w1 ⟨hb1, A1, c1, rfl, hr1⟩
  have HB1 := Lib.hid hb1
  have HR1 := Lib.hid hr1
  clear hb1 hr1 HBL
  go_wp2_with fail
  go_loopw [6, 7] (fun vm vi wr => ∃ i : Nat, i ≤ S.length ∧ vi = .int .i64 i ∧ vm = iv (heavyTo f S i) ∧ Hid (∀ j, j < i → ∀ x, S[j]? = some x → 0 ≤ f x) ∧ Hid (Below w1.heap.size w1 wr)) (fun _ vi _ => S.length - (intOf vi).toNat)
  case atStart => exact ⟨0, Nat.zero_le _, rfl, rfl, Lib.hid (fun j hj => by omega), Lib.hid (belowR _)⟩
  case round =>
    obtain ⟨i, hi, rfl, rfl, HNN, HBR⟩ := hrel
    by_cases hlt : i < S.length
    · obtain ⟨x, hx⟩ : ∃ x, S[i]? = some x := ⟨_, List.getElem?_eq_getElem hlt⟩
      obtain ⟨b1, o1, rfl, _, d1⟩ := (HR1.out.below HBR.out (Nat.le_refl _)) i x hx
      have hxP := HLT.out x (List.mem_of_getElem? hx)
      obtain ⟨b2, o2, rfl, _, d2⟩ := (HR.out.below (belowT HB1.out HBR.out) hB) x (f x) (rowF_at f hxP)
      have hkz : (i : Int) < (S.length : Int) := by omega
      have hk0 : (0 : Int) ≤ (i : Int) := by omega
      have hx0 : (0 : Int) ≤ (x : Int) := by omega
      have hxp : (x : Int) < (P : Int) := by omega
      have HX := Lib.hid hx
      have HST : Hid (heavyTo f S (i + 1) = max (heavyTo f S i) (f x)) := Lib.hid (by rw [heavyTo, hx]; rfl)
      clear hx
      rcases Int.lt_or_le (f x) 0 with hf | hf
      · have hd : decide (f x < 0) = true := decide_eq_true hf
        have HF := Lib.hid (heavyF_no (f := f) (List.mem_of_getElem? HX.out) hf)
        obtain ⟨v, hv⟩ : ∃ v, f x = v := ⟨_, rfl⟩
        rw [hv] at d2 hf hd
        clear hv HST
        go_wp2_with fail
        go_ret
        exact ⟨by rw [HF.out]; rfl, belowT HB1.out HBR.out⟩
      · have hd : decide (f x < 0) = false := decide_eq_false (by omega)
        have HN2 : Hid (∀ j, j < i + 1 → ∀ y, S[j]? = some y → 0 ≤ f y) := Lib.hid fun j hj y hy => by
          rcases Nat.lt_or_ge j i with h1 | h1
          · exact HNN.out j h1 y hy
          · obtain rfl : j = i := by omega
            rw [HX.out] at hy
            injection hy with hy
            subst hy
            exact hf
        have hnl : ¬ f x < 0 := by omega
        obtain ⟨v, hv⟩ : ∃ v, f x = v := ⟨_, rfl⟩
        rw [hv] at d2 hf hd hnl HST
        obtain ⟨m, hm⟩ : ∃ m, heavyTo f S i = m := ⟨_, rfl⟩
        rw [hm] at HST ⊢
        clear hv hm
        go_wp2_with fail
        go_roundw
        case rel => exact ⟨i + 1, by omega, by go_num, by rw [HST.out], HN2, HBR⟩
        case measure => simp [intOf]; omega
    · obtain rfl : i = S.length := by omega
      have HF : Hid (heavyF f S = heavyTo f S S.length) := Lib.hid (heavyF_ok fun x hx => by
        obtain ⟨j, hj⟩ := List.getElem?_of_mem hx
        exact HNN.out j (List.getElem?_eq_some_iff.1 hj).1 x hj)
      go_wp2_with fail
      go_ret
      exact ⟨by rw [HF.out]; rfl, belowT HB1.out HBR.out⟩

set_option maxRecDepth 100000 in
set_option maxHeartbeats 4000000 in
theorem hanging85_any (h : Hul) (A J : Option Addr) (B cap capJ : Nat) (AL : Option Addr) (l : List Wgh) (capL : Nat) (w : World)
    (hH : HulRd w B h A cap J capJ) (hk : HulOk h) (hL : RdN 3 encWgh w B AL l) (hw : WghsOk h.ps.length l) (hB : B ≤ w.heap.size) :
    Calls Try.prog 85 #[hv h A cap J capJ, .slice AL l.length capL] w fun e w' => Below w.heap.size w w' ∧ ∃ A' c', e = .returned (.slice A' (2 ^ h.ps.length) c') ∧ Rd1 iv w' w'.heap.size A' (rowF (hangW h l) (2 ^ h.ps.length)) := by
  obtain ⟨i3, hi3, hz30, hz31, hz32⟩ := info_parts Try.info3
  obtain ⟨W1, hW1, hb0, hzz, p0, p1, p2, p3, p4⟩ := hulBox w h A cap J capJ
  have hn8 := hk.n8
  have hpw : 2 ^ h.ps.length ≤ 256 := Nat.pow_le_pow_right (n := 2) (by decide) hn8
  have hp1 : 1 ≤ 2 ^ h.ps.length := Nat.one_le_two_pow
  have hall : ∀ V, Below W1.heap.size W1 V → Calls Try.prog 93 #[hv h A cap J capJ] V fun e w' => e = .returned (iv ((2 ^ h.ps.length : Nat) - 1 : Int)) ∧ Below V.heap.size V w' := fun V hb => (all_any h A J cap capJ V hn8).mono fun e w' hh => ⟨by rw [hh.1]; unfold allN; congr 2; omega, hh.2⟩
  have hhg : ∀ (s : Nat) V, s < 2 ^ h.ps.length → Below W1.heap.size W1 V → Calls Try.prog 50 #[hv h A cap J capJ, .int .i64 s] V fun e w' => e = .returned (.bool (hangsB h.js s)) ∧ Below V.heap.size V w' := fun s V hs hb => refHangs_any h A J B cap capJ s V (hH.below (belowT hb0 hb) hB) hk.n1 hn8 hk.js hk.j12 hs (Nat.le_trans hB (belowT hb0 hb).size)
  have hgr : ∀ (s : Nat) V, s < 2 ^ h.ps.length → Below W1.heap.size W1 V → Calls Try.prog 72 #[hv h A cap J capJ, .slice AL l.length capL, .int .i64 s] V fun e w' => e = .returned (iv (mostRef h l s)) ∧ Below V.heap.size V w' := fun s V hs hb => greatest_any h A J B cap capJ AL l capL s V (hH.below (belowT hb0 hb) hB) hk (hL.below (belowT hb0 hb) hB) hw hs (Nat.le_trans hB (belowT hb0 hb).size)
  have HKB : Hid (∀ W, Below W1.heap.size W1 W → W.cell? ⟨w.heap.size, 0, none⟩ = some (.slice A h.ps.length cap) ∧ W.cell? ⟨w.heap.size, 1, none⟩ = some (.slice J h.js.length capJ) ∧ W.cell? ⟨w.heap.size, 2, none⟩ = some (.int .i64 h.slo) ∧ W.cell? ⟨w.heap.size, 3, none⟩ = some (.int .i64 h.shi) ∧ W.cell? ⟨w.heap.size, 4, none⟩ = some (.int .i64 h.winch)) := Lib.hid fun W hb => ⟨keepC hb p0, keepC hb p1, keepC hb p2, keepC hb p3, keepC hb p4⟩
  have HFV : Hid (∀ s, hangW h l s = if 0 < s ∧ hangsB h.js s = true then mostRef h l s else -1) := Lib.hid fun s => rfl
  obtain ⟨P, hP⟩ : ∃ P, 2 ^ h.ps.length = P := ⟨_, rfl⟩
  rw [hP] at hpw hp1 hall hhg hgr ⊢
  obtain ⟨F, hF⟩ : ∃ F, hangW h l = F := ⟨_, rfl⟩
  rw [hF] at HFV ⊢
  have HALL := Lib.hid hall
  have HHG := Lib.hid hhg
  have HGR := Lib.hid hgr
  have HB0 := Lib.hid hb0
  have hws : w.heap.size < W1.heap.size := lt_of_cell p0
  have HZ : Hid (rowF F 1 = [-1]) := Lib.hid (by
    simp [rowF, HFV.out])
  clear hall hhg hgr hb0 hH hL hw hk hP hF hzz
  go_enter Try.func85, Try.ntmps85
  go_wp2_with fail
  obtain ⟨W2, hW2⟩ : ∃ W2, W1.alloc (.cells #[.int .i64 (-1)] 3) = W2 := ⟨_, rfl⟩
  have hb2 : Below W1.heap.size W1 W2 := by rw [← hW2]; exact belowA (belowR _) _
  have ho2 : W2.ownsRow W1.heap.size 3 1 (.slice (some ⟨W1.heap.size, 0, none⟩) 1 1) 1 ((rowF F 1).map iv) := by rw [← hW2, HZ.out]; exact World.ownsRow_lit W1 #[.int .i64 (-1)] 1 (Nat.le_refl _) (by decide) rfl
  have HB2 := Lib.hid hb2
  have HO2 := Lib.hid ho2
  rw [hW2]
  clear hW2 hb2 ho2 hW1 p0 p1 p2 p3 p4
  go_loopw [5, 6, 7] (fun vo vi vn wr => ∃ (i : Nat) (va : Value), 1 ≤ i ∧ i ≤ P ∧ vi = .int .i64 i ∧ va = vo ∧ Hid (wr.ownsRow W1.heap.size 3 1 va i ((rowF F i).map iv)) ∧ Hid (Below W1.heap.size W1 wr)) (fun _ vi _ _ => P - (intOf vi).toNat)
  case atStart => exact ⟨1, _, Nat.le_refl _, hp1, rfl, rfl, HO2, HB2⟩
  case round =>
    obtain ⟨i, va, h1i, hi, rfl, rfl, HOW, HBR⟩ := hrel
    obtain ⟨p0, p1, p2, p3, p4⟩ := HKB.out _ HBR.out
    by_cases hlt : i < P
    · have hle : (i : Int) ≤ (P : Int) - 1 := by omega
      have hled : decide ((i : Int) ≤ (P : Int) - 1) = true := decide_eq_true hle
      have hFi := HFV.out i
      have hzr := HBR.out.size
      have APP : ∀ (v6 : Value) (w6 : World) (x : Int), F i = x → w6.ownsRow W1.heap.size 3 1 v6 (i + 1) ((rowF F i).map iv ++ [iv x]) → w6.ownsRow W1.heap.size 3 1 v6 (i + 1) ((rowF F (i + 1)).map iv) := fun v6 w6 x e ho => by rw [rowF_succ, List.map_append, e]; exact ho
      have APPH := Lib.hid APP
      clear APP
      go_wp2_with fail
      refine (HALL.out _ HBR.out).mono ?_
      rintro e w2 ⟨rfl, hb⟩
      have C1 := Lib.hid hb
      clear hb p0 p1 p2 p3 p4
      obtain ⟨p0, p1, p2, p3, p4⟩ := HKB.out _ (belowT HBR.out C1.out)
      go_wp2_with fail
      refine (HHG.out i _ hlt (belowT HBR.out C1.out)).mono ?_
      rintro e w3 ⟨rfl, hb⟩
      have C2 := Lib.hid (belowT C1.out hb)
      clear hb p0 p1 p2 p3 p4
      cases hgb : hangsB h.js i with
      | true =>
        rw [hgb, if_pos ⟨by omega, rfl⟩] at hFi
        obtain ⟨x, hx⟩ : ∃ x, mostRef h l i = x := ⟨_, rfl⟩
        have hgr2 := HGR.out i
        rw [hx] at hFi hgr2
        have HGI := Lib.hid hgr2
        have HFI := Lib.hid hFi
        clear hgr2 hFi hgb hx
        obtain ⟨p0, p1, p2, p3, p4⟩ := HKB.out _ (belowT HBR.out C2.out)
        go_wp2_with fail
        refine (HGI.out _ hlt (belowT HBR.out C2.out)).mono ?_
        rintro e w4 ⟨rfl, hb⟩
        have C3 := Lib.hid (belowT C2.out hb)
        have HAL := Lib.hid ((own_below HOW.out C3.out).alloc (.cells #[.int .i64 x] 3))
        have hz3 := C3.out.size
        clear hb p0 p1 p2 p3 p4
        go_wp2_with (at_builtin; refine wpList_append_srcs rfl _ _ 40 rfl W1.heap.size 3 i3 (.int .i64 0) 1 8 Try.underlying40 hi3 hz30 hz31 hz32 rfl (by decide) _ i ((rowF F i).map iv) rfl HAL.out (.slice (some ⟨w4.heap.size, 0, none⟩) 1 1) 1 [iv x] rfl (.inr ⟨⟨w4.heap.size, 0, none⟩, 1, rfl, rfl, one_new _ _ _, by simp [Value.oneCell']⟩) ?d3 ?d4 ?d5 ?_)
        case d3 => unfold maxLen; omega
        case d4 => omega
        case d5 => simp only [World.size_alloc]; omega
        intro v6 w6 hown hg6 _
        have HB6 := Lib.hid (grownB HAL.out hg6 (Nat.le_refl _) (belowA (belowT HBR.out C3.out) _))
        have HO6 := Lib.hid (APPH.out v6 w6 x HFI.out hown)
        clear hown hg6
        go_wp2_with fail
        go_roundw
        case rel => exact ⟨i + 1, v6, by omega, by omega, by go_num, rfl, HO6, HB6⟩
        case measure => simp [intOf]; omega
      | false =>
        rw [hgb, if_neg (by simp)] at hFi
        have HFI := Lib.hid hFi
        have HAL := Lib.hid ((own_below HOW.out C2.out).alloc (.cells #[.int .i64 (-1)] 3))
        have hz3 := C2.out.size
        clear hFi hgb
        go_wp2_with (at_builtin; refine wpList_append_srcs rfl _ _ 40 rfl W1.heap.size 3 i3 (.int .i64 0) 1 8 Try.underlying40 hi3 hz30 hz31 hz32 rfl (by decide) _ i ((rowF F i).map iv) rfl HAL.out (.slice (some ⟨w3.heap.size, 0, none⟩) 1 1) 1 [iv (-1)] rfl (.inr ⟨⟨w3.heap.size, 0, none⟩, 1, rfl, rfl, one_new _ _ _, by simp [Value.oneCell']⟩) ?d3 ?d4 ?d5 ?_)
        case d3 => unfold maxLen; omega
        case d4 => omega
        case d5 => simp only [World.size_alloc]; omega
        intro v6 w6 hown hg6 _
        have HB6 := Lib.hid (grownB HAL.out hg6 (Nat.le_refl _) (belowA (belowT HBR.out C2.out) _))
        have HO6 := Lib.hid (APPH.out v6 w6 (-1) HFI.out hown)
        clear hown hg6
        go_wp2_with fail
        go_roundw
        case rel => exact ⟨i + 1, v6, by omega, by omega, by go_num, rfl, HO6, HB6⟩
        case measure => simp [intOf]; omega
    · obtain rfl : i = P := by omega
      have hle : ¬ ((i : Int) ≤ (i : Int) - 1) := by omega
      have hled : decide ((i : Int) ≤ (i : Int) - 1) = false := decide_eq_false hle
      go_wp2_with fail
      refine (HALL.out _ HBR.out).mono ?_
      rintro e w2 ⟨rfl, hb⟩
      have C1 := Lib.hid hb
      have HOE := Lib.hid (own_below HOW.out hb)
      clear hb p0 p1 p2 p3 p4
      go_wp2_with fail
      go_ret
      obtain ⟨A9, c9, rfl⟩ := own_slice HOE.out
      exact ⟨belowT HB0.out (belowT HBR.out C1.out), A9, c9, rfl, row_ints (rowF_len _ _) HOE.out⟩
end Go.Proofs.Ytojgdallodmanaa

namespace Go.Proofs.Ytojgdallodmanaa
open Go.RowKit

/-- A list of cuts in memory. -/
def CutsIn (w : World) (A : Option Addr) (c : Nat) (L : List (List Nat)) : Prop := ∃ vs, w.ownsRow 0 40 1 (.slice A L.length c) L.length vs ∧ RowsO w vs L
section
variable {w w' : World} {A : Option Addr} {c : Nat} {L : List (List Nat)}
theorem CutsIn.below (h : CutsIn w A c L) (hb : Below w.heap.size w w') : CutsIn w' A c L := by
  obtain ⟨vs, a, b⟩ := h
  exact ⟨vs, own_below a hb, b.below hb⟩
theorem CutsIn.at (h : CutsIn w A c L) {i : Nat} {q : List Nat} (hq : L[i]? = some q) : ∃ g Ai ci, A = some ⟨g, 0, none⟩ ∧ w.cell? ⟨g, i, none⟩ = some (.slice Ai q.length ci) ∧ Rd1 nv w w.heap.size Ai q := by
  obtain ⟨vs, a, b⟩ := h
  have hi := (List.getElem?_eq_some_iff.1 hq).1
  obtain ⟨g, cap, hv, _⟩ := own_form a (by omega)
  injection hv with h1 h2 h3
  subst h1 h3
  obtain ⟨v, h4, h5⟩ := b.2 i q hq
  obtain ⟨Ai, ci, e, hr, _⟩ := own_rd1 h5
  subst e
  have hc := a.cells (g := g) rfl i _ h4
  rw [add_bk] at hc
  exact ⟨g, Ai, ci, rfl, hc, hr⟩
end
theorem cutsTop_any (n : Nat) (hn : n ≤ 8) (V : World) : Calls Try.prog 86 #[.slice none 0 0, .int .i64 0, .int .i64 n] V fun e w' => Below V.heap.size V w' ∧ ∃ A c, e = .returned (.slice A (allCuts n).length c) ∧ CutsIn w' A c (allCuts n) := by
  have := cuts86_any n hn n [] 0 none 0 V (by simp) (by simp) (World.ownsRow_nil _ _ _ _)
  refine this.mono fun e w' ⟨h1, A, c, vs, h2, h3, h4⟩ => ⟨h1, A, c, h2, vs, own_zero h3, h4⟩
theorem allCuts_len {n : Nat} (hn : n ≤ 8) : (allCuts n).length ≤ 16777216 := by
  have h1 := cutsP_len n [] 0 (by omega)
  have h2 : 8 ^ n ≤ 8 ^ 8 := Nat.pow_le_pow_right (by decide) hn
  exact Nat.le_trans h1 (Nat.le_trans h2 (by decide))
/-- What the reference asks of a cut. -/
def qualR (h : Hul) (l : List Wgh) (m : Nat) (q : List Nat) : Bool := decide (manyTo (pad q) q.length = m) && (decide (0 ≤ heavyV h l q) && decide (heavyV h l q * h.shi ≤ 1000 * h.winch))
def FewRefPost (h : Hul) (l : List Wgh) (w : World) (e : Ending) (w' : World) : Prop :=
  Below w.heap.size w w' ∧ ((openE h l ≠ 0 ∧ e = .returned (.tuple #[.slice none 0 0, iv (openE h l)])) ∨ (openE h l = 0 ∧
    ((∃ (m i : Nat) (q : List Nat) (A : Option Addr) (c : Nat), m ≤ h.ps.length ∧ (allCuts h.ps.length)[i]? = some q ∧ (∀ m', m' < m → ∀ q' ∈ allCuts h.ps.length, qualR h l m' q' = false) ∧ (∀ j, j < i → ∀ q', (allCuts h.ps.length)[j]? = some q' → qualR h l m q' = false) ∧ qualR h l m q = true ∧ e = .returned (.tuple #[.slice A q.length c, iv 0]) ∧ Rd1 nv w' w'.heap.size A q) ∨
     ((∀ m', m' ≤ h.ps.length → ∀ q' ∈ allCuts h.ps.length, qualR h l m' q' = false) ∧ e = .returned (.tuple #[.slice none 0 0, iv 9])))))
theorem qualR_zero {h : Hul} {l : List Wgh} (hn : 1 ≤ h.ps.length) {q : List Nat} (hq : q ∈ allCuts h.ps.length) : qualR h l 0 q = false := by
  obtain ⟨a, b⟩ := allCuts_mem.1 hq
  have := many_pos (q := q) rfl (by omega)
  unfold qualR
  rw [decide_eq_false (by omega)]
  rfl

set_option maxRecDepth 100000 in
set_option maxHeartbeats 8000000 in
theorem fewest31_any (h : Hul) (A J : Option Addr) (B cap capJ : Nat) (AL : Option Addr) (l : List Wgh) (capL : Nat) (w : World)
    (hH : HulRd w B h A cap J capJ) (hL : RdN 3 encWgh w B AL l) (hlm : l.length ≤ maxLen) (hB : B ≤ w.heap.size) :
    Calls Try.prog 31 #[hv h A cap J capJ, .slice AL l.length capL] w (FewRefPost h l w) := by
  obtain ⟨W1, hW1, hb0, hzz, p0, p1, p2, p3, p4⟩ := hulBox w h A cap J capJ
  have HKB : Hid (∀ W, Below W1.heap.size W1 W → W.cell? ⟨w.heap.size, 0, none⟩ = some (.slice A h.ps.length cap) ∧ W.cell? ⟨w.heap.size, 1, none⟩ = some (.slice J h.js.length capJ) ∧ W.cell? ⟨w.heap.size, 2, none⟩ = some (.int .i64 h.slo) ∧ W.cell? ⟨w.heap.size, 3, none⟩ = some (.int .i64 h.shi) ∧ W.cell? ⟨w.heap.size, 4, none⟩ = some (.int .i64 h.winch)) := Lib.hid fun W hb => ⟨keepC hb p0, keepC hb p1, keepC hb p2, keepC hb p3, keepC hb p4⟩
  have hBz : B ≤ W1.heap.size := Nat.le_trans hB hb0.size
  have HH := Lib.hid (hH.below hb0 hB)
  have HL := Lib.hid (hL.below hb0 hB)
  have HB0 := Lib.hid hb0
  have HWC := Lib.hid (weighings_any h A J B cap capJ AL l capL W1 HH.out HL.out hlm hBz)
  clear hb0 hH hL hlm hzz
  by_cases hop : openE h l = 0
  case neg =>
    obtain ⟨E, hE⟩ : ∃ E, openE h l = E := ⟨_, rfl⟩
    have HE := Lib.hid hE
    rw [hE] at hop HWC
    have hcb : (E != 0) = true := by simpa using hop
    clear hE
    go_enter Try.func31, Try.ntmps31
    go_wp2_with fail
    refine HWC.out.mono ?_
    rintro e w1 ⟨rfl, hb3⟩
    have HB3 := Lib.hid hb3
    clear hb3 hW1 p0 p1 p2 p3 p4
    go_wp2_with fail
    go_ret2
    exact ⟨belowT HB0.out HB3.out, .inl ⟨by rw [HE.out]; exact hop, by rw [HE.out]; rfl⟩⟩
  obtain ⟨hp, hf⟩ := openE_zero_iff hop
  have hk := hulOk (openPre_zero hp).1
  have hwo := wghsOk hp
  have hn8 := hk.n8
  have hn1 := hk.n1
  have hr := pre_right hp
  have hs1 := hr.s1
  have hs2 := hr.s2
  have hs3 := hr.s3
  have hw1 := hr.w1
  have hw2 := hr.w2
  rw [hop] at HWC
  have hpw : 2 ^ h.ps.length ≤ 256 := Nat.pow_le_pow_right (n := 2) (by decide) hn8
  have hc85 : ∀ V, Below W1.heap.size W1 V → Calls Try.prog 85 #[hv h A cap J capJ, .slice AL l.length capL] V fun e w' => Below V.heap.size V w' ∧ ∃ A' c', e = .returned (.slice A' (2 ^ h.ps.length) c') ∧ Rd1 iv w' w'.heap.size A' (rowF (hangW h l) (2 ^ h.ps.length)) := fun V hb => hanging85_any h A J B cap capJ AL l capL V (HH.out.below hb hBz) hk (HL.out.below hb hBz) hwo (Nat.le_trans hBz hb.size)
  have hc86 := cutsTop_any h.ps.length hn8
  have hllen := allCuts_len hn8
  have hc87 : ∀ (V : World) (HA QA : Option Addr) (hc qc : Nat) (q : List Nat), q ∈ allCuts h.ps.length → Rd1 iv V V.heap.size HA (rowF (hangW h l) (2 ^ h.ps.length)) → Rd1 nv V V.heap.size QA q → Calls Try.prog 87 #[.slice HA (2 ^ h.ps.length) hc, .slice QA q.length qc] V fun e w' => e = .returned (iv (heavyV h l q)) ∧ Below V.heap.size V w' := fun V HA QA hc qc q hq h1 h2 => by
    obtain ⟨a, b⟩ := allCuts_mem.1 hq
    refine heavy87_any (hangW h l) (2 ^ h.ps.length) HA QA hc qc q V.heap.size V (by omega) b (fun x hx => ?_) h1 h2 (Nat.le_refl _)
    obtain ⟨j, hj, rfl⟩ := (rowB_mem (by omega) b).1 hx
    rw [← a]
    exact blkAt_lt j
  have hc49 : ∀ (V : World) (QA : Option Addr) (qc : Nat) (q : List Nat), q ∈ allCuts h.ps.length → Rd1 nv V V.heap.size QA q → Calls Try.prog 49 #[.slice QA q.length qc] V fun e w' => Below V.heap.size V w' ∧ ∃ A cap, e = .returned (.slice A (manyTo (pad q) q.length) cap) := fun V QA qc q hq h2 => by
    obtain ⟨a, b⟩ := allCuts_mem.1 hq
    exact (blocks49_any V.heap.size QA q qc V (by omega) b h2 (Nat.le_refl _)).mono fun e w' ⟨x, A, c, y, _⟩ => ⟨x, A, c, y⟩
  have hvb : ∀ q ∈ allCuts h.ps.length, -1 ≤ heavyV h l q ∧ heavyV h l q ≤ 800000 ∧ manyTo (pad q) q.length ≤ 8 := fun q hq => by
    obtain ⟨a, b⟩ := allCuts_mem.1 hq
    have := heavyV_bd hp hf a b
    have := grow_le_k b q.length (Nat.le_refl _)
    omega
  have HQR : Hid (∀ m q, qualR h l m q = (decide (manyTo (pad q) q.length = m) && (decide (0 ≤ heavyV h l q) && decide (heavyV h l q * h.shi ≤ 1000 * h.winch)))) := Lib.hid fun _ _ => rfl
  have HFIN : Hid (∀ e w', Below w.heap.size w w' → ((∃ (m i : Nat) (q : List Nat) (A : Option Addr) (c : Nat), m ≤ h.ps.length ∧ (allCuts h.ps.length)[i]? = some q ∧ (∀ m', m' < m → ∀ q' ∈ allCuts h.ps.length, qualR h l m' q' = false) ∧ (∀ j, j < i → ∀ q', (allCuts h.ps.length)[j]? = some q' → qualR h l m q' = false) ∧ qualR h l m q = true ∧ e = .returned (.tuple #[.slice A q.length c, iv 0]) ∧ Rd1 nv w' w'.heap.size A q) ∨
     ((∀ m', m' ≤ h.ps.length → ∀ q' ∈ allCuts h.ps.length, qualR h l m' q' = false) ∧ e = .returned (.tuple #[.slice none 0 0, iv 9]))) → FewRefPost h l w e w') := Lib.hid fun e w' a b => ⟨a, .inr ⟨hop, b⟩⟩
  have HQ0 : Hid (∀ q ∈ allCuts h.ps.length, qualR h l 0 q = false) := Lib.hid fun q hq => qualR_zero hn1 hq
  obtain ⟨QR, hQR⟩ : ∃ Q, qualR h l = Q := ⟨_, rfl⟩
  obtain ⟨HVV, hHV⟩ : ∃ Q, heavyV h l = Q := ⟨_, rfl⟩
  obtain ⟨F, hF⟩ : ∃ Q, hangW h l = Q := ⟨_, rfl⟩
  obtain ⟨P, hP⟩ : ∃ P, 2 ^ h.ps.length = P := ⟨_, rfl⟩
  obtain ⟨L, hL⟩ : ∃ L, allCuts h.ps.length = L := ⟨_, rfl⟩
  rw [hF, hP] at hc85
  rw [hF, hP, hHV, hL] at hc87
  rw [hL] at hc86 hllen hc49
  rw [hHV, hL] at hvb
  rw [hHV, hQR] at HQR
  rw [hQR, hL] at HFIN HQ0
  have HC85 := Lib.hid hc85
  have HC86 := Lib.hid hc86
  have HC87 := Lib.hid hc87
  have HC49 := Lib.hid hc49
  have HVB := Lib.hid hvb
  have hws : w.heap.size < W1.heap.size := lt_of_cell p0
  clear hp hf hk hwo hr hop hpw hc85 hc86 hc87 hc49 hvb hQR hHV hF hP hL HH HL
  go_enter Try.func31, Try.ntmps31
  go_wp2_with fail
  refine HWC.out.mono ?_
  rintro e w1 ⟨rfl, hb3⟩
  have HB3 := Lib.hid hb3
  clear hb3 hW1 p0 p1 p2 p3 p4 HWC
  go_wp2_with fail
  have HBD0 := Lib.hid (belowDq (belowR w1))
  have HBD := Lib.hid (belowT HB3.out HBD0.out)
  go_region_held3 (fun W => W.cell? ⟨w.heap.size, 0, none⟩ = some (.slice A h.ps.length cap) ∧ W.cell? ⟨w.heap.size, 1, none⟩ = some (.slice J h.js.length capJ) ∧ W.cell? ⟨w.heap.size, 2, none⟩ = some (.int .i64 h.slo) ∧ W.cell? ⟨w.heap.size, 3, none⟩ = some (.int .i64 h.shi) ∧ W.cell? ⟨w.heap.size, 4, none⟩ = some (.int .i64 h.winch)) (first | exact HKB.out _ HBD.out | exact HKB.out _ HB4.out | exact HKB.out _ HB5.out) (((first | (go_at_call 85; ((with_reducible refine (HC85.out _ HBD.out).mono ?_); rintro e w4 ⟨hb4, A4, c4, rfl, hr4⟩; have HB40 := Lib.hid (belowT HBD0.out hb4); have HB4 := Lib.hid (belowT HB3.out HB40.out); have HR4 := Lib.hid hr4; clear hb4 hr4)) | (go_at_call 86; ((with_reducible refine (HC86.out _).mono ?_); rintro e w5 ⟨hb5, A5, c5, rfl, hcu5⟩; have HB50 := Lib.hid (belowT HB40.out hb5); have HB5 := Lib.hid (belowT HB3.out HB50.out); have HR5 := Lib.hid ((HR4.out.below hb5 (Nat.le_refl _)).more hb5.size); have HCU := Lib.hid hcu5; clear hb5 hcu5)))))
  go_wp2_with fail
  have HRR := Lib.hid HR5.out
  go_loopw [9] (fun vm wr => ∃ m : Nat, 1 ≤ m ∧ m ≤ h.ps.length + 1 ∧ vm = .int .i64 m ∧ Hid (∀ m', m' < m → ∀ q' ∈ L, QR m' q' = false) ∧ Hid (Below w5.heap.size w5 wr)) (fun vm _ => h.ps.length + 1 - (intOf vm).toNat)
  case atStart => exact ⟨1, Nat.le_refl _, by omega, rfl, Lib.hid (fun m' hm' => (show m' = 0 from by omega) ▸ HQ0.out), Lib.hid (belowR _)⟩
  case round =>
    obtain ⟨m, h1m, hm, rfl, HM, HBR⟩ := hrel
    obtain ⟨p0, p1, p2, p3, p4⟩ := HKB.out _ (belowT HB5.out HBR.out)
    by_cases hlm : m ≤ h.ps.length
    · have hle : (m : Int) ≤ (h.ps.length : Int) := by omega
      have hled : decide ((m : Int) ≤ (h.ps.length : Int)) = true := decide_eq_true hle
      go_wp2_with fail
      clear p0 p1 p2 p3 p4 hle hled
      go_loopw [10] (fun vi w2 => ∃ i : Nat, i ≤ L.length ∧ vi = .int .i64 i ∧ Hid (∀ j, j < i → ∀ q', L[j]? = some q' → QR m q' = false) ∧ Hid (Below w5.heap.size w5 w2)) (fun vi _ => L.length - (intOf vi).toNat)
      case atStart => exact ⟨0, Nat.zero_le _, rfl, Lib.hid (fun j hj => by omega), HBR⟩
      case round =>
        obtain ⟨i, hi, rfl, HI, HBR2⟩ := hrel
        by_cases hlt : i < L.length
        · obtain ⟨q, hq⟩ : ∃ q, L[i]? = some q := ⟨_, List.getElem?_eq_getElem hlt⟩
          obtain ⟨g, Ai, ci, rfl, d0, hrq⟩ := (HCU.out.below HBR2.out).at hq
          have hqm := List.mem_of_getElem? hq
          have HQM := Lib.hid hqm
          have HQ := Lib.hid hq
          have HRQ := Lib.hid hrq
          have HD0 := Lib.hid d0
          have HR4W := Lib.hid ((HRR.out.below HBR2.out (Nat.le_refl _)).more HBR2.out.size)
          obtain ⟨v1, v2, v3⟩ := HVB.out q hqm
          have hqr := HQR.out m q
          obtain ⟨V, hV⟩ : ∃ V, HVV q = V := ⟨_, rfl⟩
          obtain ⟨mt, hMT⟩ : ∃ mt, manyTo (pad q) q.length = mt := ⟨_, rfl⟩
          rw [hV] at v1 v2 hqr
          rw [hMT] at v3 hqr
          have HNX : Hid (QR m q = false → ∀ j, j < i + 1 → ∀ q', L[j]? = some q' → QR m q' = false) := Lib.hid fun hf j hj q' hq' => by
            rcases Nat.lt_or_ge j i with h1 | h1
            · exact HI.out j h1 q' hq'
            · obtain rfl : j = i := by omega
              rw [HQ.out] at hq'
              injection hq' with hq'
              subst hq'
              exact hf
          have hi0 : (0 : Int) ≤ (i : Int) := by omega
          have hiz : (i : Int) < (L.length : Int) := by omega
          clear hq hqm hrq
          go_wp2_with fail
          clear d0
          refine (HC87.out _ A4 Ai c4 ci q HQM.out HR4W.out HRQ.out).mono ?_
          rintro e x1 ⟨rfl, hb⟩
          have X1 := Lib.hid hb
          have d0 : x1.cell? ⟨g, i, none⟩ = some (.slice Ai q.length ci) := (hb.cell (p := ⟨g, i, none⟩) (lt_of_cell HD0.out)).trans HD0.out
          clear hb
          rw [hV]
          go_wp2_with fail
          refine (HC49.out x1 Ai ci q HQM.out ((HRQ.out.below X1.out (Nat.le_refl _)).more X1.out.size)).mono ?_
          rintro e x2 ⟨hb, A7, c7, rfl⟩
          have X2 := Lib.hid (belowT X1.out hb)
          have d1 : x2.cell? ⟨g, i, none⟩ = some (.slice Ai q.length ci) := (hb.cell (p := ⟨g, i, none⟩) (lt_of_cell d0)).trans d0
          have HBX := Lib.hid (belowT HBR2.out X2.out)
          clear hb
          rw [hMT]
          obtain ⟨p0, p1, p2, p3, p4⟩ := HKB.out _ (belowT HB5.out HBX.out)
          clear hV hMT
          by_cases hmt : mt = m
          case neg =>
            have hqf : QR m q = false := by rw [hqr, decide_eq_false hmt]; rfl
            have HN := Lib.hid (HNX.out hqf)
            have hb1 : ((mt : Int) == (m : Int)) = false := by rw [beq_eq_false_iff_ne]; omega
            clear hqr hqf HNX
            go_wp2_with fail
            go_roundw
            case rel => exact ⟨i + 1, by omega, by go_num, HN, HBX⟩
            case measure => simp [intOf]; omega
          case pos =>
            subst hmt
            have hb1 : ((mt : Int) == (mt : Int)) = true := by simp
            by_cases hv0 : 0 ≤ V
            case neg =>
              have hqf : QR mt q = false := by rw [hqr, decide_eq_false hv0, decide_eq_true rfl]; rfl
              have HN := Lib.hid (HNX.out hqf)
              have hb2 : decide (0 ≤ V) = false := decide_eq_false hv0
              clear hqr hqf HNX
              go_wp2_with fail
              go_roundw
              case rel => exact ⟨i + 1, by omega, by go_num, HN, HBX⟩
              case measure => simp [intOf]; omega
            case pos =>
              have hb2 : decide (0 ≤ V) = true := decide_eq_true hv0
              obtain ⟨X, hX⟩ : ∃ X, V * h.shi = X := ⟨_, rfl⟩
              have hx0 : 0 ≤ X := by rw [← hX]; exact Int.mul_nonneg hv0 (by omega)
              have hx1 : X ≤ 800000 * 2000 := by rw [← hX]; exact Int.mul_le_mul v2 hs3 (by omega) (by omega)
              have hwx : IntKind.i64.wrap (V * h.shi) = X := by rw [hX, IntKind.wrap_i64]; omega
              have hwy : IntKind.i64.wrap (1000 * h.winch) = 1000 * h.winch := by rw [IntKind.wrap_i64]; omega
              rw [hX, decide_eq_true rfl, hb2, Bool.true_and, Bool.true_and] at hqr
              by_cases hxy : X ≤ 1000 * h.winch
              case neg =>
                have hb3 : decide (X ≤ 1000 * h.winch) = false := decide_eq_false hxy
                have hqf : QR mt q = false := by rw [hqr, hb3]
                have HN := Lib.hid (HNX.out hqf)
                clear hqr hqf HNX hX
                go_wp2_with fail
                go_roundw
                case rel => exact ⟨i + 1, by omega, by go_num, HN, HBX⟩
                case measure => simp [intOf]; omega
              case pos =>
                have hb3 : decide (X ≤ 1000 * h.winch) = true := decide_eq_true hxy
                have HQT : Hid (QR mt q = true) := Lib.hid (by rw [hqr, hb3])
                clear hqr HNX hX
                go_wp2_with fail
                go_ret2
                exact HFIN.out _ _ (belowT HB0.out (belowT HB5.out HBX.out)) (.inl ⟨mt, i, q, Ai, ci, hlm, HQ.out, HM.out, HI.out, HQT.out, rfl, (HRQ.out.below X2.out (Nat.le_refl _)).more X2.out.size⟩)
        · obtain rfl : i = L.length := by omega
          have hil : ¬ ((L.length : Int) < (L.length : Int)) := by omega
          have HM2 : Hid (∀ m', m' < m + 1 → ∀ q' ∈ L, QR m' q' = false) := Lib.hid fun m' hm' q' hq' => by
            rcases Nat.lt_or_ge m' m with h1 | h1
            · exact HM.out m' h1 q' hq'
            · obtain rfl : m' = m := by omega
              obtain ⟨j, hj⟩ := List.getElem?_of_mem hq'
              exact HI.out j (List.getElem?_eq_some_iff.1 hj).1 q' hj
          go_wp2_with fail
          go_roundw
          case rel => exact ⟨m + 1, by omega, by omega, by go_num, HM2, HBR2⟩
          case measure => simp [intOf]; omega
    · obtain rfl : m = h.ps.length + 1 := by omega
      have hle : ¬ ((h.ps.length : Int) + 1 ≤ (h.ps.length : Int)) := by omega
      have hled : decide ((h.ps.length : Int) + 1 ≤ (h.ps.length : Int)) = false := decide_eq_false hle
      go_wp2_with fail
      go_ret2
      exact HFIN.out _ _ (belowT HB0.out (belowT HB5.out HBR.out)) (.inr ⟨fun m' hm' => HM.out m' (by omega), rfl⟩)
end Go.Proofs.Ytojgdallodmanaa

namespace Go.Proofs.Ytojgdallodmanaa
open Go.RowKit

/-- The lightest heaviest block of all cuts into so many blocks. -/
def bestOf (h : Hul) (l : List Wgh) (b : Nat) : Int := bestTo (heavyV h l) (fun q => decide (manyTo (pad q) q.length ≤ b)) (allCuts h.ps.length) (allCuts h.ps.length).length
set_option maxRecDepth 100000 in
set_option maxHeartbeats 8000000 in
theorem lightest90_any (h : Hul) (A J : Option Addr) (B cap capJ : Nat) (AL : Option Addr) (l : List Wgh) (capL b : Nat) (w : World)
    (hH : HulRd w B h A cap J capJ) (hL : RdN 3 encWgh w B AL l) (hp : openPre h l = 0) (hf : Feas h l) (hB : B ≤ w.heap.size) :
    Calls Try.prog 90 #[hv h A cap J capJ, .slice AL l.length capL, .int .i64 b] w fun e w' => e = .returned (iv (bestOf h l b)) ∧ Below w.heap.size w w' := by
  obtain ⟨W1, hW1, hb0, hzz, p0, p1, p2, p3, p4⟩ := hulBox w h A cap J capJ
  have HKB : Hid (∀ W, Below W1.heap.size W1 W → W.cell? ⟨w.heap.size, 0, none⟩ = some (.slice A h.ps.length cap) ∧ W.cell? ⟨w.heap.size, 1, none⟩ = some (.slice J h.js.length capJ) ∧ W.cell? ⟨w.heap.size, 2, none⟩ = some (.int .i64 h.slo) ∧ W.cell? ⟨w.heap.size, 3, none⟩ = some (.int .i64 h.shi) ∧ W.cell? ⟨w.heap.size, 4, none⟩ = some (.int .i64 h.winch)) := Lib.hid fun W hb => ⟨keepC hb p0, keepC hb p1, keepC hb p2, keepC hb p3, keepC hb p4⟩
  have HB0 := Lib.hid hb0
  have hk := hulOk (openPre_zero hp).1
  have hwo := wghsOk hp
  have hn8 := hk.n8
  have hn1 := hk.n1
  have hpw : 2 ^ h.ps.length ≤ 256 := Nat.pow_le_pow_right (n := 2) (by decide) hn8
  have hc85 : ∀ V, Below W1.heap.size W1 V → Calls Try.prog 85 #[hv h A cap J capJ, .slice AL l.length capL] V fun e w' => Below V.heap.size V w' ∧ ∃ A' c', e = .returned (.slice A' (2 ^ h.ps.length) c') ∧ Rd1 iv w' w'.heap.size A' (rowF (hangW h l) (2 ^ h.ps.length)) := fun V hb => hanging85_any h A J B cap capJ AL l capL V (hH.below (belowT hb0 hb) hB) hk (hL.below (belowT hb0 hb) hB) hwo (Nat.le_trans hB (belowT hb0 hb).size)
  have hc86 := cutsTop_any h.ps.length hn8
  have hllen := allCuts_len hn8
  have hc87 : ∀ (V : World) (HA QA : Option Addr) (hc qc : Nat) (q : List Nat), q ∈ allCuts h.ps.length → Rd1 iv V V.heap.size HA (rowF (hangW h l) (2 ^ h.ps.length)) → Rd1 nv V V.heap.size QA q → Calls Try.prog 87 #[.slice HA (2 ^ h.ps.length) hc, .slice QA q.length qc] V fun e w' => e = .returned (iv (heavyV h l q)) ∧ Below V.heap.size V w' := fun V HA QA hc qc q hq h1 h2 => by
    obtain ⟨a, b⟩ := allCuts_mem.1 hq
    refine heavy87_any (hangW h l) (2 ^ h.ps.length) HA QA hc qc q V.heap.size V (by omega) b (fun x hx => ?_) h1 h2 (Nat.le_refl _)
    obtain ⟨j, hj, rfl⟩ := (rowB_mem (by omega) b).1 hx
    rw [← a]
    exact blkAt_lt j
  have hc49 : ∀ (V : World) (QA : Option Addr) (qc : Nat) (q : List Nat), q ∈ allCuts h.ps.length → Rd1 nv V V.heap.size QA q → Calls Try.prog 49 #[.slice QA q.length qc] V fun e w' => Below V.heap.size V w' ∧ ∃ A cap, e = .returned (.slice A (manyTo (pad q) q.length) cap) := fun V QA qc q hq h2 => by
    obtain ⟨a, b⟩ := allCuts_mem.1 hq
    exact (blocks49_any V.heap.size QA q qc V (by omega) b h2 (Nat.le_refl _)).mono fun e w' ⟨x, A, c, y, _⟩ => ⟨x, A, c, y⟩
  have hvb : ∀ q ∈ allCuts h.ps.length, -1 ≤ heavyV h l q ∧ heavyV h l q ≤ 800000 ∧ manyTo (pad q) q.length ≤ 8 := fun q hq => by
    obtain ⟨a, b⟩ := allCuts_mem.1 hq
    have := heavyV_bd hp hf a b
    have := grow_le_k b q.length (Nat.le_refl _)
    omega
  unfold bestOf
  have HST0 : Hid (∀ i q, (allCuts h.ps.length)[i]? = some q → bestTo (heavyV h l) (fun q => decide (manyTo (pad q) q.length ≤ b)) (allCuts h.ps.length) (i + 1) = if decide (manyTo (pad q) q.length ≤ b) && (decide (0 ≤ heavyV h l q) && (decide (bestTo (heavyV h l) (fun q => decide (manyTo (pad q) q.length ≤ b)) (allCuts h.ps.length) i < 0) || decide (heavyV h l q < bestTo (heavyV h l) (fun q => decide (manyTo (pad q) q.length ≤ b)) (allCuts h.ps.length) i))) then heavyV h l q else bestTo (heavyV h l) (fun q => decide (manyTo (pad q) q.length ≤ b)) (allCuts h.ps.length) i) := Lib.hid fun i q hq => by
    rw [bestTo, hq]
  have HBS : Hid (∀ _i : Nat, bestTo (heavyV h l) (fun q => decide (manyTo (pad q) q.length ≤ b)) (allCuts h.ps.length) 0 = -1) := Lib.hid fun _ => rfl
  obtain ⟨BT, hBT⟩ : ∃ Q, bestTo (heavyV h l) (fun q => decide (manyTo (pad q) q.length ≤ b)) (allCuts h.ps.length) = Q := ⟨_, rfl⟩
  rw [hBT] at HST0 HBS ⊢
  obtain ⟨HVV, hHV⟩ : ∃ Q, heavyV h l = Q := ⟨_, rfl⟩
  obtain ⟨F, hF⟩ : ∃ Q, hangW h l = Q := ⟨_, rfl⟩
  obtain ⟨P, hP⟩ : ∃ P, 2 ^ h.ps.length = P := ⟨_, rfl⟩
  obtain ⟨L, hL'⟩ : ∃ L, allCuts h.ps.length = L := ⟨_, rfl⟩
  rw [hF, hP] at hc85
  rw [hF, hP, hHV, hL'] at hc87
  rw [hL'] at hc86 hllen hc49 ⊢
  rw [hHV, hL'] at hvb HST0
  have HC85 := Lib.hid hc85
  have HC86 := Lib.hid hc86
  have HC87 := Lib.hid hc87
  have HC49 := Lib.hid hc49
  have HVB := Lib.hid hvb
  have hws : w.heap.size < W1.heap.size := lt_of_cell p0
  clear hp hf hk hwo hpw hc85 hc86 hc87 hc49 hvb hHV hF hP hL' hH hL hBT hb0 hzz hB
  go_enter Try.func90, Try.ntmps90
  go_wp2_with fail
  clear hW1 p0 p1 p2 p3 p4
  have HBD0 := Lib.hid (belowDq (belowR W1))
  have HBD := Lib.hid (belowT (belowR W1) HBD0.out)
  go_region_held3 (fun W => W.cell? ⟨w.heap.size, 0, none⟩ = some (.slice A h.ps.length cap) ∧ W.cell? ⟨w.heap.size, 1, none⟩ = some (.slice J h.js.length capJ) ∧ W.cell? ⟨w.heap.size, 2, none⟩ = some (.int .i64 h.slo) ∧ W.cell? ⟨w.heap.size, 3, none⟩ = some (.int .i64 h.shi) ∧ W.cell? ⟨w.heap.size, 4, none⟩ = some (.int .i64 h.winch)) (first | exact HKB.out _ HBD.out | exact HKB.out _ HB4.out | exact HKB.out _ HB5.out) (((first | (go_at_call 85; ((with_reducible refine (HC85.out _ HBD.out).mono ?_); rintro e w4 ⟨hb4, A4, c4, rfl, hr4⟩; have HB40 := Lib.hid (belowT HBD0.out hb4); have HB4 := Lib.hid (HB40.out); have HR4 := Lib.hid hr4; clear hb4 hr4)) | (go_at_call 86; ((with_reducible refine (HC86.out _).mono ?_); rintro e w5 ⟨hb5, A5, c5, rfl, hcu5⟩; have HB50 := Lib.hid (belowT HB40.out hb5); have HB5 := Lib.hid (HB50.out); have HR5 := Lib.hid ((HR4.out.below hb5 (Nat.le_refl _)).more hb5.size); have HCU := Lib.hid hcu5; clear hb5 hcu5)))))
  go_wp2_with fail
  have HRR := Lib.hid HR5.out
  go_loopw [9, 10] (fun vb vi wr => ∃ i : Nat, i ≤ L.length ∧ vi = .int .i64 i ∧ vb = iv (BT i) ∧ Hid (Below w5.heap.size w5 wr)) (fun _ vi _ => L.length - (intOf vi).toNat)
  case atStart => exact ⟨0, Nat.zero_le _, rfl, by rw [HBS.out 0], Lib.hid (belowR _)⟩
  case round =>
        obtain ⟨i, hi, rfl, rfl, HBR2⟩ := hrel
        by_cases hlt : i < L.length
        · obtain ⟨q, hq⟩ : ∃ q, L[i]? = some q := ⟨_, List.getElem?_eq_getElem hlt⟩
          obtain ⟨g, Ai, ci, rfl, d0, hrq⟩ := (HCU.out.below HBR2.out).at hq
          have hqm := List.mem_of_getElem? hq
          have HQM := Lib.hid hqm
          have HRQ := Lib.hid hrq
          have HD0 := Lib.hid d0
          have HR4W := Lib.hid ((HRR.out.below HBR2.out (Nat.le_refl _)).more HBR2.out.size)
          obtain ⟨v1, v2, v3⟩ := HVB.out q hqm
          have hst := HST0.out i q hq
          obtain ⟨V, hV⟩ : ∃ V, HVV q = V := ⟨_, rfl⟩
          obtain ⟨mt, hMT⟩ : ∃ mt, manyTo (pad q) q.length = mt := ⟨_, rfl⟩
          obtain ⟨bt, hbt⟩ : ∃ mt, BT i = mt := ⟨_, rfl⟩
          rw [hV, hMT, hbt] at hst
          rw [hV] at v1 v2
          rw [hMT] at v3
          rw [hbt]
          have hi0 : (0 : Int) ≤ (i : Int) := by omega
          have hiz : (i : Int) < (L.length : Int) := by omega
          clear hq hqm hrq hbt
          go_wp2_with fail
          clear d0
          refine (HC87.out _ A4 Ai c4 ci q HQM.out HR4W.out HRQ.out).mono ?_
          rintro e x1 ⟨rfl, hb⟩
          have X1 := Lib.hid hb
          have d0 : x1.cell? ⟨g, i, none⟩ = some (.slice Ai q.length ci) := (hb.cell (p := ⟨g, i, none⟩) (lt_of_cell HD0.out)).trans HD0.out
          clear hb
          rw [hV]
          go_wp2_with fail
          refine (HC49.out x1 Ai ci q HQM.out ((HRQ.out.below X1.out (Nat.le_refl _)).more X1.out.size)).mono ?_
          rintro e x2 ⟨hb, A7, c7, rfl⟩
          have X2 := Lib.hid (belowT X1.out hb)
          have d1 : x2.cell? ⟨g, i, none⟩ = some (.slice Ai q.length ci) := (hb.cell (p := ⟨g, i, none⟩) (lt_of_cell d0)).trans d0
          have HBX := Lib.hid (belowT HBR2.out X2.out)
          clear hb
          rw [hMT]
          clear hV hMT
          by_cases hmt : mt ≤ b
          case neg =>
            have hb1 : decide ((mt : Int) ≤ (b : Int)) = false := decide_eq_false (by omega)
            rw [decide_eq_false hmt, Bool.false_and, if_neg (by decide)] at hst
            have HST := Lib.hid hst
            clear hst
            go_wp2_with fail
            go_roundw
            case rel => exact ⟨i + 1, by omega, by go_num, by rw [HST.out], HBX⟩
            case measure => simp [intOf]; omega
          case pos =>
            have hb1 : decide ((mt : Int) ≤ (b : Int)) = true := decide_eq_true (by omega)
            rw [decide_eq_true hmt, Bool.true_and] at hst
            by_cases hv0 : 0 ≤ V
            case neg =>
              have hb2 : decide (0 ≤ V) = false := decide_eq_false hv0
              rw [hb2, Bool.false_and, if_neg (by decide)] at hst
              have HST := Lib.hid hst
              clear hst
              go_wp2_with fail
              go_roundw
              case rel => exact ⟨i + 1, by omega, by go_num, by rw [HST.out], HBX⟩
              case measure => simp [intOf]; omega
            case pos =>
              have hb2 : decide (0 ≤ V) = true := decide_eq_true hv0
              rw [hb2, Bool.true_and] at hst
              by_cases hbn : bt < 0
              case pos =>
                have hb3 : decide (bt < 0) = true := decide_eq_true hbn
                rw [hb3, Bool.true_or, if_pos rfl] at hst
                have HST := Lib.hid hst
                clear hst
                go_wp2_with fail
                go_roundw
                case rel => exact ⟨i + 1, by omega, by go_num, by rw [HST.out], HBX⟩
                case measure => simp [intOf]; omega
              case neg =>
                have hb3 : decide (bt < 0) = false := decide_eq_false hbn
                rw [hb3, Bool.false_or] at hst
                by_cases hvb : V < bt
                case pos =>
                  have hb4 : decide (V < bt) = true := decide_eq_true hvb
                  rw [hb4, if_pos rfl] at hst
                  have HST := Lib.hid hst
                  clear hst
                  go_wp2_with fail
                  go_roundw
                  case rel => exact ⟨i + 1, by omega, by go_num, by rw [HST.out], HBX⟩
                  case measure => simp [intOf]; omega
                case neg =>
                  have hb4 : decide (V < bt) = false := decide_eq_false hvb
                  rw [hb4, if_neg (by decide)] at hst
                  have HST := Lib.hid hst
                  clear hst
                  go_wp2_with fail
                  go_roundw
                  case rel => exact ⟨i + 1, by omega, by go_num, by rw [HST.out], HBX⟩
                  case measure => simp [intOf]; omega
        · obtain rfl : i = L.length := by omega
          have hil : ¬ ((L.length : Int) < (L.length : Int)) := by omega
          go_wp2_with fail
          go_ret
          exact ⟨rfl, belowT HB0.out (belowT HB5.out HBR2.out)⟩

noncomputable def countE (h : Hul) (l : List Wgh) (v : Int) : Int := if openE h l = 0 then (if 1 ≤ v ∧ v ≤ 8 then 0 else 7) else openE h l
set_option maxRecDepth 100000 in
set_option maxHeartbeats 2000000 in
theorem counted89_any (h : Hul) (A J : Option Addr) (B cap capJ : Nat) (AL : Option Addr) (l : List Wgh) (capL : Nat) (v : Int) (w : World)
    (hH : HulRd w B h A cap J capJ) (hL : RdN 3 encWgh w B AL l) (hlm : l.length ≤ maxLen) (hB : B ≤ w.heap.size) :
    Calls Try.prog 89 #[hv h A cap J capJ, .slice AL l.length capL, .int .i64 v] w fun e w' => e = .returned (iv (countE h l v)) ∧ Below w.heap.size w w' := by
  obtain ⟨W1, hW1, hb0, hzz, p0, p1, p2, p3, p4⟩ := hulBox w h A cap J capJ
  have HWC := Lib.hid (weighings_any h A J B cap capJ AL l capL W1 (hH.below hb0 hB) (hL.below hb0 hB) hlm (Nat.le_trans hB hb0.size))
  have HB0 := Lib.hid hb0
  have HCE : Hid (countE h l v = if openE h l = 0 then (if 1 ≤ v ∧ v ≤ 8 then 0 else 7) else openE h l) := Lib.hid rfl
  obtain ⟨E, hE⟩ : ∃ E, openE h l = E := ⟨_, rfl⟩
  rw [hE] at HWC HCE
  clear hb0 hH hL hzz hE hlm
  by_cases hE0 : E = 0
  · subst hE0
    rw [if_pos rfl] at HCE
    by_cases hv : 1 ≤ v ∧ v ≤ 8
    · have HIN := Lib.hid (show inB 1 8 v = true by unfold inB; simp; omega)
      go_enter Try.func89, Try.ntmps89
      go_wp2_with fail
      refine HWC.out.mono ?_
      rintro e w1 ⟨rfl, hb⟩
      have HB1 := Lib.hid hb
      clear hb hW1 p0 p1 p2 p3 p4
      go_wp2_with (go_at_call 59; refine (in_b HIN.out _).mono ?_; rintro e w' ⟨rfl, rfl⟩)
      go_ret
      exact ⟨by rw [HCE.out, if_pos hv]; rfl, belowT HB0.out HB1.out⟩
    · have HIN := Lib.hid (show inB 1 8 v = false by unfold inB; simp; omega)
      go_enter Try.func89, Try.ntmps89
      go_wp2_with fail
      refine HWC.out.mono ?_
      rintro e w1 ⟨rfl, hb⟩
      have HB1 := Lib.hid hb
      clear hb hW1 p0 p1 p2 p3 p4
      go_wp2_with (go_at_call 59; refine (in_b HIN.out _).mono ?_; rintro e w' ⟨rfl, rfl⟩)
      go_ret
      exact ⟨by rw [HCE.out, if_neg hv]; rfl, belowT HB0.out HB1.out⟩
  · have hcb : (E == 0) = false := by simpa using hE0
    go_enter Try.func89, Try.ntmps89
    go_wp2_with fail
    refine HWC.out.mono ?_
    rintro e w1 ⟨rfl, hb⟩
    have HB1 := Lib.hid hb
    clear hb hW1 p0 p1 p2 p3 p4
    go_wp2_with fail
    go_ret
    exact ⟨by rw [HCE.out, if_neg hE0]; rfl, belowT HB0.out HB1.out⟩

/-- What the reference answers for a number of blocks. -/
def RefCount (F : Nat → Int × Int) (h : Hul) (l : List Wgh) (v : Int) (w : World) (e : Ending) (w' : World) : Prop :=
  Below w.heap.size w w' ∧ ((countE h l v ≠ 0 ∧ e = .returned (.tuple #[iv 0, iv (countE h l v)])) ∨ (countE h l v = 0 ∧ ((bestOf h l v.toNat < 0 ∧ e = .returned (.tuple #[iv 0, iv 9])) ∨ (0 ≤ bestOf h l v.toNat ∧ e = .returned (.tuple #[iv (F (bestOf h l v.toNat).toNat).1, iv (F (bestOf h l v.toNat).toNat).2])))))
theorem countE_zero {h : Hul} {l : List Wgh} {v : Int} (hc : countE h l v = 0) : openE h l = 0 ∧ 1 ≤ v ∧ v ≤ 8 := by
  unfold countE at hc
  split at hc
  · rename_i h0
    split at hc
    · rename_i hv; exact ⟨h0, hv⟩
    · omega
  · rename_i h0; exact absurd hc h0
theorem bestOf_bd {h : Hul} {l : List Wgh} (hp : openPre h l = 0) (hf : Feas h l) (b : Nat) : -1 ≤ bestOf h l b ∧ bestOf h l b ≤ 800000 := by
  unfold bestOf
  rcases best_is (heavyV h l) (fun q => decide (manyTo (pad q) q.length ≤ b)) (allCuts h.ps.length) (allCuts h.ps.length).length with ⟨a, _⟩ | ⟨a, ⟨j, q, _, hq, _, e⟩, _⟩
  · omega
  · obtain ⟨c, d⟩ := allCuts_mem.1 (List.mem_of_getElem? hq)
    have := heavyV_bd hp hf c d
    omega
theorem sandOf_is {h : Hul} {L : Nat} (hw : 1 ≤ h.winch) (hL : (L : Int) ≤ 1000 * h.winch) : ∃ T : Int, sandOf h L = (T, 0) ∧ 0 ≤ T ∧ T ≤ 2000 ∧ (L : Int) * T ≤ 1000 * h.winch ∧ ∀ s : Int, T < s → s ≤ 2000 → 1000 * h.winch < (L : Int) * s := by
  unfold sandOf
  rw [if_neg (by omega)]
  by_cases h0 : L = 0
  · subst h0
    refine ⟨2000, rfl, by omega, by omega, by omega, fun s h1 h2 => by omega⟩
  · rw [if_neg h0, Int.tdiv_eq_ediv_of_nonneg (by omega)]
    have hq0 : 0 ≤ (1000 * h.winch) / (L : Int) := Int.ediv_nonneg (by omega) (by omega)
    have hq1 : (1000 * h.winch) / (L : Int) * L ≤ 1000 * h.winch := Int.ediv_mul_le _ (by omega)
    have hq2 := Int.lt_ediv_add_one_mul_self (1000 * h.winch) (show 0 < (L : Int) from by omega)
    obtain ⟨Q, hQ⟩ : ∃ Q, (1000 * h.winch) / (L : Int) = Q := ⟨_, rfl⟩
    rw [hQ] at hq0 hq1 hq2 ⊢
    refine ⟨min 2000 Q, rfl, by omega, by omega, ?_, fun s h1 h2 => ?_⟩
    · have : (L : Int) * min 2000 Q ≤ L * Q := Int.mul_le_mul_of_nonneg_left (by omega) (by omega)
      rw [Int.mul_comm (L : Int) Q] at this
      omega
    · have : (Q + 1) * L ≤ s * L := Int.mul_le_mul_of_nonneg_right (by omega) (by omega)
      rw [Int.mul_comm s] at this
      omega

set_option maxRecDepth 100000 in
set_option maxHeartbeats 4000000 in
theorem winch33_any (h : Hul) (A J : Option Addr) (B cap capJ : Nat) (AL : Option Addr) (l : List Wgh) (capL : Nat) (v : Int) (w : World)
    (hH : HulRd w B h A cap J capJ) (hL : RdN 3 encWgh w B AL l) (hlm : l.length ≤ maxLen) (hB : B ≤ w.heap.size) :
    Calls Try.prog 33 #[hv h A cap J capJ, .slice AL l.length capL, .int .i64 v] w (RefCount (winchOf h) h l v w) := by
  obtain ⟨W1, hW1, hb0, hzz, p0, p1, p2, p3, p4⟩ := hulBox w h A cap J capJ
  have HKB : Hid (∀ W, Below W1.heap.size W1 W → W.cell? ⟨w.heap.size, 0, none⟩ = some (.slice A h.ps.length cap) ∧ W.cell? ⟨w.heap.size, 1, none⟩ = some (.slice J h.js.length capJ) ∧ W.cell? ⟨w.heap.size, 2, none⟩ = some (.int .i64 h.slo) ∧ W.cell? ⟨w.heap.size, 3, none⟩ = some (.int .i64 h.shi) ∧ W.cell? ⟨w.heap.size, 4, none⟩ = some (.int .i64 h.winch)) := Lib.hid fun W hb => ⟨keepC hb p0, keepC hb p1, keepC hb p2, keepC hb p3, keepC hb p4⟩
  have HC89 := Lib.hid (counted89_any h A J B cap capJ AL l capL v W1 (hH.below hb0 hB) (hL.below hb0 hB) hlm (Nat.le_trans hB hb0.size))
  have HB0 := Lib.hid hb0
  by_cases hce : countE h l v = 0
  case neg =>
    have HFN : Hid (∀ e w', Below w.heap.size w w' → e = .returned (.tuple #[iv 0, iv (countE h l v)]) → RefCount (winchOf h) h l v w e w') := Lib.hid fun e w' a b => ⟨a, .inl ⟨hce, b⟩⟩
    obtain ⟨E, hE⟩ : ∃ E, countE h l v = E := ⟨_, rfl⟩
    rw [hE] at HC89 HFN hce
    have hcb : (E != 0) = true := by simpa using hce
    clear hE hb0 hH hL hzz hlm
    go_enter Try.func33, Try.ntmps33
    go_wp2_with fail
    refine HC89.out.mono ?_
    rintro e w1 ⟨rfl, hb⟩
    have HB1 := Lib.hid hb
    clear hb hW1 p0 p1 p2 p3 p4
    go_wp2_with fail
    go_ret2
    exact HFN.out _ _ (belowT HB0.out HB1.out) rfl
  obtain ⟨ho, hv1, hv8⟩ := countE_zero hce
  obtain ⟨hp, hf⟩ := openE_zero_iff ho
  obtain ⟨b, rfl⟩ : ∃ b : Nat, v = b := ⟨v.toNat, by omega⟩
  have hr := pre_right hp
  have hs1 := hr.s1
  have hs2 := hr.s2
  have hs3 := hr.s3
  have hw1 := hr.w1
  have hw2 := hr.w2
  have hbd := bestOf_bd hp hf b
  have hc90 : ∀ V, Below W1.heap.size W1 V → Calls Try.prog 90 #[hv h A cap J capJ, .slice AL l.length capL, .int .i64 b] V fun e w' => e = .returned (iv (bestOf h l b)) ∧ Below V.heap.size V w' := fun V hb => lightest90_any h A J B cap capJ AL l capL b V (hH.below (belowT hb0 hb) hB) (hL.below (belowT hb0 hb) hB) hp hf (Nat.le_trans hB (belowT hb0 hb).size)
  have HFN : Hid (∀ e w', Below w.heap.size w w' → ((bestOf h l b < 0 ∧ e = .returned (.tuple #[iv 0, iv 9])) ∨ (0 ≤ bestOf h l b ∧ e = .returned (.tuple #[iv (winchOf h (bestOf h l b).toNat).1, iv (winchOf h (bestOf h l b).toNat).2]))) → RefCount (winchOf h) h l b w e w') := Lib.hid fun e w' x y => ⟨x, .inr ⟨hce, y⟩⟩
  rw [hce] at HC89
  obtain ⟨V, hV⟩ : ∃ V, bestOf h l b = V := ⟨_, rfl⟩
  rw [hV] at hbd hc90 HFN
  obtain ⟨hb1, hb2⟩ := hbd
  have HC90 := Lib.hid hc90
  clear hV hc90 hr hp hf ho hce hb0 hH hL hzz hlm
  go_enter Try.func33, Try.ntmps33
  go_wp2_with fail
  refine HC89.out.mono ?_
  rintro e w1 ⟨rfl, hb⟩
  have HB1 := Lib.hid hb
  clear hb hW1 p0 p1 p2 p3 p4
  obtain ⟨p0, p1, p2, p3, p4⟩ := HKB.out _ HB1.out
  go_wp2_with fail
  refine (HC90.out _ HB1.out).mono ?_
  rintro e w2 ⟨rfl, hb⟩
  have HB2 := Lib.hid (belowT HB1.out hb)
  clear hb p0 p1 p2 p3 p4
  obtain ⟨p0, p1, p2, p3, p4⟩ := HKB.out _ HB2.out
  by_cases hv0 : V < 0
  case pos =>
    have hd : decide (V < 0) = true := decide_eq_true hv0
    go_wp2_with fail
    go_ret2
    exact HFN.out _ _ (belowT HB0.out HB2.out) (.inl ⟨hv0, rfl⟩)
  have hd : decide (V < 0) = false := decide_eq_false hv0
  obtain ⟨L, rfl⟩ : ∃ L : Nat, V = L := ⟨V.toNat, by omega⟩
  rw [Int.toNat_natCast] at HFN
  have hx0 : 0 ≤ (L : Int) * h.shi := Int.mul_nonneg (by omega) (by omega)
  have hx1 : (L : Int) * h.shi ≤ 800000 * 2000 := Int.mul_le_mul hb2 hs3 (by omega) (by omega)
  obtain ⟨X, hX⟩ : ∃ X, (L : Int) * h.shi = X := ⟨_, rfl⟩
  have hwx : IntKind.i64.wrap ((L : Int) * h.shi) = X := by rw [hX, IntKind.wrap_i64]; omega
  rw [hX] at hx0 hx1
  have HUP : Hid (∀ V : World, Calls Try.prog 71 #[.int .i64 X, .int .i64 1000] V fun e w' => e = .returned (iv (upD X 1000)) ∧ Below V.heap.size V w') := Lib.hid fun V => refUpDiv_any X 1000 hx0 (by omega) (by omega) (by omega)
  have HFN2 : Hid (∀ e w', Below w.heap.size w w' → e = .returned (.tuple #[iv (max 1 (upD X 1000)), iv 0]) → RefCount (winchOf h) h l b w e w') := Lib.hid fun e w' x y => HFN.out e w' x (.inr ⟨by omega, by rw [y, ← hX]; rfl⟩)
  obtain ⟨U, hU⟩ : ∃ U, upD X 1000 = U := ⟨_, rfl⟩
  rw [hU] at HUP HFN2
  clear hX hU HFN
  go_wp2_with fail
  refine (HUP.out _).mono ?_
  rintro e w3 ⟨rfl, hb⟩
  have HB3 := Lib.hid (belowT HB2.out hb)
  clear hb p0 p1 p2 p3 p4
  go_wp2_with fail
  go_ret2
  exact HFN2.out _ _ (belowT HB0.out HB3.out) rfl

set_option maxRecDepth 100000 in
set_option maxHeartbeats 4000000 in
theorem sand35_any (h : Hul) (A J : Option Addr) (B cap capJ : Nat) (AL : Option Addr) (l : List Wgh) (capL : Nat) (v : Int) (w : World)
    (hH : HulRd w B h A cap J capJ) (hL : RdN 3 encWgh w B AL l) (hlm : l.length ≤ maxLen) (hB : B ≤ w.heap.size) :
    Calls Try.prog 35 #[hv h A cap J capJ, .slice AL l.length capL, .int .i64 v] w (RefCount (sandOf h) h l v w) := by
  obtain ⟨W1, hW1, hb0, hzz, p0, p1, p2, p3, p4⟩ := hulBox w h A cap J capJ
  have HKB : Hid (∀ W, Below W1.heap.size W1 W → W.cell? ⟨w.heap.size, 0, none⟩ = some (.slice A h.ps.length cap) ∧ W.cell? ⟨w.heap.size, 1, none⟩ = some (.slice J h.js.length capJ) ∧ W.cell? ⟨w.heap.size, 2, none⟩ = some (.int .i64 h.slo) ∧ W.cell? ⟨w.heap.size, 3, none⟩ = some (.int .i64 h.shi) ∧ W.cell? ⟨w.heap.size, 4, none⟩ = some (.int .i64 h.winch)) := Lib.hid fun W hb => ⟨keepC hb p0, keepC hb p1, keepC hb p2, keepC hb p3, keepC hb p4⟩
  have HC89 := Lib.hid (counted89_any h A J B cap capJ AL l capL v W1 (hH.below hb0 hB) (hL.below hb0 hB) hlm (Nat.le_trans hB hb0.size))
  have HB0 := Lib.hid hb0
  by_cases hce : countE h l v = 0
  case neg =>
    have HFN : Hid (∀ e w', Below w.heap.size w w' → e = .returned (.tuple #[iv 0, iv (countE h l v)]) → RefCount (sandOf h) h l v w e w') := Lib.hid fun e w' a b => ⟨a, .inl ⟨hce, b⟩⟩
    obtain ⟨E, hE⟩ : ∃ E, countE h l v = E := ⟨_, rfl⟩
    rw [hE] at HC89 HFN hce
    have hcb : (E != 0) = true := by simpa using hce
    clear hE hb0 hH hL hzz hlm
    go_enter Try.func35, Try.ntmps35
    go_wp2_with fail
    refine HC89.out.mono ?_
    rintro e w1 ⟨rfl, hb⟩
    have HB1 := Lib.hid hb
    clear hb hW1 p0 p1 p2 p3 p4
    go_wp2_with fail
    go_ret2
    exact HFN.out _ _ (belowT HB0.out HB1.out) rfl
  obtain ⟨ho, hv1, hv8⟩ := countE_zero hce
  obtain ⟨hp, hf⟩ := openE_zero_iff ho
  obtain ⟨b, rfl⟩ : ∃ b : Nat, v = b := ⟨v.toNat, by omega⟩
  have hr := pre_right hp
  have hs1 := hr.s1
  have hs2 := hr.s2
  have hs3 := hr.s3
  have hw1 := hr.w1
  have hw2 := hr.w2
  have hbd := bestOf_bd hp hf b
  have hc90 : ∀ V, Below W1.heap.size W1 V → Calls Try.prog 90 #[hv h A cap J capJ, .slice AL l.length capL, .int .i64 b] V fun e w' => e = .returned (iv (bestOf h l b)) ∧ Below V.heap.size V w' := fun V hb => lightest90_any h A J B cap capJ AL l capL b V (hH.below (belowT hb0 hb) hB) (hL.below (belowT hb0 hb) hB) hp hf (Nat.le_trans hB (belowT hb0 hb).size)
  have HFN : Hid (∀ e w', Below w.heap.size w w' → ((bestOf h l b < 0 ∧ e = .returned (.tuple #[iv 0, iv 9])) ∨ (0 ≤ bestOf h l b ∧ e = .returned (.tuple #[iv (sandOf h (bestOf h l b).toNat).1, iv (sandOf h (bestOf h l b).toNat).2]))) → RefCount (sandOf h) h l b w e w') := Lib.hid fun e w' x y => ⟨x, .inr ⟨hce, y⟩⟩
  rw [hce] at HC89
  obtain ⟨V, hV⟩ : ∃ V, bestOf h l b = V := ⟨_, rfl⟩
  rw [hV] at hbd hc90 HFN
  obtain ⟨hb1, hb2⟩ := hbd
  have HC90 := Lib.hid hc90
  clear hV hc90 hr hp hf ho hce hb0 hH hL hzz hlm
  go_enter Try.func35, Try.ntmps35
  go_wp2_with fail
  refine HC89.out.mono ?_
  rintro e w1 ⟨rfl, hb⟩
  have HB1 := Lib.hid hb
  clear hb hW1 p0 p1 p2 p3 p4
  obtain ⟨p0, p1, p2, p3, p4⟩ := HKB.out _ HB1.out
  go_wp2_with fail
  refine (HC90.out _ HB1.out).mono ?_
  rintro e w2 ⟨rfl, hb⟩
  have HB2 := Lib.hid (belowT HB1.out hb)
  clear hb p0 p1 p2 p3 p4
  obtain ⟨p0, p1, p2, p3, p4⟩ := HKB.out _ HB2.out
  by_cases hv0 : V < 0
  case pos =>
    have hd : decide (V < 0) = true := decide_eq_true hv0
    go_wp2_with fail
    go_ret2
    exact HFN.out _ _ (belowT HB0.out HB2.out) (.inl ⟨hv0, rfl⟩)
  have hd : decide (V < 0) = false := decide_eq_false hv0
  obtain ⟨L, rfl⟩ : ∃ L : Nat, V = L := ⟨V.toNat, by omega⟩
  rw [Int.toNat_natCast] at HFN
  have hwy : IntKind.i64.wrap (1000 * h.winch) = 1000 * h.winch := by rw [IntKind.wrap_i64]; omega
  by_cases hlw : 1000 * h.winch < (L : Int)
  case pos =>
    have hd2 : decide (1000 * h.winch < (L : Int)) = true := decide_eq_true hlw
    have hso : sandOf h L = (0, 9) := by unfold sandOf; rw [if_pos hlw]
    have HFN2 : Hid (∀ e w', Below w.heap.size w w' → e = .returned (.tuple #[iv 0, iv 9]) → RefCount (sandOf h) h l b w e w') := Lib.hid fun e w' x y => HFN.out e w' x (.inr ⟨by omega, by rw [y, hso]⟩)
    clear hso HFN
    go_wp2_with fail
    go_ret2
    exact HFN2.out _ _ (belowT HB0.out HB2.out) rfl
  have hd2 : decide (1000 * h.winch < (L : Int)) = false := decide_eq_false hlw
  obtain ⟨T, hso, ht0, ht1, ht2, ht3⟩ := sandOf_is hw1 (show (L : Int) ≤ 1000 * h.winch by omega)
  have HFN2 : Hid (∀ e w', Below w.heap.size w w' → e = .returned (.tuple #[iv T, iv 0]) → RefCount (sandOf h) h l b w e w') := Lib.hid fun e w' x y => HFN.out e w' x (.inr ⟨by omega, by rw [y, hso]⟩)
  have HT2 := Lib.hid ht2
  have HT3 := Lib.hid ht3
  clear hso HFN ht2 ht3
  go_wp2_with fail
  clear p0 p1 p2 p3 p4
  go_loopw [10] (fun vs wr => ∃ s : Int, T ≤ s ∧ s ≤ 2000 ∧ vs = .int .i64 s ∧ w2 = wr) (fun vs _ => (intOf vs).toNat)
  case atStart => exact ⟨2000, ht1, by omega, rfl, rfl⟩
  case round =>
    obtain ⟨s, h1, h2, rfl, rfl⟩ := hrel
    obtain ⟨p0, p1, p2, p3, p4⟩ := HKB.out _ HB2.out
    have hx0 : 0 ≤ (L : Int) * s := Int.mul_nonneg (by omega) (by omega)
    have hx1 : (L : Int) * s ≤ 800000 * 2000 := Int.mul_le_mul hb2 h2 (by omega) (by omega)
    obtain ⟨X, hX⟩ : ∃ X, (L : Int) * s = X := ⟨_, rfl⟩
    have hwx : IntKind.i64.wrap ((L : Int) * s) = X := by rw [hX, IntKind.wrap_i64]; omega
    by_cases hgt : 1000 * h.winch < X
    · have hd3 : decide (1000 * h.winch < X) = true := decide_eq_true hgt
      have hts : T < s := by
        rcases Int.lt_or_le T s with h5 | h5
        · exact h5
        · exfalso
          obtain rfl : s = T := by omega
          have := HT2.out
          omega
      have hws : IntKind.i64.wrap (s - 1) = s - 1 := by rw [IntKind.wrap_i64]; omega
      clear hX
      go_wp2_with fail
      go_roundw
      case rel => exact ⟨s - 1, by omega, by omega, rfl, trivial⟩
      case measure => simp [intOf]; omega
    · have hd3 : decide (1000 * h.winch < X) = false := decide_eq_false hgt
      obtain rfl : s = T := by
        rcases Int.lt_or_le T s with h5 | h5
        · have := HT3.out s h5 h2
          omega
        · omega
      clear hX
      go_wp2_with fail
      go_ret2
      exact HFN2.out _ _ (belowT HB0.out HB2.out) rfl
end Go.Proofs.Ytojgdallodmanaa
