/- block.open. -/
import Derived.Carry
import Derived.Test.YtojgdallodmanaaZ155d8b
namespace Go.Proofs.Ytojgdallodmanaa
open Go.RowKit Go.Maps

/-- What open answers. -/
def OpenPost (h : Hul) (A : Option Addr) (cap : Nat) (J : Option Addr) (capJ : Nat) (l : List Wgh) (w : World) (e : Ending) (w' : World) : Prop :=
  Below w.heap.size w w' ∧ ((openPre h l ≠ 0 ∧ e = .returned (.tuple #[.pointer none, iv (openPre h l)])) ∨ (openPre h l = 0 ∧ ∃ N, IsTree h l N ∧ (((wgh h.ps N 0).2 = false ∧ e = .returned (.tuple #[.pointer none, iv 9])) ∨ ((wgh h.ps N 0).2 = true ∧ ∃ g bs br km BD, e = .returned (.tuple #[ptr g, iv 0]) ∧ w.heap.size ≤ g ∧ w.heap.size ≤ km ∧ DeckSt w' BD g h A cap J capJ N bs br km ∧ KnownAt w' km (mostV h N) ∧ ∀ o, w'.frozen? ⟨g, o, none⟩ = false))))

theorem openPre_bad {h : Hul} {l : List Wgh} (hc : (checkE h).2.2 ≠ 0) : openPre h l = (checkE h).2.2 := by unfold openPre; rw [if_neg hc]
theorem openPre_long {h : Hul} {l : List Wgh} (hc : (checkE h).2.2 = 0) (hl : ¬ l.length ≤ 6) : openPre h l = 3 := by unfold openPre; rw [if_pos hc, if_neg hl]
theorem openPre_at {h : Hul} {l : List Wgh} (hc : (checkE h).2.2 = 0) (hl : l.length ≤ 6) {i : Nat} (hi : i < l.length) (hf : firstBad (weighedE h.ps.length h.js l) i = none) (hb : weighedE h.ps.length h.js l i ≠ 0) : openPre h l = weighedE h.ps.length h.js l i := by
  unfold openPre weighedsE
  rw [if_pos hc, if_pos hl, firstBad_at hf hb hi]
theorem openPre_ok {h : Hul} {l : List Wgh} (hc : (checkE h).2.2 = 0) (hl : l.length ≤ 6) (hf : firstBad (weighedE h.ps.length h.js l) l.length = none) : openPre h l = 0 := by
  unfold openPre weighedsE
  rw [if_pos hc, if_pos hl, hf]
theorem crossB_snoc (l : List Wgh) (s j : Nat) (y : Wgh) (hy : l[j]? = some y) : crossB (l.take (j + 1)) s = (crossB (l.take j) s || crossN s y.set.toNat) := by
  obtain ⟨hk, rfl⟩ := List.getElem?_eq_some_iff.1 hy
  unfold crossB
  rw [List.take_succ_eq_append_getElem hk, List.any_append]
  simp

theorem crossB_mono {l : List Wgh} {s j i : Nat} (h : crossB (l.take j) s = true) (hj : j ≤ i) : crossB (l.take i) s = true := by
  unfold crossB at *
  rw [List.any_eq_true] at *
  obtain ⟨y, hy, hc⟩ := h
  refine ⟨y, ?_, hc⟩
  have : (l.take i).take j = l.take j := by rw [List.take_take, Nat.min_eq_left hj]
  rw [← this] at hy
  exact List.mem_of_mem_take hy

set_option maxRecDepth 100000 in
set_option maxHeartbeats 8000000 in
theorem open_any (h : Hul) (A J : Option Addr) (B cap capJ : Nat) (AL : Option Addr) (l : List Wgh) (capL : Nat) (w : World) (hH : HulRd w B h A cap J capJ) (hL : RdN 3 encWgh w B AL l) (hlc : l.length ≤ capL) (hB : B ≤ w.heap.size) :
    Calls Try.prog 63 #[hv h A cap J capJ, .slice AL l.length capL] w (OpenPost h A cap J capJ l w) := by
  obtain ⟨W1, hW1⟩ : ∃ W1, w.alloc (.cells #[.slice A h.ps.length cap, .slice J h.js.length capJ, .int .i64 h.slo, .int .i64 h.shi, .int .i64 h.winch] 27) = W1 := ⟨_, rfl⟩
  have hb0 : Below w.heap.size w W1 := by rw [← hW1]; exact belowA (belowR _) _
  have hck := check_any h A J B cap capJ W1 (hH.below hb0 hB) (Nat.le_trans hB hb0.size)
  have p0 : W1.cell? ⟨w.heap.size, 0, none⟩ = some (.slice A h.ps.length cap) := by rw [← hW1]; clear hW1; go_simp
  have p1 : W1.cell? ⟨w.heap.size, 1, none⟩ = some (.slice J h.js.length capJ) := by rw [← hW1]; clear hW1; go_simp
  have p2 : W1.cell? ⟨w.heap.size, 2, none⟩ = some (.int .i64 h.slo) := by rw [← hW1]; clear hW1; go_simp
  have p3 : W1.cell? ⟨w.heap.size, 3, none⟩ = some (.int .i64 h.shi) := by rw [← hW1]; clear hW1; go_simp
  have p4 : W1.cell? ⟨w.heap.size, 4, none⟩ = some (.int .i64 h.winch) := by rw [← hW1]; clear hW1; go_simp
  have HC : Hid (∀ W, Below W1.heap.size W1 W → W.cell? ⟨w.heap.size, 0, none⟩ = some (.slice A h.ps.length cap) ∧ W.cell? ⟨w.heap.size, 1, none⟩ = some (.slice J h.js.length capJ) ∧ W.cell? ⟨w.heap.size, 2, none⟩ = some (.int .i64 h.slo) ∧ W.cell? ⟨w.heap.size, 3, none⟩ = some (.int .i64 h.shi) ∧ W.cell? ⟨w.heap.size, 4, none⟩ = some (.int .i64 h.winch)) := Lib.hid fun W hb => ⟨keepC hb p0, keepC hb p1, keepC hb p2, keepC hb p3, keepC hb p4⟩
  have HB0 := Lib.hid hb0
  have HH0 := Lib.hid hH
  have HH := Lib.hid (hH.below hb0 hB)
  have HL := Lib.hid (hL.below hb0 hB)
  have HCK := Lib.hid hck
  have hz1 := hb0.size
  clear hb0 hH hL hck
  obtain ⟨ca, cb, ce, hce⟩ : ∃ a b e, checkE h = (a, b, e) := ⟨_, _, _, rfl⟩
  by_cases hc0 : ce = 0
  case neg =>
    have hp := openPre_bad (h := h) (l := l) (by rw [hce]; exact hc0)
    have hne : openPre h l ≠ 0 := by rw [hp, hce]; exact hc0
    rw [hce] at hp
    have HP := Lib.hid hp
    have HNE := Lib.hid hne
    have hcb : (ce == 0) = false := by simpa using hc0
    clear hp hne hc0
    go_enter Try.func63, Try.ntmps63
    go_wp2_with fail
    refine HCK.out.mono ?_
    rintro e w1 ⟨rfl, hb⟩
    rw [hce]
    simp only [ret3]
    have HB1 := Lib.hid (belowT HB0.out hb)
    clear hb hW1
    go_wp2
    go_ret2
    exact ⟨HB1.out, .inl ⟨HNE.out, by rw [HP.out]; rfl⟩⟩
  case pos =>
  subst hc0
  have hk := hulOk (h := h) (by rw [hce])
  by_cases hl6 : l.length ≤ 6
  case neg =>
    have hp := openPre_long (h := h) (l := l) (by rw [hce]) hl6
    have HP := Lib.hid hp
    clear hp hk
    go_enter Try.func63, Try.ntmps63
    go_wp2_with fail
    refine HCK.out.mono ?_
    rintro e w1 ⟨rfl, hb⟩
    rw [hce]
    simp only [ret3]
    have HB1 := Lib.hid (belowT HB0.out hb)
    clear hb hW1
    go_wp2
    go_ret2
    exact ⟨HB1.out, .inl ⟨by rw [HP.out]; decide, by rw [HP.out]; rfl⟩⟩
  case pos =>
  go_enter Try.func63, Try.ntmps63
  go_wp2_with fail
  refine HCK.out.mono ?_
  rintro e w1 ⟨rfl, hb⟩
  rw [hce]
  simp only [ret3]
  obtain ⟨p0, p1, p2, p3, p4⟩ := HC.out w1 hb
  have hz2 := hb.size
  have HB1 := Lib.hid hb
  clear hb HCK hW1
  have hmm := @run_makeMap Try.prog
  go_wp2_with fail
  obtain ⟨w2, hw2⟩ : ∃ w2, (w1.alloc (.map #[] 0)).alloc (.cells #[.slice A h.ps.length cap, .slice J h.js.length capJ, .int .i64 h.slo, .int .i64 h.shi, .int .i64 h.winch, .pointer none, .map (some w1.heap.size)] 106) = w2 := ⟨_, rfl⟩
  obtain ⟨g, hgd⟩ : ∃ g, w1.heap.size + 1 = g := ⟨_, rfl⟩
  obtain ⟨km, hkmd⟩ : ∃ km, w1.heap.size = km := ⟨_, rfl⟩
  have hmap : w2.ownsMap Try.prog 3 (plainElem (H := Unit) Try.prog 3) km 0 (.map []) := by
    rw [← hw2, ← hkmd]; exact (World.ownsMap_made (H := Unit) w1 Try.prog 3 (plainElem Try.prog 3)).alloc _
  have c0 : w2.cell? ⟨g, 0, none⟩ = some (.slice A h.ps.length cap) := by rw [← hw2, ← hgd]; clear hw2; go_simp
  have c1 : w2.cell? ⟨g, 1, none⟩ = some (.slice J h.js.length capJ) := by rw [← hw2, ← hgd]; clear hw2; go_simp
  have c2 : w2.cell? ⟨g, 2, none⟩ = some (.int .i64 h.slo) := by rw [← hw2, ← hgd]; clear hw2; go_simp
  have c3 : w2.cell? ⟨g, 3, none⟩ = some (.int .i64 h.shi) := by rw [← hw2, ← hgd]; clear hw2; go_simp
  have c4 : w2.cell? ⟨g, 4, none⟩ = some (.int .i64 h.winch) := by rw [← hw2, ← hgd]; clear hw2; go_simp
  have c5 : w2.cell? ⟨g, 5, none⟩ = some (.pointer none) := by rw [← hw2, ← hgd]; clear hw2; go_simp
  have c6 : w2.cell? ⟨g, 6, none⟩ = some (.map (some km)) := by rw [← hw2, ← hgd]; clear hw2; go_simp
  have cf : ∀ o, w2.frozen? ⟨g, o, none⟩ = false := by rw [← hw2, ← hgd]; clear hw2; intro o; go_simp
  have hb12 : Below w1.heap.size w1 w2 := by rw [← hw2]; exact belowA (belowA (belowR _) _) _
  have p0' : w2.cell? ⟨w.heap.size, 0, none⟩ = some (.slice A h.ps.length cap) := keepC hb12 p0
  have hz3 : w2.heap.size = w1.heap.size + 2 := by rw [← hw2]; simp
  have HB2 := Lib.hid (belowT (belowT HB0.out HB1.out) hb12)
  have HH2 := Lib.hid ((HH.out.below HB1.out (Nat.le_trans hB hz1)).below hb12 (by omega))
  have HL2 := Lib.hid ((HL.out.below HB1.out (Nat.le_trans hB hz1)).below hb12 (by omega))
  have HMAP := Lib.hid hmap
  have HD : Hid (∀ W, Below w2.heap.size w2 W → W.cell? ⟨g, 0, none⟩ = some (.slice A h.ps.length cap) ∧ W.cell? ⟨g, 1, none⟩ = some (.slice J h.js.length capJ)) := Lib.hid fun W hb => ⟨keepC hb c0, keepC hb c1⟩
  have HD2 : Hid (∀ W, Below w2.heap.size w2 W → W.cell? ⟨g, 2, none⟩ = some (.int .i64 h.slo) ∧ W.cell? ⟨g, 3, none⟩ = some (.int .i64 h.shi) ∧ W.cell? ⟨g, 4, none⟩ = some (.int .i64 h.winch) ∧ W.cell? ⟨g, 5, none⟩ = some (.pointer none) ∧ W.cell? ⟨g, 6, none⟩ = some (.map (some km)) ∧ (∀ o, W.frozen? ⟨g, o, none⟩ = false) ∧ W.cell? ⟨w.heap.size, 0, none⟩ = some (.slice A h.ps.length cap)) := Lib.hid fun W hb => ⟨keepC hb c2, keepC hb c3, keepC hb c4, keepC hb c5, keepC hb c6, fun o => (hb.frozen (p := ⟨g, o, none⟩) (lt_of_cell c0)).trans (cf o), keepC hb p0'⟩
  rw [hw2] 
  clear hmap c0 c1 c2 c3 c4 c5 c6 cf hb12 p0' HB1 HB0 HH HL HC p0 p1 p2 p3 p4 hw2
  rw [hgd]
  rw [hkmd]
  have hgk1 : km < g := by omega
  have hgk2 : g < w2.heap.size := by omega
  have hgk3 : w.heap.size ≤ km := by omega
  clear hmm hz3 hkmd hgd
  go_loopw [37] (fun vi wr => ∃ i : Nat, i ≤ l.length ∧ vi = .int .i64 i ∧ Hid (Below w2.heap.size w2 wr) ∧ Hid (firstBad (weighedE h.ps.length h.js l) i = none)) (fun vi _ => l.length - (intOf vi).toNat)
  case atStart => exact ⟨0, Nat.zero_le _, rfl, Lib.hid (belowR _), Lib.hid rfl⟩
  case round =>
    obtain ⟨i, hi, rfl, HW, HF⟩ := hrel
    obtain ⟨c0, c1⟩ := HD.out wr HW.out
    have hzw := HW.out.size
    by_cases hlt : i < l.length
    · obtain ⟨x, hx⟩ : ∃ x, l[i]? = some x := ⟨_, List.getElem?_eq_getElem hlt⟩
      obtain ⟨bb, off, rfl, hbB, e0, e1, e2⟩ := wghAt (HL2.out.below HW.out (by omega)) hx
      have hwE : weighedE h.ps.length h.js l i = if blockE h.ps.length h.js x.set = 0 then (if crossB (l.take i) x.set.toNat then 6 else rangeE 0 1000000 x.lo x.hi) else blockE h.ps.length h.js x.set := by unfold weighedE; rw [hx]
      obtain ⟨w3, hw3⟩ : ∃ w3, wr.alloc (.cells #[iv x.set, iv x.lo, iv x.hi] 82) = w3 := ⟨_, rfl⟩
      have hb3 : Below wr.heap.size wr w3 := by rw [← hw3]; exact belowA (belowR _) _
      have f0 : w3.cell? ⟨wr.heap.size, 0, none⟩ = some (iv x.set) := by rw [← hw3]; clear hw3; go_simp
      have f1 : w3.cell? ⟨wr.heap.size, 1, none⟩ = some (iv x.lo) := by rw [← hw3]; clear hw3; go_simp
      have f2 : w3.cell? ⟨wr.heap.size, 2, none⟩ = some (iv x.hi) := by rw [← hw3]; clear hw3; go_simp
      have hz4 := hb3.size
      have hblk := block_any g h.ps.length x.set A J h.js cap capJ B w3 hk.n1 hk.n8 hk.js hk.j12 (keepC hb3 c0) (keepC hb3 c1) ((HH2.out.js.below HW.out (by omega)).below hb3 (by omega)) (by omega)
      have HBLK := Lib.hid hblk
      have HW3 := Lib.hid (belowT HW.out hb3)
      have HX := Lib.hid hx
      have HWE := Lib.hid hwE
      clear hblk c0 c1 hx hwE hb3 HW
      go_wp2_with fail
      refine HBLK.out.mono ?_
      rintro e w4 ⟨rfl, hb4⟩
      have f0 := keepC hb4 f0
      have f1 := keepC hb4 f1
      have f2 := keepC hb4 f2
      have hz5 := hb4.size
      have HW4 := Lib.hid (belowT HW3.out hb4)
      clear hb4 HW3 HBLK hw3
      by_cases hb0 : blockE h.ps.length h.js x.set = 0
      case neg =>
        have hp := openPre_at (h := h) (l := l) (by rw [hce]) hl6 hlt HF.out (by rw [HWE.out, if_neg hb0]; exact hb0)
        rw [HWE.out, if_neg hb0] at hp
        have HP := Lib.hid hp
        obtain ⟨eb, heb⟩ : ∃ eb, blockE h.ps.length h.js x.set = eb := ⟨_, rfl⟩
        rw [heb] at HP hb0 ⊢
        clear hp heb HWE e0 e1 e2
        have hcb : (eb == 0) = false := by simpa using hb0
        go_wp2
        go_ret2
        exact ⟨belowT HB2.out (HW4.out), .inl ⟨by rw [HP.out]; exact hb0, by rw [HP.out]; rfl⟩⟩
      case pos =>
      obtain ⟨s, hs, _, _, hxs, _⟩ := blockE_zero hk.n8 hb0
      have hwe := HWE.out
      rw [if_pos hb0, hxs, Int.toNat_natCast] at hwe
      rw [hb0]
      rw [hxs] at f0 ⊢
      have HWE := Lib.hid hwe
      clear hwe hb0 e0 e1 e2
      go_wp2_with fail
      go_loopw [53] (fun vj wr5 => ∃ j : Nat, j ≤ i ∧ vj = .int .i64 j ∧ Hid (Below w4.heap.size w4 wr5) ∧ Hid (crossB (l.take j) s = false)) (fun vj _ => i - (intOf vj).toNat)
      case atStart => exact ⟨0, Nat.zero_le _, rfl, Lib.hid (belowR _), Lib.hid rfl⟩
      case round =>
        obtain ⟨j, hj, rfl, HW5, HCR⟩ := hrel
        have f0 := keepC HW5.out f0
        have f1 := keepC HW5.out f1
        have f2 := keepC HW5.out f2
        have hz6 := HW5.out.size
        have hbx := lt_of_cell f0
        by_cases hjl : j < i
        · obtain ⟨y, hy⟩ : ∃ y, l[j]? = some y := ⟨_, List.getElem?_eq_getElem (by omega)⟩
          obtain ⟨bb', off', he, hbB', e0, e1, e2⟩ := wghAt ((HL2.out.below HW4.out (by omega)).below HW5.out (by omega)) hy
          injection he with he
          injection he with he1 he2
          subst he1 he2
          have hyz := firstBad_none HF.out j hjl
          unfold weighedE at hyz
          rw [hy] at hyz
          simp only at hyz
          obtain ⟨t, ht, hyt⟩ : ∃ t : Nat, t < 256 ∧ y.set = (t : Int) := by
            split at hyz
            · rename_i hyb
              obtain ⟨t, a, _, _, b, _⟩ := blockE_zero hk.n8 hyb
              exact ⟨t, a, b⟩
            · exact absurd hyz (by assumption)
          have hsn := crossB_snoc l s j y hy
          rw [HCR.out, Bool.false_or, hyt, Int.toNat_natCast] at hsn
          rw [hyt] at e0
          clear hyz
          have hand := and64 (a := s) (b := t) (by omega) (by omega)
          have hal : (s &&& t) < 256 := Nat.lt_of_le_of_lt Nat.and_le_left hs
          have hcx : crossN s t = (!((((s &&& t : Nat) : Int)) == 0) && !((((s &&& t : Nat) : Int)) == (s : Int)) && !((((s &&& t : Nat) : Int)) == (t : Int))) := by
            unfold crossN
            rw [Bool.eq_iff_iff]
            simp
            omega
          obtain ⟨C, hC⟩ : ∃ C, s &&& t = C := ⟨_, rfl⟩
          rw [hC] at hand hal hcx
          have HSN := Lib.hid hsn
          have HCX := Lib.hid hcx
          clear hC hsn hcx
          go_wp2_with fail
          all_goals first
            | exact ⟨⟨j + 1, by omega, by go_num, Lib.hid (belowA HW5.out _), Lib.hid (by rw [HSN.out, HCX.out]; simp; intros; omega)⟩, by simp [intOf]; omega⟩
            | skip
          · rename_i _ _ h7 _
            have hcr : crossB (l.take (j + 1)) s = true := by
              rw [HSN.out, HCX.out]
              obtain ⟨⟨a1, a2⟩, a3⟩ := h7
              simp only [bne_iff_ne, ne_eq] at a1 a2 a3
              simp
              omega
            have hp := openPre_at (h := h) (l := l) (by rw [hce]) hl6 hlt HF.out (by rw [HWE.out, if_pos (crossB_mono hcr (by omega))]; decide)
            rw [HWE.out, if_pos (crossB_mono hcr (by omega))] at hp
            go_ret2
            exact ⟨belowT HB2.out (belowA (belowT HW4.out HW5.out) _), .inl ⟨by rw [hp]; decide, by rw [hp]; rfl⟩⟩
          · rename_i _ _ h7
            refine ⟨⟨j + 1, by omega, by go_num, Lib.hid (belowA HW5.out _), Lib.hid ?_⟩, by simp [intOf]; omega⟩
            rw [HSN.out, HCX.out]
            have h8 : (C : Int) = t := by
              rcases h7 with (h7 | h7) | h7 <;> simp only [bne_eq_false_iff_eq] at h7 <;> omega
            simp [h8]
        · obtain rfl : j = i := by omega
          have hwe := HWE.out
          rw [HCR.out] at hwe
          simp only [Bool.false_eq_true, if_false] at hwe
          have HWE := Lib.hid hwe
          clear hwe HCR
          go_wp2_with fail
          refine (spanned_any _ _ _ _ _).mono ?_
          rintro e w6 ⟨rfl, hb6⟩
          have HW6 := Lib.hid (belowT (belowT HW4.out HW5.out) hb6)
          clear hb6 HW4 HW5
          by_cases hr0 : rangeE 0 1000000 x.lo x.hi = 0
          · have HFN := Lib.hid (firstBad_succ HF.out (by rw [HWE.out]; exact hr0))
            rw [hr0]
            go_wp2_with fail
            go_roundw
            case rel => exact ⟨j + 1, by omega, by go_num, HW6, HFN⟩
            case measure => simp [intOf]; omega
          · have hp := openPre_at (h := h) (l := l) (by rw [hce]) hl6 hlt HF.out (by rw [HWE.out]; exact hr0)
            rw [HWE.out] at hp
            have HP := Lib.hid hp
            obtain ⟨eb, heb⟩ : ∃ eb, rangeE 0 1000000 x.lo x.hi = eb := ⟨_, rfl⟩
            rw [heb] at HP hr0 ⊢
            have hcb : (eb == 0) = false := by simpa using hr0
            clear hp heb HWE
            go_wp2_with fail
            go_ret2
            exact ⟨belowT HB2.out HW6.out, .inl ⟨by rw [HP.out]; exact hr0, by rw [HP.out]; rfl⟩⟩
    · obtain rfl : i = l.length := by omega
      have hpre := openPre_ok (h := h) (by rw [hce]) hl6 HF.out
      have HPRE := Lib.hid hpre
      have htr := tree_any AL l h.ps.length B capL wr hk.n1 hk.n8 hl6 (HL2.out.below HW.out (by omega)) (by omega) (fun x hx => by obtain ⟨s, a1, _, _, a4, _⟩ := wghs_ok hpre x hx; exact ⟨s, a1, a4⟩)
      have HTR := Lib.hid htr
      obtain ⟨d2, d3, d4, d5, d6, df, dp⟩ := HD2.out wr HW.out
      clear htr hpre HF c0 c1 d2 d3 d4 d6
      go_wp2_with fail
      refine HTR.out.mono ?_
      rintro e w6 ⟨br, N, bs, X, rfl, hb6, hX1, hX2, hN, htab, hbr, hoff⟩
      have hW6 := belowT HW.out hb6
      have HNT : Hid (IsTree h l N) := Lib.hid ⟨X, hX1, hX2, hN⟩
      obtain ⟨d0, d1⟩ := HD.out w6 hW6
      obtain ⟨d2, d3, d4, d5', d6, df', _⟩ := HD2.out w6 hW6
      have hgS := lt_of_cell d5
      have hgS6 := lt_of_cell d5'
      obtain ⟨w7, hw7⟩ : ∃ w7, w6.setCell ⟨g, 5, none⟩ (ptr br) = w7 := ⟨_, rfl⟩
      have hz7 : w7.heap.size = w6.heap.size := by rw [← hw7]; simp
      have hz6 := hb6.size
      have hkS : km < wr.heap.size := by omega
      have hof : ∀ {o : Nat} {u : Value}, o ≠ 5 → w6.cell? ⟨g, o, none⟩ = some u → w7.cell? ⟨g, o, none⟩ = some u := fun {o u} hne hc => by
        rw [← hw7, World.cell?_setCell_other _ _ _ _ (fun e => by injection e with _ e; exact hne e.symm)]; exact hc
      have ho7 : OnlyAt w6 w7 g := by rw [← hw7]; exact (OnlyAt.refl w6 g).set _ _
      have hB7 : Below w.heap.size w w7 := by rw [← hw7]; exact belowS (belowT HB2.out hW6) (by simp only; omega) _
      have hds : DeckSt w7 w6.heap.size g h A cap J capJ N bs br km :=
        ⟨hof (by decide) d0, hof (by decide) d1, hof (by decide) d2, hof (by decide) d3, hof (by decide) d4, by rw [← hw7]; exact World.cell?_setCell_same _ _ _ d5', hof (by decide) d6, htab.only2 (hoff g hgS) ho7, TabOff.keep htab (hoff km hkS) (fun b _ v hv _ => by
          rw [← hw7, World.cell?_setCell_other _ _ _ _ (fun e => by injection e with _ e; exact absurd e (by decide))]; exact hv), hbr, ⟨B, by omega, by omega, HH0.out.ps.below hB7 hB, HH0.out.js.below hB7 hB⟩, by omega, by omega, by omega⟩
      have hkn : KnownAt w7 km (mostV h N) := by
        have hk2 : KnownAt w2 km (mostV h N) := ⟨.map [], 0, HMAP.out, fun kl hkl => by simp [has] at hkl⟩
        have hk6 := hk2.below hW6
        obtain ⟨D, n, hm, hd⟩ := hk6
        exact ⟨D, n, by rw [← hw7]; exact hm.setCell (by simp only; omega) _, hd⟩
      have hT := treeOk_isTree HPRE.out HNT.out
      have hwg := hds.weigh hT (set := 0) (by decide)
      obtain ⟨M, hM⟩ : ∃ M, (wgh h.ps N 0).1 = M := ⟨_, rfl⟩
      obtain ⟨V, hV⟩ : ∃ V, (wgh h.ps N 0).2 = V := ⟨_, rfl⟩
      rw [hM, hV] at hwg
      have hf7 : ∀ o, w7.frozen? ⟨g, o, none⟩ = false := fun o => by rw [← hw7, World.frozen?_setCell]; exact df' o
      have f5 := df' 5
      have HDS := Lib.hid hds
      have HKN := Lib.hid hkn
      have HWG := Lib.hid hwg
      have HF7 := Lib.hid hf7
      have HB7 := Lib.hid hB7
      have HV := Lib.hid hV
      clear hds hkn hwg hf7 hB7 hT hof ho7 hM hV hX1 hX2 hN htab hbr hoff hb6 hW6 d0 d1 d2 d3 d4 d5 d6 df' df HTR HMAP HD HD2 HW
      go_wp2_with fail
      refine HWG.out.mono ?_
      rintro e w8 ⟨rfl, hb8⟩
      obtain ⟨ma, mb, mc, md⟩ := M
      have HB8 := Lib.hid (belowT HB7.out hb8)
      have hds8 := HDS.out.below (Below.mono hb8 (Nat.le_refl _))
      have hkn8 := HKN.out.below hb8
      have hf8 : ∀ o, w8.frozen? ⟨g, o, none⟩ = false := fun o => (hb8.frozen (p := ⟨g, o, none⟩) (by simp only; omega)).trans (HF7.out o)
      have HDS8 := Lib.hid hds8
      have HKN8 := Lib.hid hkn8
      have HF8 := Lib.hid hf8
      have hg8 : g < w8.heap.size := Nat.lt_of_lt_of_le (by omega) hb8.size
      clear hds8 hkn8 hf8 hb8 HDS HKN HF7 HB7 HWG hw7 d5' f5 dp
      cases V
      · go_wp2_with fail
        go_ret2
        exact ⟨belowA HB8.out _, .inr ⟨HPRE.out, N, HNT.out, .inl ⟨HV.out, rfl⟩⟩⟩
      · go_wp2_with fail
        go_ret2
        exact ⟨belowA HB8.out _, .inr ⟨HPRE.out, N, HNT.out, .inr ⟨HV.out, g, bs, br, km, w6.heap.size, rfl, by omega, by omega, HDS8.out.below (belowA (belowR _) _), HKN8.out.below (belowA (belowR _) _), fun o => (keepAF hg8 o _).trans (HF8.out o)⟩⟩⟩
end Go.Proofs.Ytojgdallodmanaa
