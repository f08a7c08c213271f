/- The reference: Ranges (F33). -/
import Derived.Test.YtblbbhenmhkknaaYW32
import Derived.Test.YtblbbhenmhkknaaYG1
import Derived.Test.YtblbbhenmhkknaaYR5
namespace Go.Proofs.Ytblbbhenmhkknaa
open Go.RowKit

theorem justL_get {L : List Cl3} {d : Nat → Int} {i : Nat} {c : Cl3} (h : L[i]? = some c) : (justL L d)[i]? = some ⟨c.rank, d i, d i⟩ := by simp [justL, List.getElem?_mapIdx, h]
theorem endD_get {hg : Bool} {cs : List Clm} {a k i : Nat} {d : Int} (h : (endD hg cs a k)[i]? = some d) : d = endX hg cs a i := by
  unfold endD at h
  rw [List.getElem?_map] at h
  cases hr : (List.range k)[i]? with
  | none => rw [hr] at h; simp at h
  | some j =>
    rw [hr] at h
    obtain ⟨hl, hj⟩ := List.getElem?_eq_some_iff.1 hr
    rw [List.getElem_range] at hj
    subst hj
    simpa using h.symm
theorem ends_low {cs : List Clm} {a : Nat} : ∀ (i : Nat) (c : Clm) (d : Int), cs[i]? = some c → (endD false cs a cs.length)[i]? = some d → (justL (cs.map c3) (dLo (cs.map c3) a))[i]? = some ⟨c.rank, d, d⟩ := by
  intro i c d hc hd
  rw [justL_get (l3_at hc), endD_get hd]
  simp [endX, c3]
theorem ends_high {cs : List Clm} {a : Nat} : ∀ (i : Nat) (c : Clm) (d : Int), cs[i]? = some c → (endD true cs a cs.length)[i]? = some d → (justL (cs.map c3) (dHi (cs.map c3) a))[i]? = some ⟨c.rank, d, d⟩ := by
  intro i c d hc hd
  rw [justL_get (l3_at hc), endD_get hd]
  simp [endX, c3]
theorem share_get {L : List Cl3} {d : Nat → Int} {P : Int} {k : Nat} (h : k < L.length) : (pays (justL L d) P)[k]? = some (shareV L d P k) := by
  have hl : k < (pays (justL L d) P).length := by rw [pays_len, justL_len]; exact h
  unfold shareV
  rw [List.getD_eq_getElem?_getD, List.getElem?_eq_getElem hl]
  rfl

set_option maxRecDepth 100000 in
set_option maxHeartbeats 4000000 in
theorem refRanges_no (lo hi : Int) (A : Option Addr) (cs : List Clm) (B cap : Nat) (w : World) (hm : cs.length ≤ cap) (hcm : cap ≤ maxLen) (hok : ClmsOk cs) (hR : RdN 4 encClm w B A cs) (hB : B ≤ w.heap.size) (hE : estErr lo hi cs ≠ 0) :
    Calls Try.prog 33 #[.agg #[.int .i64 lo, .int .i64 hi, .slice A cs.length cap]] w (TruthNo (estErr lo hi cs) w) := by
  have hb0 : Below w.heap.size w _ := belowA (belowR w) (.cells #[.int .i64 lo, .int .i64 hi, .slice A cs.length cap] 42)
  have hop := refCheck_any lo hi A cs B cap (w.alloc (.cells #[.int .i64 lo, .int .i64 hi, .slice A cs.length cap] 42)) hm hcm hok (hR.below hb0 hB) (Nat.le_trans hB hb0.size)
  obtain ⟨a1, a2, E, hE3⟩ : ∃ a b c, estE lo hi cs = (a, b, c) := ⟨_, _, _, rfl⟩
  have hEE : estErr lo hi cs = E := by unfold estErr; rw [hE3]
  rw [hE3] at hop
  unfold ret3 at hop
  simp only at hop
  rw [hEE] at hE ⊢
  have hne : (E != 0) = true := by simpa using hE
  have HOP := Lib.hid hop
  clear hop hEE hE hE3
  go_enter Try.func33, Try.ntmps33
  go_wp2_with fail
  refine HOP.out.mono ?_
  rintro e w1 ⟨rfl, hb⟩
  have hB1 := belowT hb0 hb
  clear hb hb0
  go_wp2
  go_ret2
  exact ⟨rfl, hB1⟩

set_option maxRecDepth 100000 in
set_option maxHeartbeats 4000000 in
theorem refRanges_yes (lo hi : Int) (A : Option Addr) (cs : List Clm) (B cap : Nat) (w : World) (hm : cs.length ≤ cap) (hcm : cap ≤ maxLen) (hok : ClmsOk cs) (hR : RdN 4 encClm w B A cs) (hB : B ≤ w.heap.size) (hE : estErr lo hi cs = 0) :
    Calls Try.prog 33 #[.agg #[.int .i64 lo, .int .i64 hi, .slice A cs.length cap]] w (RangesYes lo hi cs w) := by
  obtain ⟨i0, hi0, hz0, hz1, hz2⟩ := info_parts Try.info39
  have hest := est_ok hE
  have hok3 := hest.ok3
  have hle8 := hest.len.2
  have hsp := hest.span
  obtain ⟨W1, hW1⟩ : ∃ W1, w.alloc (.cells #[.int .i64 lo, .int .i64 hi, .slice A cs.length cap] 42) = W1 := ⟨_, rfl⟩
  have hb0 : Below w.heap.size w W1 := by rw [← hW1]; exact belowA (belowR _) _
  have p0 : W1.cell? ⟨w.heap.size, 0, none⟩ = some (.int .i64 lo) := by rw [← hW1]; clear hW1; go_simp
  have p1 : W1.cell? ⟨w.heap.size, 1, none⟩ = some (.int .i64 hi) := by rw [← hW1]; clear hW1; go_simp
  have p2 : W1.cell? ⟨w.heap.size, 2, none⟩ = some (.slice A cs.length cap) := by rw [← hW1]; clear hW1; go_simp
  have HB0 := Lib.hid hb0
  have hz1' : w.heap.size < W1.heap.size := lt_of_cell p0
  have hop := refCheck_any lo hi A cs B cap W1 hm hcm hok (hR.below hb0 hB) (by omega)
  have hE3 : estE lo hi cs = ((estE lo hi cs).1, (estE lo hi cs).2.1, 0) := by
    have : (estE lo hi cs).2.2 = 0 := hE
    rw [← this]
  rw [hE3] at hop
  unfold ret3 at hop
  simp only at hop
  generalize (estE lo hi cs).1 = a1 at hop
  generalize (estE lo hi cs).2.1 = a2 at hop
  obtain ⟨L, hL⟩ : ∃ L, cs.map c3 = L := ⟨_, rfl⟩
  have hLl : L.length = cs.length := by rw [← hL]; simp
  have hlow := fun a => ends_low (cs := cs) (a := a)
  have hhigh := fun a => ends_high (cs := cs) (a := a)
  rw [hL] at hok3 hlow hhigh
  have hen := fun hg a W (hR : RdN 4 encClm W B A cs) (hB : B ≤ W.heap.size) => refEnds_any hg lo hi A cs B cap a W hR hB (by omega)
  unfold EndsPost at hen
  have hp1 := fun a W D capD (hR : RdN 4 encClm W B A cs) (hB : B ≤ W.heap.size) (hD : Rd1 iv W W.heap.size D (endD false cs a cs.length)) => refPaid_any A D cs (endD false cs a cs.length) (justL L (dLo L a)) B W.heap.size cap capD lo W (by rw [justL_len]; exact hLl) (endD_len _ _ _ _) (by omega) (by omega) (by omega) (justL_ok hok3 (dLo_bd hok3 a)) (hlow a) hR hB hD (Nat.le_refl _)
  have hp2 := fun a W D capD (hR : RdN 4 encClm W B A cs) (hB : B ≤ W.heap.size) (hD : Rd1 iv W W.heap.size D (endD true cs a cs.length)) => refPaid_any A D cs (endD true cs a cs.length) (justL L (dHi L a)) B W.heap.size cap capD hi W (by rw [justL_len]; exact hLl) (endD_len _ _ _ _) (by omega) (by omega) (by omega) (justL_ok hok3 (dHi_bd hok3 a)) (hhigh a) hR hB hD (Nat.le_refl _)
  unfold PaidPost at hp1 hp2
  simp only [justL_len, endD_len, hLl] at hp1 hp2
  have hfold : ∀ e w', (∃ A cap, e = .returned (.tuple #[.slice A cs.length cap, iv 0]) ∧ w'.ownsRow w.heap.size 39 2 (.slice A cs.length cap) cs.length ((rangesL lo hi L cs.length).flatMap encSp) ∧ Below w.heap.size w w') → RangesYes lo hi cs w e w' := fun e w' h => by unfold RangesYes; rw [hL]; exact h
  have HFOLD := Lib.hid hfold
  have HOP := Lib.hid hop
  have HEN := Lib.hid hen
  have HP1 := Lib.hid hp1
  have HP2 := Lib.hid hp2
  have HLL := Lib.hid hLl
  have HR1 := Lib.hid (hR.below hb0 hB)
  clear hop hE hlow hhigh hen hp1 hp2 hL hLl hok3 hfold hest hsp hb0 hR hE3
  go_enter Try.func33, Try.ntmps33
  go_wp2_with fail
  refine HOP.out.mono ?_
  rintro e w1 ⟨rfl, hb1⟩
  have p0 := keepC hb1 p0
  have p1 := keepC hb1 p1
  have p2 := keepC hb1 p2
  have hz2' := hb1.size
  have HB1 := Lib.hid (belowT HB0.out hb1)
  have HR2 := Lib.hid (HR1.out.below hb1 (by omega))
  clear hb1 HOP hW1 HR1
  have hzl := lt_of_cell p0
  go_wp2
  go_loopw [8, 7] (fun vi vl wr => ∃ (k : Nat) (v : Value), k ≤ cs.length ∧ vi = .int .i64 k ∧ vl = v ∧ Hid (wr.ownsRow w1.heap.size 39 2 v k ((rangesL lo hi L k).flatMap encSp)) ∧ Below w1.heap.size w1 wr) (fun vi _ _ => cs.length - (intOf vi).toNat)
  case atStart => exact ⟨0, _, Nat.zero_le _, rfl, rfl, Lib.hid (World.ownsRow_nil _ _ _ _), belowR _⟩
  case round =>
    obtain ⟨k, v, hk, rfl, hv, OWN, hbw⟩ := hrel
    obtain rfl := hv.symm
    have hzr := hbw.size
    have c0 := keepC hbw p0
    have c1 := keepC hbw p1
    have c2 := keepC hbw p2
    by_cases hlt : k < cs.length
    · have hRr := HR2.out.below hbw (by omega)
      have hBr : B ≤ wr.heap.size := by omega
      have hkz : (k : Int) < (cs.length : Int) := by omega
      have hk0 : (0 : Int) ≤ (k : Int) := by omega
      have HC1 := Lib.hid (HEN.out false k wr.drew (hRr.keep (fun _ _ => rfl)) hBr)
      have HRR := Lib.hid hRr
      have HBW := Lib.hid hbw
      have hsn := rangesL_succ lo hi L k
      have hg1 := share_get (L := L) (d := dLo L k) (P := lo) (k := k) (by rw [HLL.out]; exact hlt)
      have hg2 := share_get (L := L) (d := dHi L k) (P := hi) (k := k) (by rw [HLL.out]; exact hlt)
      obtain ⟨x, hx⟩ : ∃ x, shareV L (dLo L k) lo k = x := ⟨_, rfl⟩
      obtain ⟨y, hy⟩ : ∃ y, shareV L (dHi L k) hi k = y := ⟨_, rfl⟩
      rw [hx, hy] at hsn
      rw [hx] at hg1
      rw [hy] at hg2
      have HS := Lib.hid hsn
      have HG1 := Lib.hid hg1
      have HG2 := Lib.hid hg2
      have hk9 : k + 1 ≤ maxLen := by unfold maxLen; omega
      have hk16 : (k + 1) * 16 ≤ 140737488355328 := by omega
      clear hsn hx hy hRr hbw hg1 hg2
      go_upto_region 8 with fail
      go_region_held3 (fun w' => w'.cell? ⟨w.heap.size, 0, none⟩ = some (.int .i64 lo) ∧ w'.cell? ⟨w.heap.size, 1, none⟩ = some (.int .i64 hi) ∧ w'.cell? ⟨w.heap.size, 2, none⟩ = some (.slice A cs.length cap)) (first | exact ⟨c0, c1, c2⟩ | exact ⟨keepC hb4 (keepC hb3 c0), keepC hb4 (keepC hb3 c1), keepC hb4 (keepC hb3 c2)⟩ | exact ⟨keepC hb3 c0, keepC hb3 c1, keepC hb3 c2⟩) (first | (go_at_call 85; ((with_reducible refine HC1.out.mono ?_); rintro e w3 ⟨A3, cap3, rfl, hown3, hb3⟩)) | (go_at_call 76; (refine (HP1.out k w3 A3 cap3 (HRR.out.below (undrew0 hb3) hBr) (Nat.le_trans hBr hb3.size) (own_rdP hown3 (endD_len _ _ _ _))).mono ?_); rintro e w4 ⟨A4, cap4, rfl, hown4, hb4⟩))
      have hB4 : Below wr.heap.size wr w4 := belowT (undrew0 hb3) hb4
      have hz3 : wr.heap.size ≤ w3.heap.size := hb3.size
      obtain ⟨g4, cap4', e4, hg4, hg4', _⟩ := own_form hown4 (by omega)
      injection e4 with e4 _ e4c
      subst e4
      clear e4c
      have d1 := hown4.cellAt k (by omega)
      rw [List.getElem?_map, HG1.out] at d1
      simp only [Option.map_some] at d1
      have HD1 := Lib.hid d1
      have hlt4 : wr.heap.size ≤ g4 := by omega
      have c0 := keepC hB4 c0
      have c1 := keepC hB4 c1
      have c2 := keepC hB4 c2
      have hz4 := hB4.size
      have hB4r : B ≤ w4.heap.size := by omega
      have HR4 := Lib.hid (HRR.out.below hB4 hBr)
      have HC2 := Lib.hid (HEN.out true k w4.drew (HR4.out.keep (fun _ _ => rfl)) hB4r)
      have HB4 := Lib.hid hB4
      clear hb3 hb4 hown3 hown4 hB4 d1 HC1 HRR
      go_upto_region 9 with fail
      go_region_held3 (fun w' => w'.cell? ⟨w.heap.size, 0, none⟩ = some (.int .i64 lo) ∧ w'.cell? ⟨w.heap.size, 1, none⟩ = some (.int .i64 hi) ∧ w'.cell? ⟨w.heap.size, 2, none⟩ = some (.slice A cs.length cap)) (first | exact ⟨c0, c1, c2⟩ | exact ⟨keepC hb6 (keepC hb5 c0), keepC hb6 (keepC hb5 c1), keepC hb6 (keepC hb5 c2)⟩ | exact ⟨keepC hb5 c0, keepC hb5 c1, keepC hb5 c2⟩) (first | (go_at_call 85; ((with_reducible refine HC2.out.mono ?_); rintro e w5 ⟨A5, cap5, rfl, hown5, hb5⟩)) | (go_at_call 76; (refine (HP2.out k w5 A5 cap5 (HR4.out.below (undrew0 hb5) hB4r) (Nat.le_trans hB4r hb5.size) (own_rdP hown5 (endD_len _ _ _ _))).mono ?_); rintro e w6 ⟨A6, cap6, rfl, hown6, hb6⟩))
      have hB6 : Below w4.heap.size w4 w6 := belowT (undrew0 hb5) hb6
      have hz5 : w4.heap.size ≤ w5.heap.size := hb5.size
      obtain ⟨g6, cap6', e6, hg6, hg6', _⟩ := own_form hown6 (by omega)
      injection e6 with e6 _ e6c
      subst e6
      clear e6c
      have d2 := hown6.cellAt k (by omega)
      rw [List.getElem?_map, HG2.out] at d2
      simp only [Option.map_some] at d2
      have d1 := keepC hB6 HD1.out
      have hlt6 : wr.heap.size ≤ g6 := by omega
      have HB6 := Lib.hid (belowT HB4.out hB6)
      have hz6 := hB6.size
      have HO6 := Lib.hid (own_below OWN.out HB6.out)
      have hz16 : w1.heap.size ≤ w6.heap.size := by omega
      have HFAR : Hid (∀ g, wr.heap.size ≤ g → some g ≠ v.ownBlock) := Lib.hid (fun g hg e => by have := (OWN.out.lt g e.symm).2; omega)
      have hk00 : (k : Int) < (cs.length : Int) := by omega
      clear hb5 hb6 hown5 hown6 hB6 HC2 HR4 HD1 c0 c1 c2
      go_upto_region 10 with fail
      go_region_held3 (fun w' => w'.cell? ⟨g4, k, none⟩ = some (.int .i64 x) ∧ w'.cell? ⟨g6, k, none⟩ = some (.int .i64 y)) (first | exact ⟨d1, d2⟩ | exact ⟨keepA d1 _, keepA d2 _⟩ | exact ⟨hd17, hd27⟩) (((with_reducible refine step_at (w6.alloc (.cells #[.int .i64 x, .int .i64 y] 39)).drew ?_); have hownA := (HO6.out.alloc (.cells #[.int .i64 x, .int .i64 y] 39)).drew; have hbA : Below w6.heap.size w6 _ := belowDq (belowA (belowR w6) (.cells #[.int .i64 x, .int .i64 y] 39)); refine step_append_lies _ (by rfl) _ _ _ (by rfl) w1.heap.size 39 i0 _ 2 16 Try.underlying52 hi0 hz0 hz1 hz2 rfl (by omega) _ k _ (by rfl) hownA ⟨w6.heap.size, 0, none⟩ 1 1 [.int .i64 x, .int .i64 y] (by rfl) (by rfl) (World.news_of_block (cs := #[.int .i64 x, .int .i64 y]) (t := 39) (fr := (0, 0)) (heap_alloc_new w6 _)) (by simp [Value.oneCell']) (by omega) hk9 hk16 (Nat.le_trans hz16 hbA.size) _ rfl ?_; intro gg cap9 w7 hown7 hgrow7 hat7 hlt7; have hd17 : w7.cell? ⟨g4, k, none⟩ = some (.int .i64 x) := (hgrow7.cell_far ⟨g4, k, none⟩ (by simp; omega) (HFAR.out g4 hlt4)).trans (keepA d1 _); have hd27 : w7.cell? ⟨g6, k, none⟩ = some (.int .i64 y) := (hgrow7.cell_far ⟨g6, k, none⟩ (by simp; omega) (HFAR.out g6 hlt6)).trans (keepA d2 _)))
      have hB7' : Below w1.heap.size w1 w7 := grownB hownA hgrow7 (Nat.le_refl _) (belowDq (belowA (belowT HBW.out HB6.out) _))
      have HO7 := Lib.hid hown7
      clear hown7 hgrow7 hownA
      go_wp2
      go_roundw
      case rel => exact ⟨k + 1, _, by omega, by go_num, rfl, Lib.hid (by rw [HS.out, List.flatMap_append]; exact HO7.out), hB7'⟩
      case measure => simp [intOf]; omega
    · obtain rfl : k = cs.length := by omega
      go_wp2
      refine bodyPost_ret (results_tmp2 rfl _ _ _) rfl ?_
      have hown := OWN.out
      obtain ⟨R, hR⟩ : ∃ R, rangesL lo hi L cs.length = R := ⟨_, rfl⟩
      have hRl : R.length = cs.length := by rw [← hR]; exact rangesL_len _ _ _ _
      rw [hR] at hown
      have hown' := hown
      rw [← hRl] at hown'
      obtain ⟨A5, cap5, rfl, _⟩ := own_rdN encSp_len hown'
      rw [hRl] at hown ⊢
      exact HFOLD.out _ _ ⟨A5, cap5, rfl, by rw [hR]; exact ownsRow_base2 hown (by omega), belowT HB1.out hbw⟩
end Go.Proofs.Ytblbbhenmhkknaa
