/- ClaimPaid: the walk. -/
import Derived.Test.YtblbbhenmhkknaaYL5
import Derived.Test.YtblbbhenmhkknaaZ89c80a
namespace Go.Proofs.Ytblbbhenmhkknaa
open Go.RowKit

set_option maxRecDepth 1000000 in
set_option maxHeartbeats 4000000 in
theorem paid_no (lo hi : Int) (A U : Option Addr) (cs : List Clm) (us : List Int) (B cap capU : Nat) (w : World) (hm : cs.length ≤ cap) (hcm : cap ≤ maxLen) (hok : ClmsOk cs) (hR : RdN 4 encClm w B A cs) (hB : B ≤ w.heap.size) (hb : rightB lo hi cs = false) :
    Calls Try.prog 9 #[.agg #[.int .i64 lo, .int .i64 hi, .slice A cs.length cap], .slice U us.length capU] w fun e w' => e = .returned (.bool true) ∧ Below w.heap.size w w' := by
  obtain ⟨W1, hW1⟩ : ∃ W1, w.alloc (.cells #[.int .i64 lo, .int .i64 hi, .slice A cs.length cap] 42) = W1 := ⟨_, rfl⟩
  have hb0 : Below w.heap.size w W1 := by rw [← hW1]; exact belowA (belowR _) _
  have p0 : W1.cell? ⟨w.heap.size, 0, none⟩ = some (.int .i64 lo) := by rw [← hW1]; clear hW1; go_simp
  have p1 : W1.cell? ⟨w.heap.size, 1, none⟩ = some (.int .i64 hi) := by rw [← hW1]; clear hW1; go_simp
  have p2 : W1.cell? ⟨w.heap.size, 2, none⟩ = some (.slice A cs.length cap) := by rw [← hW1]; clear hW1; go_simp
  have HB0 := Lib.hid hb0
  have hz1 := hb0.size
  have HR := Lib.hid (hR.below hb0 hB)
  have hE : estErr lo hi cs ≠ 0 := by simpa [rightB] using hb
  have htE : truthE lo hi cs 0 [] = estErr lo hi cs := by unfold truthE; rw [if_neg hE]
  have hpn := fun W (hR : RdN 4 encClm W B A cs) (hB : B ≤ W.heap.size) => pays_no lo hi A none cs B cap 0 0 [] W hm hcm hok hR hB Rd1.nil (by rw [htE]; exact hE)
  rw [htE] at hpn
  have hrr := fun W (hR : RdN 4 encClm W B A cs) (hB : B ≤ W.heap.size) => right_any lo hi A cs B cap W hm hcm hok hR hB
  obtain ⟨E, hEE⟩ : ∃ E, estErr lo hi cs = E := ⟨_, rfl⟩
  rw [hEE] at hE hpn
  rw [hb] at hrr
  have hne : (E != 0) = true := by simpa using hE
  have HPN := Lib.hid hpn
  have HRR := Lib.hid hrr
  clear hpn hrr hE hEE hb hR hb0 htE
  go_enter Try.func9, Try.ntmps9
  go_wp2_with fail
  refine (HRR.out _ HR.out (by omega)).mono ?_
  rintro e w1 ⟨rfl, hb1⟩
  have s0 := keepC hb1 p0
  have s1 := keepC hb1 p1
  have s2 := keepC hb1 p2
  have HB1 := Lib.hid hb1
  have hz2 := hb1.size
  clear hb1 p0 p1 p2
  go_wp2_with fail
  refine (HPN.out _ (HR.out.below HB1.out (by omega)) (by omega)).mono ?_
  rintro e w2 ⟨rfl, hb2⟩
  have HB2 := Lib.hid hb2
  clear hb2 s0 s1 s2
  go_wp2_with fail
  refine (awake_any _).mono ?_
  rintro e w3 ⟨rfl, hb3⟩
  go_wp2
  go_ret
  exact ⟨rfl, belowT (belowT (belowT HB0.out HB1.out) HB2.out) hb3⟩

theorem take_sum {l : List Int} {k : Nat} {x : Int} (h : l[k]? = some x) : (l.take (k + 1)).sum = (l.take k).sum + x := by
  obtain ⟨hk, rfl⟩ := List.getElem?_eq_some_iff.1 h
  rw [List.take_succ_eq_append_getElem hk, List.sum_append]; simp

set_option maxRecDepth 1000000 in
set_option maxHeartbeats 8000000 in
theorem paid_yes (lo hi : Int) (A U : Option Addr) (cs : List Clm) (us : List Int) (B cap capU : Nat) (w : World) (hm : cs.length ≤ cap) (hcm : cap ≤ maxLen) (hok : ClmsOk cs) (hR : RdN 4 encClm w B A cs) (hB : B ≤ w.heap.size)
    (hU : Rd1 uv w B U us) (hul : us.length ≤ maxLen) (hub : ∀ x ∈ us, 0 ≤ x ∧ x ≤ 4294967295) (hb : rightB lo hi cs = true) :
    Calls Try.prog 9 #[.agg #[.int .i64 lo, .int .i64 hi, .slice A cs.length cap], .slice U us.length capU] w fun e w' => e = .returned (.bool true) ∧ Below w.heap.size w w' := by
  obtain ⟨W1, hW1⟩ : ∃ W1, w.alloc (.cells #[.int .i64 lo, .int .i64 hi, .slice A cs.length cap] 42) = W1 := ⟨_, rfl⟩
  have hb0 : Below w.heap.size w W1 := by rw [← hW1]; exact belowA (belowR _) _
  have p0 : W1.cell? ⟨w.heap.size, 0, none⟩ = some (.int .i64 lo) := by rw [← hW1]; clear hW1; go_simp
  have p1 : W1.cell? ⟨w.heap.size, 1, none⟩ = some (.int .i64 hi) := by rw [← hW1]; clear hW1; go_simp
  have p2 : W1.cell? ⟨w.heap.size, 2, none⟩ = some (.slice A cs.length cap) := by rw [← hW1]; clear hW1; go_simp
  have HB0 := Lib.hid hb0
  have hz1 := hb0.size
  have HR := Lib.hid (hR.below hb0 hB)
  have HU := Lib.hid (hU.below hb0 hB)
  have hE : estErr lo hi cs = 0 := by simpa [rightB] using hb
  have hest := est_ok hE
  have hle8 := hest.len.2
  have hge1 := hest.len.1
  have ht := any_truth (us := us) hE
  have hrr := fun W (hR : RdN 4 encClm W B A cs) (hB : B ≤ W.heap.size) => right_any lo hi A cs B cap W hm hcm hok hR hB
  rw [hb] at hrr
  obtain ⟨P, hP⟩ : ∃ P, anyP lo hi us = P := ⟨_, rfl⟩
  obtain ⟨ds, hds⟩ : ∃ ds, anyD cs us cs.length = ds := ⟨_, rfl⟩
  have hdl : ds.length = cs.length := by rw [← hds]; exact anyD_len _ _ _
  have hany := fun W (hR : RdN 4 encClm W B A cs) (hB : B ≤ W.heap.size) (hU : Rd1 uv W B U us) => any_any lo hi A U cs us B cap capU W hR hB hU hul hub hE
  unfold AnyPost at hany
  rw [hP, hds] at ht hany
  have hto := (truthE_ok ht).1
  have hok3 := hto.ok3
  have hp0 : 0 ≤ P := by have := hest.span; have := hto.pro; omega
  have hp9 : P ≤ 1000000000 := by have := hest.span; have := hto.pro; omega
  have hpy := fun W A2 cap2 (hR : RdN 4 encClm W W.heap.size A cs) (hD : Rd1 iv W W.heap.size A2 ds) => pays_yes lo hi A A2 cs W.heap.size cap cap2 P ds W hm hcm hok hR (Nat.le_refl _) hD ht
  rw [hdl] at hpy
  unfold PaysYes at hpy
  -- the facts of each index
  have hrow : ∀ i, i < cs.length → ∃ c d p, cs[i]? = some c ∧ ds[i]? = some d ∧ (pays (jl cs ds) P)[i]? = some p ∧ 0 ≤ p ∧ p ≤ d ∧ d ≤ 1000000000 := fun i hi => by
    obtain ⟨c, hc⟩ : ∃ c, cs[i]? = some c := ⟨_, List.getElem?_eq_getElem hi⟩
    obtain ⟨d, hd⟩ : ∃ d, ds[i]? = some d := ⟨_, List.getElem?_eq_getElem (by omega)⟩
    have hj := jl_at (ds := ds) hc
    rw [getD_at hd] at hj
    have hbd := payAt_bound (P := P) hok3 (List.mem_of_getElem? hj)
    have h9 := (hok3 _ (List.mem_of_getElem? hj)).2.2.2.1
    exact ⟨c, d, _, hc, hd, pays_get hj, hbd.1, hbd.2, h9⟩
  have hlater : ∀ (i k : Nat) (ci ck : Clm) (di dk pi pk : Int), cs[i]? = some ci → cs[k]? = some ck → ds[i]? = some di → ds[k]? = some dk → (pays (jl cs ds) P)[i]? = some pi → (pays (jl cs ds) P)[k]? = some pk → ck.rank < ci.rank → pk < dk → pi = 0 := fun i k ci ck di dk pi pk h1 h2 h3 h4 h5 h6 hr hs => by
    have hji := jl_at (ds := ds) h1
    have hjk := jl_at (ds := ds) h2
    rw [getD_at h3] at hji
    rw [getD_at h4] at hjk
    rw [pays_get hji] at h5
    rw [pays_get hjk] at h6
    injection h5 with h5
    injection h6 with h6
    rw [← h5]
    exact later_none (c := ⟨ck.rank, dk, dk⟩) hok3 (by have := (hok3 _ (List.mem_of_getElem? hjk)).1; omega) (by rw [h6]; exact hs) hr
  have hshort : ∀ (k : Nat) (dk pk : Int), k < cs.length → ds[k]? = some dk → (pays (jl cs ds) P)[k]? = some pk → pk < dk → P - (pays (jl cs ds) P).sum < cs.length := fun k dk pk hk h4 h6 hs => by
    obtain ⟨ck, h2⟩ : ∃ c, cs[k]? = some c := ⟨_, List.getElem?_eq_getElem hk⟩
    have hjk := jl_at (ds := ds) h2
    rw [getD_at h4] at hjk
    rw [pays_get hjk] at h6
    injection h6 with h6
    have := short_rest hok3 hp0 (List.mem_of_getElem? hjk) (by rw [h6]; exact hs)
    rwa [jl_len] at this
  have htot := (pays_total (l := jl cs ds) hok3 hp0).1
  have hpl : (pays (jl cs ds) P).length = cs.length := by rw [pays_len, jl_len]
  obtain ⟨PL, hPL⟩ : ∃ PL, pays (jl cs ds) P = PL := ⟨_, rfl⟩
  rw [hPL] at hpy hrow hlater hshort hpl htot
  obtain ⟨RST, hRST⟩ : ∃ r, P - PL.sum = r := ⟨_, rfl⟩
  rw [hRST] at hpy hshort
  have hr0 : 0 ≤ RST := by omega
  have hpart : ∀ k, 0 ≤ (PL.take k).sum ∧ (PL.take k).sum ≤ 9000000000 := fun k => by
    have hb := sum_bound (l := PL.take k) (b := 1000000000) (fun x hx => by
      obtain ⟨j, hj⟩ := List.getElem?_of_mem (List.mem_of_mem_take hx)
      have hjl : j < cs.length := by have := (List.getElem?_eq_some_iff.1 hj).1; omega
      obtain ⟨_, d, p, _, _, h3, h4, h5, h6⟩ := hrow j hjl
      rw [h3] at hj
      injection hj with hj
      omega)
    have hl : (PL.take k).length ≤ 8 := by rw [List.length_take]; omega
    omega
  have hr9 : RST ≤ 1000000000 := by have := (hpart PL.length).1; rw [List.take_length] at this; omega
  have hrlt : decide (RST < 0) = false := by simp; omega
  have HRR := Lib.hid hrr
  have HANY := Lib.hid hany
  have HPY := Lib.hid hpy
  have HROW := Lib.hid hrow
  have HLATER := Lib.hid hlater
  have HSHORT := Lib.hid hshort
  have HPART := Lib.hid hpart
  have HDL := Lib.hid hdl
  have HPL := Lib.hid hpl
  have HRST := Lib.hid hRST
  clear hrr hb hest ht hto hok3 hany hpy hrow hlater hshort hpart htot hE hP hds hPL hdl hpl hRST hR hU hb0
  go_enter Try.func9, Try.ntmps9
  go_wp2_with fail
  refine (HRR.out _ HR.out (by omega)).mono ?_
  rintro e w1 ⟨rfl, hb1⟩
  have s0 := keepC hb1 p0
  have s1 := keepC hb1 p1
  have s2 := keepC hb1 p2
  have hz2 := hb1.size
  have HB1 := Lib.hid hb1
  clear hb1 p0 p1 p2
  go_wp2_with fail
  refine (HANY.out _ (HR.out.below HB1.out (by omega)) (by omega) (HU.out.below HB1.out (by omega))).mono ?_
  rintro e w2 ⟨A2, cap2, rfl, hown2, hb2⟩
  have r0 := keepC hb2 s0
  have r1 := keepC hb2 s1
  have r2 := keepC hb2 s2
  have k0 := fun ob => keepA r0 ob
  have k1 := fun ob => keepA r1 ob
  have k2 := fun ob => keepA r2 ob
  have hz3 := hb2.size
  have HD2 := Lib.hid (own_rd1' hown2 HDL.out)
  have HB2 := Lib.hid (belowT HB1.out hb2)
  clear hb2 hown2 s0 s1 s2 HB1 HANY
  go_wp2_with fail
  refine (HPY.out _ A2 cap2 (((HR.out.below HB2.out (by omega)).alloc (by omega) _).more (by simp; omega)) ((HD2.out.alloc (Nat.le_refl _) _).more (by simp))).mono ?_
  rintro e w3 ⟨A3, cap3, rfl, hown3, hb3⟩
  have x0 : w3.cell? ⟨w2.heap.size, 0, none⟩ = some (.int .i64 P) := keepC hb3 (by go_simp)
  have x1 : w3.cell? ⟨w2.heap.size, 1, none⟩ = some (.slice A2 cs.length cap2) := keepC hb3 (by go_simp)
  have x2 : w3.cell? ⟨w.heap.size, 2, none⟩ = some (.slice A cs.length cap) := keepC hb3 (keepA r2 _)
  have hB23 : Below w2.heap.size w2 w3 := belowT (belowA (belowR _) _) hb3
  have hz4 := hB23.size
  have HP3 := Lib.hid (own_rd1' hown3 HPL.out)
  have HD3 := Lib.hid (HD2.out.below hB23 (Nat.le_refl _))
  have HR3 := Lib.hid ((HR.out.below HB2.out (by omega)).below hB23 (by omega))
  have HB3 := Lib.hid (belowT HB0.out (belowT HB2.out hB23))
  clear hb3 hB23 hown3 r0 r1 r2 k0 k1 k2 HD2 HB2 HPY HR HU
  go_wp2
  go_loopw [14, 12, 13] (fun vi vs vh wr => ∃ i s : Nat, i ≤ cs.length ∧ vi = .int .i64 i ∧ vs = .int .i64 (RST + (PL.take i).sum) ∧ vh = .int .i64 s ∧ s ≤ i ∧ Hid (0 < s → RST < cs.length) ∧ Hid (Below w3.heap.size w3 wr)) (fun vi _ _ _ => cs.length - (intOf vi).toNat)
  case atStart => exact ⟨0, 0, Nat.zero_le _, rfl, by simp, rfl, Nat.le_refl _, Lib.hid (fun h => absurd h (Nat.lt_irrefl _)), Lib.hid (belowR _)⟩
  case round =>
    obtain ⟨i, s, hi, rfl, rfl, rfl, hsi, HS, HBR⟩ := hrel
    have hpt := HPART.out i
    obtain ⟨T, hT⟩ : ∃ T, (PL.take i).sum = T := ⟨_, rfl⟩
    rw [hT] at hpt ⊢
    have hT0 := hpt.1
    have hT9 := hpt.2
    have HT := Lib.hid hT
    clear hpt hT
    by_cases hlt : i < cs.length
    · obtain ⟨c, d, p, hc, hd, hp, hp0', hpd, hd9⟩ := HROW.out i hlt
      have hts := take_sum hp
      rw [HT.out] at hts
      have HTS := Lib.hid hts
      have HC := Lib.hid hc
      have HD := Lib.hid hd
      have HP := Lib.hid hp
      have y1 := keepC HBR.out x1
      obtain ⟨b1, o1, rfl, _, c1⟩ := (HP3.out.below HBR.out (by omega)) i p hp
      obtain ⟨b2, o2, rfl, _, c2⟩ := (HD3.out.below HBR.out (by omega)) i d hd
      have hkz : (i : Int) < (cs.length : Int) := by omega
      have hk0 : (0 : Int) ≤ (i : Int) := by omega
      have hd1 : decide (p < 0) = false := by simp; omega
      have hd2 : decide (d < p) = false := by simp; omega
      clear hts hc hd hp
      go_wp2
      go_quiet (fail)
      have HB4 := Lib.hid (belowN HBR.out nq)
      have y1 : (wr.drewN nq).cell? ⟨w2.heap.size, 1, none⟩ = some (.slice (some ⟨b2, o2, none⟩) cs.length cap2) := y1
      have c1 : (wr.drewN nq).cell? ⟨b1, o1 + i, none⟩ = some (.int .i64 p) := c1
      have c2 : (wr.drewN nq).cell? ⟨b2, o2 + i, none⟩ = some (.int .i64 d) := c2
      clear HBR
      generalize wr.drewN nq = wq at *
      by_cases kk : p < d
      · have HS2 : Hid (0 < s + 1 → RST < cs.length) := Lib.hid (fun _ => HSHORT.out i d p hlt HD.out HP.out kk)
        go_wp2
        go_quiet (fail)
        have HB5 := Lib.hid (belowN HB4.out nq)
        clear y1 c1 c2 HB4
        generalize wq.drewN nq = wt at *
        go_wp2
        go_loopw [15] (fun vk wz => ∃ k : Nat, k ≤ cs.length ∧ vk = .int .i64 k ∧ Hid (Below w3.heap.size w3 wz)) (fun vk _ => cs.length - (intOf vk).toNat)
        case atStart => exact ⟨0, Nat.zero_le _, rfl, HB5⟩
        case round =>
          clear HB5
          obtain ⟨k, hk, rfl, HBZ⟩ := hrel
          by_cases hltk : k < cs.length
          · obtain ⟨ck, dk, pk, hck, hdk, hpk, hk0', hkd, hk9⟩ := HROW.out k hltk
            have y1 := keepC HBZ.out x1
            have y2 := keepC HBZ.out x2
            obtain ⟨b3, o3, rfl, _, _, e1, _, _⟩ := clmAt (HR3.out.below HBZ.out (by omega)) hck
            obtain ⟨b3', o3', ee, _, _, e1', _, _⟩ := clmAt (HR3.out.below HBZ.out (by omega)) HC.out
            injection ee with ee
            injection ee with ee1 ee2
            subst ee1 ee2
            obtain ⟨b1', o1', ee, _, g1⟩ := (HP3.out.below HBZ.out (by omega)) k pk hpk
            injection ee with ee
            injection ee with ee1 ee2
            subst ee1 ee2
            obtain ⟨b1', o1', ee, _, g2⟩ := (HP3.out.below HBZ.out (by omega)) i p HP.out
            injection ee with ee
            injection ee with ee1 ee2
            subst ee1 ee2
            obtain ⟨b2', o2', ee, _, g3⟩ := (HD3.out.below HBZ.out (by omega)) k dk hdk
            injection ee with ee
            injection ee with ee1 ee2
            subst ee1 ee2
            have hqz : (k : Int) < (cs.length : Int) := by omega
            have hq0 : (0 : Int) ≤ (k : Int) := by omega
            by_cases h1 : ck.rank < c.rank
            · by_cases h2 : pk < dk
              · have hp0z : decide (0 < p) = false := by simp [HLATER.out i k c ck d dk p pk HC.out hck HD.out hdk HP.out hpk h1 h2]
                clear hck hdk hpk
                go_wp2
                go_quiet (fail)
                go_wp2
                go_roundw
                case rel => exact ⟨k + 1, by omega, by go_num, Lib.hid (belowN HBZ.out _)⟩
                case measure => simp [intOf]; omega
              · have h2' : decide (pk < dk) = false := by simpa using h2
                clear hck hdk hpk
                go_wp2
                go_quiet (fail)
                go_wp2
                go_roundw
                case rel => exact ⟨k + 1, by omega, by go_num, Lib.hid (belowN HBZ.out _)⟩
                case measure => simp [intOf]; omega
            · have h1' : decide (ck.rank < c.rank) = false := by simpa using h1
              clear hck hdk hpk
              go_wp2
              go_quiet (fail)
              go_wp2
              go_roundw
              case rel => exact ⟨k + 1, by omega, by go_num, Lib.hid (belowN HBZ.out _)⟩
              case measure => simp [intOf]; omega
          · obtain rfl : k = cs.length := by omega
            go_wp2
            go_roundw
            case rel => exact ⟨i + 1, s + 1, by omega, by go_num, by rw [HTS.out]; exact congrArg (Value.int .i64) (by omega), by go_num, by omega, HS2, HBZ⟩
            case measure => simp [intOf]; omega
      · have kk' : decide (p < d) = false := by simpa using kk
        go_wp2
        go_quiet (fail)
        have HB5 := Lib.hid (belowN HB4.out nq)
        clear y1 c1 c2 HB4
        generalize wq.drewN nq = wt at *
        go_wp2
        go_loopw [15] (fun vk wz => ∃ k : Nat, k ≤ cs.length ∧ vk = .int .i64 k ∧ Hid (Below w3.heap.size w3 wz)) (fun vk _ => cs.length - (intOf vk).toNat)
        case atStart => exact ⟨0, Nat.zero_le _, rfl, HB5⟩
        case round =>
          clear HB5
          obtain ⟨k, hk, rfl, HBZ⟩ := hrel
          by_cases hltk : k < cs.length
          · obtain ⟨ck, dk, pk, hck, hdk, hpk, hk0', hkd, hk9⟩ := HROW.out k hltk
            have y1 := keepC HBZ.out x1
            have y2 := keepC HBZ.out x2
            obtain ⟨b3, o3, rfl, _, _, e1, _, _⟩ := clmAt (HR3.out.below HBZ.out (by omega)) hck
            obtain ⟨b3', o3', ee, _, _, e1', _, _⟩ := clmAt (HR3.out.below HBZ.out (by omega)) HC.out
            injection ee with ee
            injection ee with ee1 ee2
            subst ee1 ee2
            obtain ⟨b1', o1', ee, _, g1⟩ := (HP3.out.below HBZ.out (by omega)) k pk hpk
            injection ee with ee
            injection ee with ee1 ee2
            subst ee1 ee2
            obtain ⟨b1', o1', ee, _, g2⟩ := (HP3.out.below HBZ.out (by omega)) i p HP.out
            injection ee with ee
            injection ee with ee1 ee2
            subst ee1 ee2
            obtain ⟨b2', o2', ee, _, g3⟩ := (HD3.out.below HBZ.out (by omega)) k dk hdk
            injection ee with ee
            injection ee with ee1 ee2
            subst ee1 ee2
            have hqz : (k : Int) < (cs.length : Int) := by omega
            have hq0 : (0 : Int) ≤ (k : Int) := by omega
            by_cases h1 : ck.rank < c.rank
            · by_cases h2 : pk < dk
              · have hp0z : decide (0 < p) = false := by simp [HLATER.out i k c ck d dk p pk HC.out hck HD.out hdk HP.out hpk h1 h2]
                clear hck hdk hpk
                go_wp2
                go_quiet (fail)
                go_wp2
                go_roundw
                case rel => exact ⟨k + 1, by omega, by go_num, Lib.hid (belowN HBZ.out _)⟩
                case measure => simp [intOf]; omega
              · have h2' : decide (pk < dk) = false := by simpa using h2
                clear hck hdk hpk
                go_wp2
                go_quiet (fail)
                go_wp2
                go_roundw
                case rel => exact ⟨k + 1, by omega, by go_num, Lib.hid (belowN HBZ.out _)⟩
                case measure => simp [intOf]; omega
            · have h1' : decide (ck.rank < c.rank) = false := by simpa using h1
              clear hck hdk hpk
              go_wp2
              go_quiet (fail)
              go_wp2
              go_roundw
              case rel => exact ⟨k + 1, by omega, by go_num, Lib.hid (belowN HBZ.out _)⟩
              case measure => simp [intOf]; omega
          · obtain rfl : k = cs.length := by omega
            go_wp2
            go_roundw
            case rel => exact ⟨i + 1, s, by omega, by go_num, by rw [HTS.out]; exact congrArg (Value.int .i64) (by omega), rfl, by omega, HS, HBZ⟩
            case measure => simp [intOf]; omega
    · obtain rfl : i = cs.length := by omega
      have hTP : RST + T = P := by
        have h1 := HT.out
        rw [show PL.take cs.length = PL from by rw [← HPL.out]; exact List.take_length] at h1
        have := HRST.out
        omega
      have y0 := keepC HBR.out x0
      have hbeq : (RST + T == P) = true := beq_iff_eq.2 hTP
      clear hTP
      by_cases hs0 : s = 0
      · subst hs0
        go_wp2_with fail
        refine (awake_any _).mono ?_
        rintro e w9 ⟨rfl, hb9⟩
        go_wp2
        go_ret
        exact ⟨rfl, belowT (belowT HB3.out HBR.out) hb9⟩
      · have hlt9 := HS.out (by omega)
        have hse : ((s : Int) == 0) = false := beq_eq_false_iff_ne.2 (by omega)
        go_wp2_with fail
        refine (awake_any _).mono ?_
        rintro e w9 ⟨rfl, hb9⟩
        go_wp2
        go_ret
        exact ⟨rfl, belowT (belowT HB3.out HBR.out) hb9⟩

theorem paid_any (lo hi : Int) (A U : Option Addr) (cs : List Clm) (us : List Int) (B cap capU : Nat) (w : World) (hm : cs.length ≤ cap) (hcm : cap ≤ maxLen) (hok : ClmsOk cs) (hR : RdN 4 encClm w B A cs) (hB : B ≤ w.heap.size)
    (hU : Rd1 uv w B U us) (hul : us.length ≤ maxLen) (hub : ∀ x ∈ us, 0 ≤ x ∧ x ≤ 4294967295) :
    Calls Try.prog 9 #[.agg #[.int .i64 lo, .int .i64 hi, .slice A cs.length cap], .slice U us.length capU] w fun e w' => e = .returned (.bool true) ∧ Below w.heap.size w w' := by
  cases hb : rightB lo hi cs
  · exact paid_no lo hi A U cs us B cap capU w hm hcm hok hR hB hb
  · exact paid_yes lo hi A U cs us B cap capU w hm hcm hok hR hB hU hul hub hb
end Go.Proofs.Ytblbbhenmhkknaa
