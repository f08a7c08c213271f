/- The reference: the owner (F43). -/
import Derived.Test.YtblbbhenmhkknaaZ0c035f
import Derived.Test.YtblbbhenmhkknaaZd186c0
namespace Go.Proofs.Ytblbbhenmhkknaa
open Go.RowKit

def stepX (c : ByteArray) (ps : List Pap) (x : Nat) (fl : List Nat) : ByteArray := if memB fl x then c else match ps[x]? with | some p => stepO c p | none => c

set_option maxRecDepth 100000 in
set_option maxHeartbeats 4000000 in
theorem refOwner_any (first : ByteArray) (A : Option Addr) (ps : List Pap) (B cap : Nat) (forged day : Int) (s : Nat) (o fl : List Nat) (w : World) (hm8 : ps.length ≤ 8) (hd : ∀ p ∈ ps, 0 ≤ p.day ∧ p.day ≤ 40000) (hs : s ≤ 65536) (ho : IsOrder ps day o) (hfl : ∀ i, i < ps.length → memB fl i = hasB s i) (hR : RdN 3 encPap w B A ps) (hB : B ≤ w.heap.size) :
    Calls Try.prog 43 #[.agg #[.string first, .slice A ps.length cap, .int .i64 forged], .int .i64 day, .int .i64 s] w fun e w' => e = .returned (.string (ownerL first ps o fl)) ∧ Below w.heap.size w w' := by
  obtain ⟨W1, hW1⟩ : ∃ W1, w.alloc (.cells #[.string first, .slice A ps.length cap, .int .i64 forged] 24) = W1 := ⟨_, rfl⟩
  have hb0 : Below w.heap.size w W1 := by rw [← hW1]; exact belowA (belowR _) _
  have p0 : W1.cell? ⟨w.heap.size, 0, none⟩ = some (.string first) := by rw [← hW1]; clear hW1; go_simp
  have p1 : W1.cell? ⟨w.heap.size, 1, none⟩ = some (.slice A ps.length cap) := by rw [← hW1]; clear hW1; go_simp
  have hz1 : w.heap.size < W1.heap.size := lt_of_cell p0
  have hdays : ∀ j, j < ps.length → 0 ≤ dayOf ps j := fun j hj => by
    obtain ⟨p, hp⟩ : ∃ p, ps[j]? = some p := ⟨_, List.getElem?_eq_getElem hj⟩
    rw [dayOf_at hp]
    exact (hd p (List.mem_of_getElem? hp)).1
  have hst : ownerL first ps (upD ps o (-1)) fl = first := by rw [upD_start ho hdays]; rfl
  have HB0 := Lib.hid hb0
  have HR1 := Lib.hid (hR.below hb0 hB)
  have HD := Lib.hid hd
  have HO := Lib.hid ho
  have HFL := Lib.hid hfl
  have HST := Lib.hid hst
  have HP1 := Lib.hid p1
  clear hb0 hR hd ho hfl hdays hst
  go_enter Try.func43, Try.ntmps43
  go_wp2
  clear hW1 p0 p1
  go_loopw [7, 8, 9] (fun vo vd va wr => ∃ (d : Int) (again : Bool) (c : ByteArray), -1 ≤ d ∧ d ≤ 40000 ∧ vd = .int .i64 d ∧ va = .bool again ∧ vo = .string c ∧ Hid ((again = true → c = ownerL first ps (upD ps o d) fl) ∧ (again = false → c = ownerL first ps o fl)) ∧ Hid (Below W1.heap.size W1 wr)) (fun _ vd va _ => match va with | .bool true => 1 + laterN ps day (intOf vd) | _ => 0)
  case atStart => exact ⟨-1, true, first, by omega, by omega, rfl, rfl, rfl, Lib.hid ⟨fun _ => HST.out.symm, fun h => by simp at h⟩, Lib.hid (belowR _)⟩
  case round =>
    obtain ⟨d, again, c, hd1, hd2, rfl, rfl, rfl, HC, HBR⟩ := hrel
    cases again
    · have hc := HC.out.2 rfl
      subst hc
      go_wp2
      go_ret
      exact ⟨rfl, belowT HB0.out HBR.out⟩
    · have hc := HC.out.1 rfl
      have HC2 := Lib.hid hc
      clear hc HC
      obtain ⟨wo, rfl⟩ : ∃ W, W = wr := ⟨_, rfl⟩
      go_wp2
      go_loopw [9, 10, 11] (fun va vn vi wz => ∃ i : Nat, i ≤ ps.length ∧ vi = .int .i64 i ∧ va = .bool (nextD ps d day i).1 ∧ vn = .int .i64 (nextD ps d day i).2 ∧ Hid (Below W1.heap.size W1 wz)) (fun _ _ vi _ => ps.length - (intOf vi).toNat)
      case atStart => exact ⟨0, Nat.zero_le _, rfl, rfl, rfl, HBR⟩
      case round =>
        clear HBR
        obtain ⟨i, hi, rfl, rfl, rfl, HBZ⟩ := hrel
        by_cases hlt : i < ps.length
        · obtain ⟨p, hp⟩ : ∃ p, ps[i]? = some p := ⟨_, List.getElem?_eq_getElem hlt⟩
          have hz := HBZ.out.size
          have q1 := keepC HBZ.out HP1.out
          obtain ⟨b, off, rfl, hbl, e0, e1, e2⟩ := papAt (HR1.out.below HBZ.out (by omega)) hp
          have hpd := HD.out p (List.mem_of_getElem? hp)
          have hsn : nextD ps d day (i + 1) = if d < p.day ∧ p.day ≤ day ∧ ((nextD ps d day i).1 = false ∨ p.day < (nextD ps d day i).2) then (true, p.day) else nextD ps d day i := by rw [nextD, dayOf_at hp]
          obtain ⟨pd, hpde⟩ : ∃ x, p.day = x := ⟨_, rfl⟩
          obtain ⟨psr, hps⟩ : ∃ x, p.src = x := ⟨_, rfl⟩
          obtain ⟨pdt, hpt⟩ : ∃ x, p.dst = x := ⟨_, rfl⟩
          rw [hpde] at e0 hpd hsn
          rw [hps] at e1
          rw [hpt] at e2
          have hp0 := hpd.1
          have hp4 := hpd.2
          have hiz : (i : Int) < (ps.length : Int) := by omega
          have hi0 : (0 : Int) ≤ (i : Int) := by omega
          obtain ⟨⟨ag, nx⟩, hr⟩ : ∃ r, nextD ps d day i = r := ⟨_, rfl⟩
          rw [hr] at hsn ⊢
          simp only at hsn ⊢
          clear hp hpd hpde hps hpt hr
          by_cases c1 : d < pd
          · by_cases c2 : pd ≤ day
            · cases ag
              · have hsn2 := hsn
                rw [if_pos ⟨c1, c2, .inl rfl⟩] at hsn2
                have HSN := Lib.hid hsn2
                clear hsn hsn2
                go_wp2
                go_roundw
                case rel => exact ⟨i + 1, by omega, by go_num, by rw [HSN.out], by rw [HSN.out], Lib.hid (belowT HBZ.out (belowA (belowR _) _))⟩
                case measure => simp [intOf]; omega
              · by_cases c3 : pd < nx
                · have hsn2 := hsn
                  rw [if_pos ⟨c1, c2, .inr c3⟩] at hsn2
                  have HSN := Lib.hid hsn2
                  clear hsn hsn2
                  go_wp2
                  go_roundw
                  case rel => exact ⟨i + 1, by omega, by go_num, by rw [HSN.out], by rw [HSN.out], Lib.hid (belowT HBZ.out (belowA (belowR _) _))⟩
                  case measure => simp [intOf]; omega
                · have hsn2 := hsn
                  rw [if_neg (fun h => h.2.2.elim (fun h => by simp at h) c3)] at hsn2
                  have HSN := Lib.hid hsn2
                  clear hsn hsn2
                  go_wp2
                  go_roundw
                  case rel => exact ⟨i + 1, by omega, by go_num, by rw [HSN.out], by rw [HSN.out], Lib.hid (belowT HBZ.out (belowA (belowR _) _))⟩
                  case measure => simp [intOf]; omega
            · have hsn2 := hsn
              rw [if_neg (fun h => c2 h.2.1)] at hsn2
              have HSN := Lib.hid hsn2
              clear hsn hsn2
              go_wp2
              go_roundw
              case rel => exact ⟨i + 1, by omega, by go_num, by rw [HSN.out], by rw [HSN.out], Lib.hid (belowT HBZ.out (belowA (belowR _) _))⟩
              case measure => simp [intOf]; omega
          · have hsn2 := hsn
            rw [if_neg (fun h => c1 h.1)] at hsn2
            have HSN := Lib.hid hsn2
            clear hsn hsn2
            go_wp2
            go_roundw
            case rel => exact ⟨i + 1, by omega, by go_num, by rw [HSN.out], by rw [HSN.out], Lib.hid (belowT HBZ.out (belowA (belowR _) _))⟩
            case measure => simp [intOf]; omega
        · obtain rfl : i = ps.length := by omega
          have hsp := nextD_spec ps d day ps.length
          obtain ⟨⟨ag, nx⟩, hr⟩ : ∃ r, nextD ps d day ps.length = r := ⟨_, rfl⟩
          rw [hr] at hsp ⊢
          simp only at hsp ⊢
          have q1 := keepC HBZ.out HP1.out
          cases ag
          · obtain ⟨rfl, hno⟩ := hsp.1 rfl
            have hend : c = ownerL first ps o fl := by rw [HC2.out, upD_end HO.out hno]
            have HEND := Lib.hid hend
            clear hsp hno hend hr
            go_wp2
            go_loopw [7, 13] (fun vo vi wy => vo = .string c ∧ vi = .int .i64 0 ∧ Hid (Below W1.heap.size W1 wy)) (fun _ _ _ => 0)
            case atStart => exact ⟨rfl, rfl, HBZ⟩
            case round =>
              clear HBZ q1
              obtain ⟨rfl, rfl, HBY⟩ := hrel
              have q1 := keepC HBY.out HP1.out
              by_cases hn0 : 0 < ps.length
              · have hn0z : (0 : Int) < (ps.length : Int) := by omega
                go_wp2
                go_roundw
                case rel => exact ⟨0, false, c, by omega, by omega, rfl, rfl, rfl, Lib.hid ⟨fun h => by simp at h, fun _ => HEND.out⟩, HBY⟩
                case measure => simp [intOf] <;> omega
              · have hn0z : ¬ (0 : Int) < (ps.length : Int) := by omega
                go_wp2
                go_roundw
                case rel => exact ⟨0, false, c, by omega, by omega, rfl, rfl, rfl, Lib.hid ⟨fun h => by simp at h, fun _ => HEND.out⟩, HBY⟩
                case measure => simp [intOf] <;> omega
          · obtain ⟨hex, hn1, hn2, hn3⟩ := hsp.2 rfl
            have hstep : ownerL c ps (onD ps nx ps.length) fl = ownerL first ps (upD ps o nx) fl := by rw [HC2.out, upD_step HO.out hn1 hn2 hn3, ownerL_append]
            have hlat := laterN_lt hn1 hn2 hex
            have hnx4 : nx ≤ 40000 := by
              obtain ⟨j, hj, e⟩ := hex
              obtain ⟨p, hp⟩ : ∃ p, ps[j]? = some p := ⟨_, List.getElem?_eq_getElem hj⟩
              rw [dayOf_at hp] at e
              have := HD.out p (List.mem_of_getElem? hp)
              omega
            have HSTEP := Lib.hid hstep
            have HLAT := Lib.hid hlat
            clear hsp hn2 hn3 hex hstep hlat hr
            go_wp2
            go_loopw [7, 13] (fun vo vi wy => ∃ k : Nat, k ≤ ps.length ∧ vi = .int .i64 k ∧ vo = .string (ownerL c ps (onD ps nx k) fl) ∧ Hid (Below W1.heap.size W1 wy)) (fun _ vi _ => ps.length - (intOf vi).toNat)
            case atStart => exact ⟨0, Nat.zero_le _, rfl, rfl, HBZ⟩
            case round =>
              clear HBZ q1
              obtain ⟨k, hk, rfl, rfl, HBY⟩ := hrel
              have q1 := keepC HBY.out HP1.out
              obtain ⟨cur, hcur⟩ : ∃ x, ownerL c ps (onD ps nx k) fl = x := ⟨_, rfl⟩
              have hone := fun (h : dayOf ps k = nx) => show ownerL c ps (onD ps nx (k + 1)) fl = stepX cur ps k fl by rw [onD_yes h, ownerL_append, hcur]; rfl
              have hskip := fun (h : dayOf ps k ≠ nx) => show ownerL c ps (onD ps nx (k + 1)) fl = cur by rw [onD_no h, hcur]
              rw [hcur]
              by_cases hltk : k < ps.length
              · obtain ⟨p, hp⟩ : ∃ p, ps[k]? = some p := ⟨_, List.getElem?_eq_getElem hltk⟩
                have hz := HBY.out.size
                obtain ⟨b, off, rfl, hbl, e0, e1, e2⟩ := papAt (HR1.out.below HBY.out (by omega)) hp
                have hpd := HD.out p (List.mem_of_getElem? hp)
                rw [dayOf_at hp] at hone hskip
                have hsx : stepX cur ps k fl = if hasB s k then cur else stepO cur p := by unfold stepX; rw [HFL.out k hltk, hp]
                rw [hsx] at hone
                unfold stepO at hone
                obtain ⟨pd, hpde⟩ : ∃ x, p.day = x := ⟨_, rfl⟩
                obtain ⟨psr, hps⟩ : ∃ x, p.src = x := ⟨_, rfl⟩
                obtain ⟨pdt, hpt⟩ : ∃ x, p.dst = x := ⟨_, rfl⟩
                rw [hpde] at e0 hpd hone hskip
                rw [hps] at e1 hone
                rw [hpt] at e2 hone
                have hiz : (k : Int) < (ps.length : Int) := by omega
                have hi0 : (0 : Int) ≤ (k : Int) := by omega
                clear hp hpd hpde hps hpt hcur hsx
                by_cases c1 : pd = nx
                · have hone := hone c1
                  have hb1 : (pd == nx) = true := beq_iff_eq.2 c1
                  have hca := fun W => has_any s k W hs (by omega)
                  have HSN := Lib.hid hone
                  clear hone hskip c1
                  cases hh : hasB s k
                  · rw [hh] at hca
                    have HCA := Lib.hid hca
                    have hsn := HSN.out
                    rw [hh] at hsn
                    simp only [Bool.false_eq_true, if_false] at hsn
                    clear hca hh HSN
                    cases he : (psr.toList == cur.toList)
                    · rw [he] at hsn
                      simp only [Bool.false_eq_true, if_false] at hsn
                      have HSN := Lib.hid hsn
                      clear hsn
                      go_wp2_with fail
                      refine (HCA.out _).mono ?_
                      rintro e w5 ⟨rfl, rfl⟩
                      go_wp2
                      go_roundw
                      case rel => exact ⟨k + 1, by omega, by go_num, by rw [HSN.out], Lib.hid (belowT HBY.out (belowA (belowR _) _))⟩
                      case measure => simp [intOf]; omega
                    · rw [he] at hsn
                      simp only [if_true] at hsn
                      have HSN := Lib.hid hsn
                      clear hsn
                      go_wp2_with fail
                      refine (HCA.out _).mono ?_
                      rintro e w5 ⟨rfl, rfl⟩
                      go_wp2
                      go_roundw
                      case rel => exact ⟨k + 1, by omega, by go_num, by rw [HSN.out], Lib.hid (belowT HBY.out (belowA (belowR _) _))⟩
                      case measure => simp [intOf]; omega
                  · rw [hh] at hca
                    have HCA := Lib.hid hca
                    have hsn := HSN.out
                    rw [hh] at hsn
                    simp only [if_true] at hsn
                    have HSN2 := Lib.hid hsn
                    clear hca hh HSN hsn
                    go_wp2_with fail
                    refine (HCA.out _).mono ?_
                    rintro e w5 ⟨rfl, rfl⟩
                    go_wp2
                    go_roundw
                    case rel => exact ⟨k + 1, by omega, by go_num, by rw [HSN2.out], Lib.hid (belowT HBY.out (belowA (belowR _) _))⟩
                    case measure => simp [intOf]; omega
                · have hb1 : (pd == nx) = false := beq_eq_false_iff_ne.2 c1
                  have HSK := Lib.hid (hskip c1)
                  clear hone hskip c1
                  go_wp2
                  go_roundw
                  case rel => exact ⟨k + 1, by omega, by go_num, by rw [HSK.out], Lib.hid (belowT HBY.out (belowA (belowR _) _))⟩
                  case measure => simp [intOf]; omega
              · obtain rfl : k = ps.length := by omega
                have HCUR : Hid (cur = ownerL first ps (upD ps o nx) fl) := Lib.hid (hcur.symm.trans HSTEP.out)
                clear hone hskip hcur
                go_wp2
                go_roundw
                case rel => exact ⟨nx, true, cur, by omega, by omega, rfl, rfl, rfl, Lib.hid ⟨fun _ => HCUR.out, fun h => by simp at h⟩, HBY⟩
                case measure => have := HLAT.out; simp [intOf]; omega
end Go.Proofs.Ytblbbhenmhkknaa
