/- The reference's Heaviest: the walk (printed by mkG5.py). BlockHeavy: the walk. -/
import Derived.Deep.DeepCutAuto
import Derived.Test.YtojgdallodmanaaZ654d27
import Derived.Test.YtojgdallodmanaaZ70505d
namespace Go.Proofs.Ytojgdallodmanaa
open Go.RowKit

section
variable {h : Hul} {l : List Wgh} {s : Nat} {M : Int} {ps : List Prt} {i : Nat} {p : Prt}
/-- A step of the reference's search by halves. -/
theorem LimInv.half (H : LimInv h l s M ps) (hp : openPre h l = 0) (hs : s < 2 ^ h.ps.length) (hi : ps[i]? = some p) {mid : Int} (h1 : p.lo ≤ mid) (h2 : mid ≤ p.hi) :
    (agreesB l (mostW (withPs h (limPs ps i p.lo mid)) l s) = true ∧ sumS (mostW (withPs h (limPs ps i p.lo mid)) l s) s = M) ↔ ∃ w, TruthP (withPs h ps) l w ∧ sumS w s = M ∧ w i ≤ mid := by
  have hpo := H.ok p (List.mem_of_getElem? hi)
  have hlen := H.len
  have hpre : openPre (withPs h (limPs ps i p.lo mid)) l = 0 := pre_withPs hp (by rw [lim_names hi, H.names]) (by unfold limPs; rw [hi]; exact set_psok H.ok hpo.1 h1 (by omega))
  have hs' : s < 2 ^ (withPs h (limPs ps i p.lo mid)).ps.length := by simp only [limPs_len, hlen]; exact hs
  obtain ⟨a, b, c⟩ := lwOk hpre
  have hmf := a.most_feas b c hs'
  constructor
  · rintro ⟨ha, hsum⟩
    obtain ⟨hw, hm⟩ := a.most_is b c (hmf.1 ha) hs'
    obtain ⟨t1, t2⟩ := (lim_truth hi (Int.le_refl _) h2 _).1 hw
    exact ⟨_, t1, hsum, t2.2⟩
  · rintro ⟨w, hw, hws, hwi⟩
    have hlo := (hw.1 i p hi).1
    have hw' := (lim_truth (h := h) hi (Int.le_refl _) h2 w).2 ⟨hw, hlo, hwi⟩
    have hf : Feas (withPs h (limPs ps i p.lo mid)) l := ⟨w, hw'⟩
    obtain ⟨hmw, hm⟩ := a.most_is b c hf hs'
    refine ⟨hmf.2 hf, ?_⟩
    have g1 := hm.1 w hw'
    have g2 := H.most.1 _ ((lim_truth hi (Int.le_refl _) h2 _).1 hmw).1
    have e : mostRef (withPs h (limPs ps i p.lo mid)) l s = sumS (mostW (withPs h (limPs ps i p.lo mid)) l s) s := rfl
    omega
end
def RefHeavyPost (h : Hul) (l : List Wgh) (set : Int) (w : World) (e : Ending) (w' : World) : Prop :=
  Below w.heap.size w w' ∧ ((enterE h l set ≠ 0 ∧ e = .returned (.tuple #[.slice none 0 0, iv (enterE h l set)])) ∨ (enterE h l set = 0 ∧ ∃ A cap, e = .returned (.tuple #[.slice A h.ps.length cap, iv 0]) ∧ w'.ownsRow w.heap.size 3 1 (.slice A h.ps.length cap) h.ps.length ((lowL h l set.toNat (mostRef h l set.toNat) h.ps.length).map iv)))

set_option maxRecDepth 100000 in
set_option maxHeartbeats 32000000 in
theorem refHeavy_any (h : Hul) (A J : Option Addr) (B cap capJ : Nat) (AL : Option Addr) (l : List Wgh) (capL : Nat) (set : Int) (w : World)
    (hH : HulRd w B h A cap J capJ) (hL : RdN 3 encWgh w B AL l) (hlm : l.length ≤ maxLen) (hB : B ≤ w.heap.size) :
    Calls Try.prog 26 #[hv h A cap J capJ, .slice AL l.length capL, .int .i64 set] w (RefHeavyPost h l set w) := by
  obtain ⟨i3, hi3, hz30, hz31, hz32⟩ := info_parts Try.info3
  obtain ⟨W1, hW1, hb1, hzz, p0, p1, p2, p3, p4⟩ := hulBox w h A cap J capJ
  have pf : ∀ o, W1.frozen? ⟨w.heap.size, o, none⟩ = false := fun o => by rw [← hW1]; clear hW1; go_simp
  have hw1 : w.heap.size < W1.heap.size := lt_of_cell p0
  have HPF : Hid (∀ W, Below W1.heap.size W1 W → ∀ o, W.frozen? ⟨w.heap.size, o, none⟩ = false) := Lib.hid fun W hb o => (World.frozen?_of_block (w := W1) (a := ⟨w.heap.size, o, none⟩) (hb.block _ hw1)).trans (pf o)
  have HKB : Hid (∀ W, Below W1.heap.size W1 W → W.cell? ⟨w.heap.size, 0, none⟩ = some (.slice A h.ps.length cap) ∧ W.cell? ⟨w.heap.size, 1, none⟩ = some (.slice J h.js.length capJ) ∧ W.cell? ⟨w.heap.size, 2, none⟩ = some (.int .i64 h.slo) ∧ W.cell? ⟨w.heap.size, 3, none⟩ = some (.int .i64 h.shi) ∧ W.cell? ⟨w.heap.size, 4, none⟩ = some (.int .i64 h.winch)) := Lib.hid fun W hb => ⟨keepC hb p0, keepC hb p1, keepC hb p2, keepC hb p3, keepC hb p4⟩
  have hBz : B ≤ W1.heap.size := Nat.le_trans hB hb1.size
  have HH := Lib.hid (hH.below hb1 hB)
  have HH0 := Lib.hid hH
  have HL0 := Lib.hid hL
  have HL := Lib.hid (hL.below hb1 hB)
  have HB0 := Lib.hid hb1
  have hac := asked_any h A J B cap capJ AL l capL set W1 HH.out HL.out hlm hBz
  by_cases h0 : enterE h l set = 0
  case neg =>
    have hen : RefHeavyPost h l set w = fun e w' => Below w.heap.size w w' ∧ e = .returned (.tuple #[.slice none 0 0, iv (enterE h l set)]) := by
      funext e w'
      unfold RefHeavyPost
      simp [h0]
    rw [hen]
    obtain ⟨E, hE⟩ : ∃ E, enterE h l set = E := ⟨_, rfl⟩
    rw [hE] at hac h0 ⊢
    have HAC := Lib.hid hac
    have hne : (E != 0) = true := by simpa using h0
    clear hac h0 hen hE hb1 hH hL hzz pf
    go_enter Try.func26, Try.ntmps26
    go_wp2_with fail
    refine HAC.out.mono ?_
    rintro e w3 ⟨rfl, hb3⟩
    have HB3 := Lib.hid hb3
    clear hb3 hW1 p0 p1 p2 p3 p4
    go_wp2_with fail
    go_ret2
    exact ⟨belowT HB0.out HB3.out, rfl⟩
  obtain ⟨hp, hf, hbe⟩ := enterE_zero h0
  have hk := hulOk (openPre_zero hp).1
  obtain ⟨s, hs256, _, hs2, rfl, _⟩ := blockE_zero hk.n8 hbe
  have hn8 := hk.n8
  have HN8 := Lib.hid hk.n8
  have HS256 := Lib.hid hs256
  have hn1 := hk.n1
  have hwo := wghsOk hp
  have hM : IsMost h l s (mostRef h l s) := by
    obtain ⟨a, b, c⟩ := lwOk hp
    exact (a.most_is b c hf hs2).2
  rw [h0] at hac
  have hgc : ∀ V, Below W1.heap.size W1 V → Calls Try.prog 72 #[hv h A cap J capJ, .slice AL l.length capL, .int .i64 s] V fun e w' => e = .returned (iv (mostRef h l s)) ∧ Below V.heap.size V w' := fun V hb => greatest_any h A J B cap capJ AL l capL s V (HH.out.below hb hBz) hk (HL.out.below hb hBz) hwo hs2 (Nat.le_trans hBz hb.size)
  have hzw : w.heap.size ≤ W1.heap.size := hb1.size
  have HFIN : Hid (∀ e w', (Below w.heap.size w w' ∧ ∃ A cap, e = .returned (.tuple #[.slice A h.ps.length cap, iv 0]) ∧ w'.ownsRow W1.heap.size 3 1 (.slice A h.ps.length cap) h.ps.length ((lowL h l s (mostRef h l s) h.ps.length).map iv)) → RefHeavyPost h l (s : Int) w e w') := Lib.hid fun e w' ⟨a, A, cap, b, c⟩ => ⟨a, .inr ⟨h0, A, cap, b, by rw [Int.toNat_natCast]; exact own_base c hzw⟩⟩
  obtain ⟨POST, hPOST⟩ : ∃ P, RefHeavyPost h l (s : Int) w = P := ⟨_, rfl⟩
  rw [hPOST] at HFIN ⊢
  obtain ⟨M, hMM⟩ : ∃ M, mostRef h l s = M := ⟨_, rfl⟩
  rw [hMM] at hgc hM HFIN
  have HINV := Lib.hid (lowTo_inv hp hM)
  have HP := Lib.hid hp
  have HS2 := Lib.hid hs2
  have HGC := Lib.hid hgc
  have HAC := Lib.hid hac
  have HWO := Lib.hid hwo
  have HK := Lib.hid hk
  have hpl := hH.pl
  have hpm := hH.pm
  unfold maxLen at hpm
  have HJL := Lib.hid hH.jl
  have HJM := Lib.hid hH.jm
  clear hac h0 hgc hM hp hwo hk hbe hf hb1 hH hL hzz pf hPOST hMM hs2
  go_enter Try.func26, Try.ntmps26
  go_wp2_with fail
  refine HAC.out.mono ?_
  rintro e w2 ⟨rfl, hb2⟩
  have HB2 := Lib.hid hb2
  clear hb2 hW1 p0 p1 p2 p3 p4
  obtain ⟨p0, p1, p2, p3, p4⟩ := HKB.out _ HB2.out
  go_wp2_with fail
  refine (HGC.out _ HB2.out).mono ?_
  rintro e w3 ⟨rfl, hb3⟩
  have HB3 := Lib.hid (belowT HB2.out hb3)
  clear hb3 p0 p1 p2 p3 p4
  go_wp2_with fail
  obtain ⟨wq, hwq⟩ : ∃ wq : World, wq = w3 := ⟨_, rfl⟩
  have hst0 : Below w.heap.size w wq ∧ W1.heap.size ≤ wq.heap.size ∧ (∀ o, wq.frozen? ⟨w.heap.size, o, none⟩ = false) ∧ RdN 3 encWgh wq B AL l ∧ (wq.cell? ⟨w.heap.size, 0, none⟩ = some (.slice A h.ps.length cap) ∧ wq.cell? ⟨w.heap.size, 1, none⟩ = some (.slice J h.js.length capJ) ∧ wq.cell? ⟨w.heap.size, 2, none⟩ = some (.int .i64 h.slo) ∧ wq.cell? ⟨w.heap.size, 3, none⟩ = some (.int .i64 h.shi) ∧ wq.cell? ⟨w.heap.size, 4, none⟩ = some (.int .i64 h.winch)) ∧ HulRd wq wq.heap.size (withPs h (lowTo h l s M h.ps 0)) A cap J capJ := by
    rw [hwq]
    exact ⟨belowT HB0.out HB3.out, HB3.out.size, HPF.out _ HB3.out, HL.out.below HB3.out hBz, HKB.out _ HB3.out, (HH.out.below HB3.out hBz).more (Nat.le_trans hBz HB3.out.size)⟩
  have HST0 := Lib.hid hst0
  rw [← hwq]
  clear hwq hst0
  go_loopw [10, 11] (fun vv vi wr => ∃ (k : Nat) (vo : Value) (Ak : Option Addr) (capk : Nat), k ≤ h.ps.length ∧ vi = .int .i64 k ∧ vo = vv ∧ Hid (wr.ownsRow W1.heap.size 3 1 vo k ((lowL h l s M k).map iv)) ∧ Hid (Below w.heap.size w wr ∧ W1.heap.size ≤ wr.heap.size ∧ (∀ o, wr.frozen? ⟨w.heap.size, o, none⟩ = false) ∧ RdN 3 encWgh wr B AL l ∧ (wr.cell? ⟨w.heap.size, 0, none⟩ = some (.slice Ak h.ps.length capk) ∧ wr.cell? ⟨w.heap.size, 1, none⟩ = some (.slice J h.js.length capJ) ∧ wr.cell? ⟨w.heap.size, 2, none⟩ = some (.int .i64 h.slo) ∧ wr.cell? ⟨w.heap.size, 3, none⟩ = some (.int .i64 h.shi) ∧ wr.cell? ⟨w.heap.size, 4, none⟩ = some (.int .i64 h.winch)) ∧ HulRd wr wr.heap.size (withPs h (lowTo h l s M h.ps k)) Ak capk J capJ)) (fun _ vi _ => h.ps.length - (intOf vi).toNat)
  case atStart => exact ⟨0, _, A, cap, Nat.zero_le _, rfl, rfl, Lib.hid (World.ownsRow_nil _ _ _ _), HST0⟩
  case round =>
    obtain ⟨k, vo, Ak, capk, hkk, rfl, rfl, HO, HST⟩ := hrel
    obtain ⟨hbr, hzr, hfr, hLr, ⟨p0, p1, p2, p3, p4⟩, hHr⟩ := HST.out
    have hckl : h.ps.length ≤ capk := by have := hHr.pl; have e := (HINV.out k hkk).len; simp only [e] at this; exact this
    have hckm : capk ≤ maxLen := hHr.pm
    unfold maxLen at hckm
    by_cases hlt : k < h.ps.length
    · have hinv := HINV.out k (by omega)
      obtain ⟨ps, hps⟩ : ∃ ps, lowTo h l s M h.ps k = ps := ⟨_, rfl⟩
      have hlT : lowTo h l s M h.ps (k + 1) = limPs (lowTo h l s M h.ps k) k (lowC h l s M (lowTo h l s M h.ps k) k) (lowC h l s M (lowTo h l s M h.ps k) k) := rfl
      have hlL := lowL_succ h l s M k
      rw [hps] at hinv hHr hlT hlL
      have hlen := hinv.len
      obtain ⟨x, hx⟩ : ∃ x, ps[k]? = some x := ⟨_, List.getElem?_eq_getElem (by omega)⟩
      have hxo := hinv.ok x (List.mem_of_getElem? hx)
      obtain ⟨b, off, rfl, _, e0, e1, e2⟩ := prtAt hHr.ps hx
      have hhalf : ∀ mid, x.lo ≤ mid → mid ≤ x.hi → ((agreesB l (mostW (withPs h (limPs ps k x.lo mid)) l s) = true ∧ sumS (mostW (withPs h (limPs ps k x.lo mid)) l s) s = M) ↔ ∃ w, TruthP (withPs h ps) l w ∧ sumS w s = M ∧ w k ≤ mid) := fun mid a b => hinv.half HP.out HS2.out hx a b
      have hstart : (∃ w, TruthP (withPs h ps) l w ∧ sumS w s = M ∧ w k ≤ x.hi) ∧ ∀ w, TruthP (withPs h ps) l w → sumS w s = M → x.lo ≤ w k := by
        obtain ⟨_, u, hu, hus⟩ := hinv.most
        exact ⟨⟨u, hu, hus, (hu.1 k x hx).2⟩, fun u hu _ => (hu.1 k x hx).1⟩
      obtain ⟨xn, xlo, xhi⟩ := x
      simp only at e0 e1 e2 hxo hhalf hstart
      obtain ⟨hxo0, hxo1, hxo2⟩ := hxo
      have HHALF := Lib.hid hhalf
      have HSTART := Lib.hid hstart
      have HINVK := Lib.hid hinv
      have HPS := Lib.hid hps
      have HLT := Lib.hid hlT
      have HLL := Lib.hid hlL
      have HX := Lib.hid hx
      have HHR := Lib.hid hHr
      have HBR := Lib.hid hbr
      have HFR := Lib.hid hfr
      have HLR := Lib.hid hLr
      have hk0 : (0 : Int) ≤ (k : Int) := by omega
      have hkz : (k : Int) < (h.ps.length : Int) := by omega
      have HKr : Hid (∀ W, Below wr.heap.size wr W → (W.cell? ⟨w.heap.size, 0, none⟩ = some (.slice (some ⟨b, off, none⟩) h.ps.length capk) ∧ W.cell? ⟨w.heap.size, 1, none⟩ = some (.slice J h.js.length capJ) ∧ W.cell? ⟨w.heap.size, 2, none⟩ = some (.int .i64 h.slo) ∧ W.cell? ⟨w.heap.size, 3, none⟩ = some (.int .i64 h.shi) ∧ W.cell? ⟨w.heap.size, 4, none⟩ = some (.int .i64 h.winch)) ∧ W.cell? ⟨b, off + k * 3 + 1, none⟩ = some (iv xlo)) := Lib.hid fun W hb => ⟨⟨keepC hb p0, keepC hb p1, keepC hb p2, keepC hb p3, keepC hb p4⟩, keepC hb e1⟩
      have hlc : ∀ V lo hi, Below wr.heap.size wr V → Calls Try.prog 77 #[.agg #[.slice (some ⟨b, off, none⟩) h.ps.length capk, .slice J h.js.length capJ, .int .i64 h.slo, .int .i64 h.shi, .int .i64 h.winch], .int .i64 k, .agg #[.int .i64 lo, .int .i64 hi]] V fun e w' => Below V.heap.size V w' ∧ ∃ g c, V.heap.size ≤ g ∧ e = .returned (.agg #[.slice (some ⟨g, 0, none⟩) h.ps.length c, .slice J h.js.length capJ, .int .i64 h.slo, .int .i64 h.shi, .int .i64 h.winch]) ∧ HulRd w' w'.heap.size (withPs h (limPs ps k lo hi)) (some ⟨g, 0, none⟩) c J capJ := fun V lo hi hb => by
        have e : (withPs h ps).ps.length = h.ps.length := hlen
        have := limited_any (withPs h ps) (some ⟨b, off, none⟩) J wr.heap.size capk capJ k lo hi V (hHr.below hb (Nat.le_refl _)) (by omega) (by omega) hb.size
        unfold LimitedPost hv at this
        rw [e] at this
        exact this
      have hpre : ∀ mid, xlo ≤ mid → mid ≤ xhi → openPre (withPs h (limPs ps k xlo mid)) l = 0 := fun mid a b => pre_withPs HP.out (by rw [lim_names hx, hinv.names]) (by unfold limPs; rw [hx]; exact set_psok hinv.ok hxo0 a (by omega))
      have hll : ∀ mid, (withPs h (limPs ps k xlo mid)).ps.length = h.ps.length := fun mid => (limPs_len ps k xlo mid).trans hlen
      have hmc : ∀ V g c mid, xlo ≤ mid → mid ≤ xhi → Below wr.heap.size wr V → HulRd V V.heap.size (withPs h (limPs ps k xlo mid)) (some ⟨g, 0, none⟩) c J capJ → Calls Try.prog 66 #[.agg #[.slice (some ⟨g, 0, none⟩) h.ps.length c, .slice J h.js.length capJ, .int .i64 h.slo, .int .i64 h.shi, .int .i64 h.winch], .slice AL l.length capL, .int .i64 s] V (MostRow (mostW (withPs h (limPs ps k xlo mid)) l s) (agreesB l (mostW (withPs h (limPs ps k xlo mid)) l s)) h.ps.length V) := fun V g c mid a b hb hHV => by
        have hq := hpre mid a b
        have := most66_any (withPs h (limPs ps k xlo mid)) (some ⟨g, 0, none⟩) J V.heap.size c capJ AL l capL s V hHV (hulOk (openPre_zero hq).1) ((hLr.below hb (Nat.le_trans hBz hzr)).more (Nat.le_trans (Nat.le_trans hBz hzr) hb.size)) (wghsOk hq) HS256.out (Nat.le_refl _)
        unfold hv at this
        rw [hll mid] at this
        exact this
      have hwt : ∀ mid, xlo ≤ mid → mid ≤ xhi → WtOk h.ps.length (mostW (withPs h (limPs ps k xlo mid)) l s) := fun mid a b => by
        have hk := hulOk (openPre_zero (hpre mid a b)).1
        have := box_wt hk.ps (mostW_box hk.ps (l := l) s)
        rw [hll mid] at this
        exact this
      have HLC := Lib.hid hlc
      have HMC := Lib.hid hmc
      have HWT := Lib.hid hwt
      have HFX : Hid (∀ W, Below wr.heap.size wr W → ∀ o, W.frozen? ⟨w.heap.size, o, none⟩ = false) := Lib.hid fun W hb o => (World.frozen?_of_block (w := wr) (a := ⟨w.heap.size, o, none⟩) (hb.block _ (lt_of_cell p0))).trans (hfr o)
      clear hlc hmc hwt hll hpre
      clear hbr hfr hLr hHr hinv hps hlT hlL hx hhalf hstart e0
      go_wp2_with fail
      go_quiet (fail)
      go_wp2_with fail
      clear p0 p1 p2 p3 p4 e1 e2
      obtain ⟨wa, hwa⟩ : ∃ wa : World, wa = wr.drewN nq := ⟨_, rfl⟩
      have HBA : Hid (Below wr.heap.size wr wa) := Lib.hid (by rw [hwa]; exact belowN (belowR _) _)
      rw [← hwa]
      clear hwa
      go_loopw [12, 13] (fun vl vh wx => ∃ (low high : Int), vl = .int .i64 low ∧ vh = .int .i64 high ∧ xlo ≤ low ∧ low ≤ high ∧ high ≤ xhi ∧ Hid ((∃ w, TruthP (withPs h ps) l w ∧ sumS w s = M ∧ w k ≤ high) ∧ ∀ w, TruthP (withPs h ps) l w → sumS w s = M → low ≤ w k) ∧ Hid (Below wr.heap.size wr wx)) (fun vl vh _ => (intOf vh - intOf vl).toNat)
      case atStart => exact ⟨xlo, xhi, rfl, rfl, Int.le_refl _, hxo1, Int.le_refl _, HSTART, HBA⟩
      case round =>
        obtain ⟨low, high, rfl, rfl, hl1, hl2, hl3, HIV, HBX⟩ := hrel
        obtain ⟨⟨p0, p1, p2, p3, p4⟩, e1⟩ := HKr.out _ HBX.out
        by_cases hlh : low < high
        · obtain ⟨mid, hmid⟩ : ∃ mid, (low + high) / 2 = mid := ⟨_, rfl⟩
          have hm1 : low ≤ mid := by omega
          have hm2 : mid < high := by omega
          have hq : (low + high).tdiv 2 = mid := by rw [Int.tdiv_eq_ediv_of_nonneg (by omega)]; exact hmid
          have hw1 : wrap64 (low + high) = low + high := by unfold wrap64; omega
          have hw2 : wrap64 mid = mid := by unfold wrap64; omega
          have hw3 : wrap64 (mid + 1) = mid + 1 := by unfold wrap64; omega
          clear hmid
          go_wp2_with fail
          have HBD := Lib.hid (belowDq HBX.out)
          clear p0 p1 p2 p3 p4 e1
          go_region_held3 (fun W => (W.cell? ⟨w.heap.size, 0, none⟩ = some (.slice (some ⟨b, off, none⟩) h.ps.length capk) ∧ W.cell? ⟨w.heap.size, 1, none⟩ = some (.slice J h.js.length capJ) ∧ W.cell? ⟨w.heap.size, 2, none⟩ = some (.int .i64 h.slo) ∧ W.cell? ⟨w.heap.size, 3, none⟩ = some (.int .i64 h.shi) ∧ W.cell? ⟨w.heap.size, 4, none⟩ = some (.int .i64 h.winch)) ∧ W.cell? ⟨b, off + k * 3 + 1, none⟩ = some (iv xlo)) (first | exact HKr.out _ HBD.out | exact HKr.out _ HB4.out | exact HKr.out _ HB5.out) (((first | (go_at_call 77; ((with_reducible refine (HLC.out _ xlo mid HBD.out).mono ?_); rintro e w4 ⟨hb4, g4, c4, hg4, rfl, hH4⟩; have HB4 := Lib.hid (belowT HBD.out hb4); have HH4 := Lib.hid hH4; clear hb4 hH4)) | (go_at_call 66; ((with_reducible refine (HMC.out _ g4 c4 mid (Int.le_trans hl1 hm1) (Int.le_trans (Int.le_of_lt hm2) hl3) HB4.out HH4.out).mono ?_); rintro e w5 ⟨hb5, g5, c5, rfl, hown5⟩; have HB5 := Lib.hid (belowT HB4.out hb5); have HR5 := Lib.hid (row_rd hown5); clear hb5 hown5)))))
          have hhf := HHALF.out mid (Int.le_trans hl1 hm1) (Int.le_trans (Int.le_of_lt hm2) hl3)
          have hwt : WtOk h.ps.length (mostW (withPs h (limPs ps k xlo mid)) l s) := HWT.out mid (Int.le_trans hl1 hm1) (Int.le_trans (Int.le_of_lt hm2) hl3)
          obtain ⟨WT, hWT⟩ : ∃ x, mostW (withPs h (limPs ps k xlo mid)) l s = x := ⟨_, rfl⟩
          rw [hWT] at HR5 hhf hwt ⊢
          have hsum := sumS_any _ WT h.ps.length w5.heap.size c5 s w5 HN8.out HS2.out HR5.out hwt
          have hsb := sumS_bd HN8.out HS2.out hwt
          obtain ⟨SM, hSM⟩ : ∃ x, sumS WT s = x := ⟨_, rfl⟩
          rw [hSM] at hsum hhf hsb
          have HSUM := Lib.hid hsum
          clear hsum hWT hwt hSM
          by_cases hag : agreesB l WT = true
          · rw [hag] at hhf ⊢
            by_cases hsm : SM = M
            · have hse : (SM == M) = true := by simpa using hsm
              have hex := hhf.1 ⟨rfl, hsm⟩
              have HNX : Hid ((∃ w, TruthP (withPs h ps) l w ∧ sumS w s = M ∧ w k ≤ mid) ∧ ∀ w, TruthP (withPs h ps) l w → sumS w s = M → low ≤ w k) := Lib.hid ⟨hex, HIV.out.2⟩
              clear hex hhf hsm
              go_wp2_with fail
              refine HSUM.out.mono ?_
              rintro e w6 ⟨rfl, rfl⟩
              go_wp2_with fail
              exact ⟨⟨low, mid, rfl, rfl, hl1, hm1, by omega, HNX, HB5⟩, by simp [intOf]; omega⟩
            · have hse : (SM == M) = false := by simpa using hsm
              have HNX : Hid ((∃ w, TruthP (withPs h ps) l w ∧ sumS w s = M ∧ w k ≤ high) ∧ ∀ w, TruthP (withPs h ps) l w → sumS w s = M → mid + 1 ≤ w k) := Lib.hid ⟨HIV.out.1, fun u hu hus => (Int.lt_or_le mid (u k)).elim (fun h1 => by omega) fun h1 => absurd (hhf.2 ⟨u, hu, hus, h1⟩).2 hsm⟩
              clear hhf hsm
              go_wp2_with fail
              refine HSUM.out.mono ?_
              rintro e w6 ⟨rfl, rfl⟩
              go_wp2_with fail
              exact ⟨⟨mid + 1, high, rfl, rfl, by omega, by omega, hl3, HNX, HB5⟩, by simp [intOf]; omega⟩
          · have hagf : agreesB l WT = false := by simpa using hag
            rw [hagf] at hhf ⊢
            have HNX : Hid ((∃ w, TruthP (withPs h ps) l w ∧ sumS w s = M ∧ w k ≤ high) ∧ ∀ w, TruthP (withPs h ps) l w → sumS w s = M → mid + 1 ≤ w k) := Lib.hid ⟨HIV.out.1, fun u hu hus => (Int.lt_or_le mid (u k)).elim (fun h1 => by omega) fun h1 => absurd (hhf.2 ⟨u, hu, hus, h1⟩).1 (by decide)⟩
            clear hhf hag hagf
            go_wp2_with fail
            exact ⟨⟨mid + 1, high, rfl, rfl, by omega, by omega, hl3, HNX, HB5⟩, by simp [intOf]; omega⟩
        · obtain rfl : low = high := by omega
          have hIs : IsLow h l s M ps k low := by
            obtain ⟨⟨u, hu, hus, hul⟩, hall⟩ := HIV.out
            have := hall u hu hus
            exact ⟨⟨u, hu, hus, by omega⟩, hall⟩
          have HLE := Lib.hid (lowC_eq hIs)
          have f0 := HFX.out _ HBX.out 0
          have f1 := HFX.out _ HBX.out 1
          have f2 := HFX.out _ HBX.out 2
          have f3 := HFX.out _ HBX.out 3
          have f4 := HFX.out _ HBX.out 4
          clear hIs f0 f1 f2 f3 f4 e1
          go_wp2_with fail
          refine (HLC.out _ low low HBX.out).mono ?_
          rintro e w4 ⟨hb4, g4, c4, hg4, rfl, hH4⟩
          have HB4 := Lib.hid (belowT HBX.out hb4)
          have HH4 := Lib.hid hH4
          clear hb4 hH4 p0 p1 p2 p3 p4
          obtain ⟨⟨p0, p1, p2, p3, p4⟩, _⟩ := HKr.out _ HB4.out
          have f0 := HFX.out _ HB4.out 0
          have f1 := HFX.out _ HB4.out 1
          have f2 := HFX.out _ HB4.out 2
          have f3 := HFX.out _ HB4.out 3
          have f4 := HFX.out _ HB4.out 4
          go_upto_region 17 with fail
          have hgw : g4 ≠ w.heap.size := by have := HBX.out.size; omega
          obtain ⟨W9, hW9⟩ : ∃ W9, (((((w4.setCell ⟨w.heap.size, 0, none⟩ (.slice (some ⟨g4, 0, none⟩) h.ps.length c4)).setCell ⟨w.heap.size, 1, none⟩ (.slice J h.js.length capJ)).setCell ⟨w.heap.size, 2, none⟩ (.int .i64 h.slo)).setCell ⟨w.heap.size, 3, none⟩ (.int .i64 h.shi)).setCell ⟨w.heap.size, 4, none⟩ (.int .i64 h.winch)) = W9 := ⟨_, rfl⟩
          have t0 : W9.cell? ⟨w.heap.size, 0, none⟩ = some (.slice (some ⟨g4, 0, none⟩) h.ps.length c4) := by rw [← hW9]; clear hW9; go_simp
          have t1 : W9.cell? ⟨w.heap.size, 1, none⟩ = some (.slice J h.js.length capJ) := by rw [← hW9]; clear hW9; go_simp
          have t2 : W9.cell? ⟨w.heap.size, 2, none⟩ = some (.int .i64 h.slo) := by rw [← hW9]; clear hW9; go_simp
          have t3 : W9.cell? ⟨w.heap.size, 3, none⟩ = some (.int .i64 h.shi) := by rw [← hW9]; clear hW9; go_simp
          have t4 : W9.cell? ⟨w.heap.size, 4, none⟩ = some (.int .i64 h.winch) := by rw [← hW9]; clear hW9; go_simp
          have hf9 : ∀ o, W9.frozen? ⟨w.heap.size, o, none⟩ = false := fun o => by rw [← hW9]; simp only [World.frozen?_setCell]; exact HFX.out _ HB4.out o
          have hl0 := Nat.le_refl w.heap.size
          have hb9 : Below w.heap.size w W9 := by rw [← hW9]; exact belowS (belowS (belowS (belowS (belowS (belowT HBR.out HB4.out) hl0 _) hl0 _) hl0 _) hl0 _) hl0 _
          have hz9 : W9.heap.size = w4.heap.size := by rw [← hW9]; simp
          have hr9 : ∀ o c, w4.cell? ⟨g4, o, none⟩ = some c → W9.cell? ⟨g4, o, none⟩ = some c := fun o c hc => by rw [← hW9]; exact keepSet (keepSet (keepSet (keepSet (keepSet hc hgw) hgw) hgw) hgw) hgw
          have ho9 : W9.ownsRow W1.heap.size 3 1 vo k ((lowL h l s M k).map iv) := by rw [← hW9]; exact ownsRow_setCell_below (ownsRow_setCell_below (ownsRow_setCell_below (ownsRow_setCell_below (ownsRow_setCell_below (own_below HO.out HB4.out) hw1 _) hw1 _) hw1 _) hw1 _) hw1 _
          have HO9 := Lib.hid ho9
          have HF9 := Lib.hid hf9
          have HR9 := Lib.hid hr9
          have HB9 := Lib.hid hb9
          have HZ9 := Lib.hid hz9
          have hw9 : w.heap.size < W9.heap.size := lt_of_cell t0
          have hz99 : W1.heap.size ≤ W9.heap.size := by have := HZ9.out; have := HB4.out.size; omega
          have hg49 : g4 < W9.heap.size := by
            obtain ⟨y, hy⟩ : ∃ y, (limPs ps k low low)[0]? = some y := ⟨_, List.getElem?_eq_getElem (by rw [limPs_len]; omega)⟩
            obtain ⟨b9, o9, e9, hb9, _⟩ := prtAt HH4.out.ps hy
            injection e9 with e9
            injection e9 with e91 e92
            omega
          rw [hW9]
          clear hW9 ho9 hf9 hr9 hb9 hz9 p0 p1 p2 p3 p4 f0 f1 f2 f3 f4
          have HAL := Lib.hid (HO9.out.alloc (.cells #[iv low] 3))
          go_wp2_with (at_builtin; refine wpList_append_own _ rfl _ _ 40 rfl W1.heap.size 3 i3 (.int .i64 0) 1 8 Try.underlying40 hi3 hz30 hz31 hz32 rfl (by decide) _ _ _ rfl HAL.out ⟨W9.heap.size, 0, none⟩ 1 1 [iv low] rfl rfl ?d1 ?d2 ?d3 ?d4 ?d5 ?_)
          case d1 => exact one_new _ _ _
          case d2 => simp [Value.oneCell']
          case d3 => unfold maxLen; omega
          case d4 => omega
          case d5 => first | omega | (simp; omega)
          intro v10 w10 hown10 hg10 _
          have hb10 : Below w.heap.size w w10 := grownB HAL.out hg10 hzw (belowA HB9.out _)
          have hk0 : ∀ o, w10.cell? ⟨w.heap.size, o, none⟩ = W9.cell? ⟨w.heap.size, o, none⟩ := fun o => (World.cell?_of_block (w := W9.alloc (.cells #[iv low] 3)) (a := ⟨w.heap.size, o, none⟩) (hg10.block w.heap.size (by simp only [World.size_alloc]; omega) (fun e => by have := (HAL.out.lt w.heap.size e.symm).1; omega))).trans (by clear hown10 hg10 HAL; go_simp)
          have hk1 : ∀ o, w10.frozen? ⟨w.heap.size, o, none⟩ = W9.frozen? ⟨w.heap.size, o, none⟩ := fun o => (World.frozen?_of_block (w := W9.alloc (.cells #[iv low] 3)) (a := ⟨w.heap.size, o, none⟩) (hg10.block w.heap.size (by simp only [World.size_alloc]; omega) (fun e => by have := (HAL.out.lt w.heap.size e.symm).1; omega))).trans (by clear hown10 hg10 HAL; go_simp)
          have hgr := Nat.le_trans HBX.out.size hg4
          have hk2 : ∀ o c, W9.cell? ⟨g4, o, none⟩ = some c → w10.cell? ⟨g4, o, none⟩ = some c := fun o c hc => (World.cell?_of_block (w := W9.alloc (.cells #[iv low] 3)) (a := ⟨g4, o, none⟩) (hg10.block g4 (by simp only [World.size_alloc]; omega) (fun e => by have := (HO.out.lt g4 e.symm).2; omega))).trans ((World.cell?_of_block (w := W9) (a := ⟨g4, o, none⟩) ((belowA (belowR W9) (.cells #[iv low] 3)).block _ hg49)).trans hc)
          have hz10 : W9.heap.size ≤ w10.heap.size := by have := hg10.size; simp only [World.size_alloc] at this; omega
          have hH10 : HulRd w10 w10.heap.size (withPs h (limPs ps k low low)) (some ⟨g4, 0, none⟩) c4 J capJ := by
            refine ⟨fun j y hy => ?_, (HH0.out.js.below hb10 hB).more (Nat.le_trans hB hb10.size), HH4.out.pl, HH4.out.pm, HJL.out, HJM.out, HH4.out.nm⟩
            obtain ⟨b9, o9, e9, hb9, hc9⟩ := HH4.out.ps j y hy
            injection e9 with e9
            injection e9 with e91 e92
            subst e91 e92
            exact ⟨_, _, rfl, by omega, fun q u hu => hk2 _ _ (HR9.out _ _ (hc9 q u hu))⟩
          have HK0 := Lib.hid (show (w10.cell? ⟨w.heap.size, 0, none⟩ = some (.slice (some ⟨g4, 0, none⟩) h.ps.length c4) ∧ w10.cell? ⟨w.heap.size, 1, none⟩ = some (.slice J h.js.length capJ) ∧ w10.cell? ⟨w.heap.size, 2, none⟩ = some (.int .i64 h.slo) ∧ w10.cell? ⟨w.heap.size, 3, none⟩ = some (.int .i64 h.shi) ∧ w10.cell? ⟨w.heap.size, 4, none⟩ = some (.int .i64 h.winch)) from ⟨(hk0 0).trans t0, (hk0 1).trans t1, (hk0 2).trans t2, (hk0 3).trans t3, (hk0 4).trans t4⟩)
          have HK1 : Hid (∀ o, w10.frozen? ⟨w.heap.size, o, none⟩ = false) := Lib.hid fun o => (hk1 o).trans (HF9.out o)
          have HL10 := Lib.hid (HL0.out.below hb10 hB)
          have HO10 := Lib.hid hown10
          have HB10 := Lib.hid hb10
          have HH10 := Lib.hid hH10
          have hz11 : W1.heap.size ≤ w10.heap.size := by have := HZ9.out; have := HB4.out.size; omega
          clear hown10 hg10 hb10 hH10 HAL hk0 hk1 hk2 hz10
          go_wp2_with fail
          exact ⟨⟨k + 1, _, some ⟨g4, 0, none⟩, c4, by omega, by go_num, rfl, Lib.hid (by rw [HLL.out, HLE.out, List.map_append]; exact HO10.out), Lib.hid ⟨HB10.out, hz11, HK1.out, HL10.out, HK0.out, by rw [HLT.out, HLE.out]; exact HH10.out⟩⟩, by simp [intOf]; omega⟩
    · obtain rfl : k = h.ps.length := by omega
      have hown := HO.out
      have hown' : wr.ownsRow W1.heap.size 3 1 vo (lowL h l s M h.ps.length).length ((lowL h l s M h.ps.length).map iv) := by rw [lowL_len]; exact hown
      obtain ⟨A5, cap5, hv5, _⟩ := own_rd1 hown'
      rw [lowL_len] at hv5
      subst hv5
      have HO5 := Lib.hid hown
      have HBR := Lib.hid hbr
      clear hown hown' HO hbr hfr hLr hHr
      go_wp2_with fail
      exact HFIN.out _ _ ⟨HBR.out, A5, cap5, rfl, HO5.out⟩
end Go.Proofs.Ytojgdallodmanaa

namespace Go.Proofs.Ytojgdallodmanaa
open Go.RowKit

/-- What both answer: a row of whole numbers that can be read. -/
def RowAns (h : Hul) (l : List Wgh) (set : Int) (w : World) (L : List Int) (e : Ending) (w' : World) : Prop :=
  Below w.heap.size w w' ∧ ∃ A c, e = .returned (.tuple #[.slice A L.length c, iv (enterE h l set)]) ∧ Rd1 iv w' w'.heap.size A L
theorem row_ints {W : World} {base n cap : Nat} {A : Option Addr} {L : List Int} (hl : L.length = n) (h : W.ownsRow base 3 1 (.slice A n cap) n (L.map iv)) : Rd1 iv W W.heap.size A L := by
  subst hl
  obtain ⟨A9, c9, hv9, hR9, _⟩ := own_rd1 h
  injection hv9 with h2
  rw [h2]
  exact hR9

set_option maxRecDepth 100000 in
set_option maxHeartbeats 16000000 in
theorem heavyLaw_any (h : Hul) (A J : Option Addr) (cap capJ : Nat) (AL : Option Addr) (l : List Wgh) (capL : Nat) (set : Int) (B : Nat) (w : World)
    (hH : HulRd w B h A cap J capJ) (hL : RdN 3 encWgh w B AL l) (hlc : l.length ≤ capL) (hcm : capL ≤ maxLen) (hB : B ≤ w.heap.size) :
    Calls Try.prog 4 #[hv h A cap J capJ, .slice AL l.length capL, .int .i64 set] w fun e w' => e = .returned (.bool true) ∧ Below w.heap.size w w' := by
  obtain ⟨W1, hW1, hb0, hzz, p0, p1, p2, p3, p4⟩ := hulBox w h A cap J capJ
  have HKB : Hid (∀ W, Below W1.heap.size W1 W → W.cell? ⟨w.heap.size, 0, none⟩ = some (.slice A h.ps.length cap) ∧ W.cell? ⟨w.heap.size, 1, none⟩ = some (.slice J h.js.length capJ) ∧ W.cell? ⟨w.heap.size, 2, none⟩ = some (.int .i64 h.slo) ∧ W.cell? ⟨w.heap.size, 3, none⟩ = some (.int .i64 h.shi) ∧ W.cell? ⟨w.heap.size, 4, none⟩ = some (.int .i64 h.winch)) := Lib.hid fun W hb => ⟨keepC hb p0, keepC hb p1, keepC hb p2, keepC hb p3, keepC hb p4⟩
  have hBz : B ≤ W1.heap.size := Nat.le_trans hB hb0.size
  have HH := Lib.hid (hH.below hb0 hB)
  have HL := Lib.hid (hL.below hb0 hB)
  have HB0 := Lib.hid hb0
  have hlm : l.length ≤ maxLen := Nat.le_trans hlc hcm
  have HAW := Lib.hid awake_any
  have hcc : ∀ V, Below W1.heap.size W1 V → Calls Try.prog 25 #[hv h A cap J capJ, .slice AL l.length capL, iv set] V (HeaviestPost h l set V) := fun V hb => heaviest_any h A J B cap capJ AL l capL set V (HH.out.below hb hBz) (HL.out.below hb hBz) hlc (Nat.le_trans hBz hb.size)
  have hrc : ∀ V, Below W1.heap.size W1 V → Calls Try.prog 26 #[hv h A cap J capJ, .slice AL l.length capL, .int .i64 set] V (RefHeavyPost h l set V) := fun V hb => refHeavy_any h A J B cap capJ AL l capL set V (HH.out.below hb hBz) (HL.out.below hb hBz) hlm (Nat.le_trans hBz hb.size)
  obtain ⟨L, hLL, ha, hb⟩ : ∃ L : List Int, L.length ≤ 8 ∧ (∀ V e w', HeaviestPost h l set V e w' → RowAns h l set V L e w') ∧ (∀ V e w', RefHeavyPost h l set V e w' → RowAns h l set V L e w') := by
    by_cases h0 : enterE h l set = 0
    · obtain ⟨hp, hf, hbe⟩ := enterE_zero h0
      have hk := hulOk (openPre_zero hp).1
      obtain ⟨s, _, _, hs2, rfl, _⟩ := blockE_zero hk.n8 hbe
      have hM : IsMost h l s (mostRef h l s) := by
        obtain ⟨a, b, c⟩ := lwOk hp
        exact (a.most_is b c hf hs2).2
      have hl2 := lowL_len h l s (mostRef h l s) h.ps.length
      refine ⟨lowL h l s (mostRef h l s) h.ps.length, by rw [hl2]; exact hk.n8, fun V e w' hpost => ?_, fun V e w' hpost => ?_⟩
      · obtain ⟨hb2, hc2⟩ := hpost
        rcases hc2 with ⟨hne, _⟩ | ⟨_, _, _, _, N, A2, c2, hN, rfl, hown⟩
        · exact absurd h0 hne
        · rw [Int.toNat_natCast, mostV_ref hp hN hf hs2, limL_low hp hN hs2 hM] at hown
          exact ⟨hb2, A2, c2, by rw [hl2, h0], row_ints hl2 hown⟩
      · obtain ⟨hb2, hc2⟩ := hpost
        rcases hc2 with ⟨hne, _⟩ | ⟨_, A2, c2, rfl, hown⟩
        · exact absurd h0 hne
        · rw [Int.toNat_natCast] at hown
          exact ⟨hb2, A2, c2, by rw [hl2, h0], row_ints hl2 hown⟩
    · refine ⟨[], by simp, fun V e w' hpost => ?_, fun V e w' hpost => ?_⟩
      · obtain ⟨hb2, hc2⟩ := hpost
        rcases hc2 with ⟨_, rfl⟩ | ⟨h1, _⟩
        · exact ⟨hb2, none, 0, rfl, Rd1.nil⟩
        · exact absurd h1 h0
      · obtain ⟨hb2, hc2⟩ := hpost
        rcases hc2 with ⟨_, rfl⟩ | ⟨h1, _⟩
        · exact ⟨hb2, none, 0, rfl, Rd1.nil⟩
        · exact absurd h1 h0
  have HCC := Lib.hid hcc
  have HRC := Lib.hid hrc
  have HA := Lib.hid ha
  have HB := Lib.hid hb
  have HIC := Lib.hid fun (V W : World) A2 A3 c2 c3 (hb : Below V.heap.size V W) (h2 : Rd1 iv V V.heap.size A2 L) (h3 : Rd1 iv W W.heap.size A3 L) => ints_any A2 A3 L L W.heap.size c2 c3 W ((h2.below hb (Nat.le_refl _)).more hb.size) h3 (by omega) (by omega) (Nat.le_refl _)
  obtain ⟨EE, hEE⟩ : ∃ e, enterE h l set = e := ⟨_, rfl⟩
  have HEE := Lib.hid hEE
  clear hcc hrc hb0 hH hL hlc hcm hlm hzz ha hb hEE
  go_enter Try.func4, Try.ntmps4
  go_wp2_with fail
  refine (HCC.out _ (belowR _)).mono ?_
  intro e w2 hpost
  obtain ⟨hb2, A2, c2, rfl, hr2⟩ := HA.out _ _ _ hpost
  rw [HEE.out]
  have HB2 := Lib.hid hb2
  have HR2 := Lib.hid hr2
  clear hb2 hr2 hpost hW1 p0 p1 p2 p3 p4
  obtain ⟨p0, p1, p2, p3, p4⟩ := HKB.out _ HB2.out
  go_wp2_with fail
  refine (HRC.out _ HB2.out).mono ?_
  intro e w3 hpost
  obtain ⟨hb3, A3, c3, rfl, hr3⟩ := HB.out _ _ _ hpost
  rw [HEE.out]
  have hic := HIC.out w2 w3 A2 A3 c2 c3 hb3 HR2.out hr3
  simp only [decide_true] at hic
  have HI := Lib.hid hic
  have HB3 := Lib.hid (belowT HB2.out hb3)
  clear hb3 hr3 hic hpost p0 p1 p2 p3 p4
  go_wp2_with (first | (go_at_call 27; (with_reducible refine HI.out.mono ?_); rintro e w4 ⟨rfl, hb4⟩; have HB4 := Lib.hid (belowT HB3.out hb4); clear hb4) | (go_at_call 24; (with_reducible refine (HAW.out _).mono ?_); rintro e w11 ⟨rfl, hb11⟩; have HB11 := Lib.hid hb11; clear hb11))
  go_ret
  exact ⟨rfl, belowT HB0.out (belowT HB4.out HB11.out)⟩
end Go.Proofs.Ytojgdallodmanaa
