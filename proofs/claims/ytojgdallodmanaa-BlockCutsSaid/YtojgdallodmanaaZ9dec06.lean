/- The reference's Heaviest: the walk (printed by mkG5.py). The cuts of a hull and the first of the fewest: the plain law. No program is named here. The order of the weighings, and saying one twice, change nothing: the plain law. BlockOrder: rows that are read (as ClaimOrder's T15); the slices of region 8. -/
import Derived.Test.YtojgdallodmanaaZ2caf35
import Derived.Test.YtojgdallodmanaaZc367d5
import Derived.Test.YtojgdallodmanaaZ654d27
import Derived.Test.YtojgdallodmanaaZ70505d
namespace Go.Proofs.Ytojgdallodmanaa
open Go.RowKit

section
variable {h : Hul} {l : List Wgh} {s : Nat} {M : Int} {ps : List Prt} {i : Nat} {p : Prt}
/-- A step of the reference's search by halves. -/
theorem LimInv.half (H : LimInv h l s M ps) (hp : openPre h l = 0) (hs : s < 2 ^ h.ps.length) (hi : ps[i]? = some p) {mid : Int} (h1 : p.lo ≤ mid) (h2 : mid ≤ p.hi) :
    (agreesB l (mostW (withPs h (limPs ps i p.lo mid)) l s) = true ∧ sumS (mostW (withPs h (limPs ps i p.lo mid)) l s) s = M) ↔ ∃ w, TruthP (withPs h ps) l w ∧ sumS w s = M ∧ w i ≤ mid := by
  have hpo := H.ok p (List.mem_of_getElem? hi)
  have hlen := H.len
  have hpre : openPre (withPs h (limPs ps i p.lo mid)) l = 0 := pre_withPs hp (by rw [lim_names hi, H.names]) (by unfold limPs; rw [hi]; exact set_psok H.ok hpo.1 h1 (by omega))
  have hs' : s < 2 ^ (withPs h (limPs ps i p.lo mid)).ps.length := by simp only [limPs_len, hlen]; exact hs
  obtain ⟨a, b, c⟩ := lwOk hpre
  have hmf := a.most_feas b c hs'
  constructor
  · rintro ⟨ha, hsum⟩
    obtain ⟨hw, hm⟩ := a.most_is b c (hmf.1 ha) hs'
    obtain ⟨t1, t2⟩ := (lim_truth hi (Int.le_refl _) h2 _).1 hw
    exact ⟨_, t1, hsum, t2.2⟩
  · rintro ⟨w, hw, hws, hwi⟩
    have hlo := (hw.1 i p hi).1
    have hw' := (lim_truth (h := h) hi (Int.le_refl _) h2 w).2 ⟨hw, hlo, hwi⟩
    have hf : Feas (withPs h (limPs ps i p.lo mid)) l := ⟨w, hw'⟩
    obtain ⟨hmw, hm⟩ := a.most_is b c hf hs'
    refine ⟨hmf.2 hf, ?_⟩
    have g1 := hm.1 w hw'
    have g2 := H.most.1 _ ((lim_truth hi (Int.le_refl _) h2 _).1 hmw).1
    have e : mostRef (withPs h (limPs ps i p.lo mid)) l s = sumS (mostW (withPs h (limPs ps i p.lo mid)) l s) s := rfl
    omega
end
def RefHeavyPost (h : Hul) (l : List Wgh) (set : Int) (w : World) (e : Ending) (w' : World) : Prop :=
  Below w.heap.size w w' ∧ ((enterE h l set ≠ 0 ∧ e = .returned (.tuple #[.slice none 0 0, iv (enterE h l set)])) ∨ (enterE h l set = 0 ∧ ∃ A cap, e = .returned (.tuple #[.slice A h.ps.length cap, iv 0]) ∧ w'.ownsRow w.heap.size 3 1 (.slice A h.ps.length cap) h.ps.length ((lowL h l set.toNat (mostRef h l set.toNat) h.ps.length).map iv)))

set_option maxRecDepth 100000 in
set_option maxHeartbeats 32000000 in
theorem refHeavy_any (h : Hul) (A J : Option Addr) (B cap capJ : Nat) (AL : Option Addr) (l : List Wgh) (capL : Nat) (set : Int) (w : World)
    (hH : HulRd w B h A cap J capJ) (hL : RdN 3 encWgh w B AL l) (hlm : l.length ≤ maxLen) (hB : B ≤ w.heap.size) :
    Calls Try.prog 26 #[hv h A cap J capJ, .slice AL l.length capL, .int .i64 set] w (RefHeavyPost h l set w) := by
  obtain ⟨i3, hi3, hz30, hz31, hz32⟩ := info_parts Try.info3
  obtain ⟨W1, hW1, hb1, hzz, p0, p1, p2, p3, p4⟩ := hulBox w h A cap J capJ
  have pf : ∀ o, W1.frozen? ⟨w.heap.size, o, none⟩ = false := fun o => by rw [← hW1]; clear hW1; go_simp
  have hw1 : w.heap.size < W1.heap.size := lt_of_cell p0
  have HPF : Hid (∀ W, Below W1.heap.size W1 W → ∀ o, W.frozen? ⟨w.heap.size, o, none⟩ = false) := Lib.hid fun W hb o => (World.frozen?_of_block (w := W1) (a := ⟨w.heap.size, o, none⟩) (hb.block _ hw1)).trans (pf o)
  have HKB : Hid (∀ W, Below W1.heap.size W1 W → W.cell? ⟨w.heap.size, 0, none⟩ = some (.slice A h.ps.length cap) ∧ W.cell? ⟨w.heap.size, 1, none⟩ = some (.slice J h.js.length capJ) ∧ W.cell? ⟨w.heap.size, 2, none⟩ = some (.int .i64 h.slo) ∧ W.cell? ⟨w.heap.size, 3, none⟩ = some (.int .i64 h.shi) ∧ W.cell? ⟨w.heap.size, 4, none⟩ = some (.int .i64 h.winch)) := Lib.hid fun W hb => ⟨keepC hb p0, keepC hb p1, keepC hb p2, keepC hb p3, keepC hb p4⟩
  have hBz : B ≤ W1.heap.size := Nat.le_trans hB hb1.size
  have HH := Lib.hid (hH.below hb1 hB)
  have HH0 := Lib.hid hH
  have HL0 := Lib.hid hL
  have HL := Lib.hid (hL.below hb1 hB)
  have HB0 := Lib.hid hb1
  have hac := asked_any h A J B cap capJ AL l capL set W1 HH.out HL.out hlm hBz
  by_cases h0 : enterE h l set = 0
  case neg =>
    have hen : RefHeavyPost h l set w = fun e w' => Below w.heap.size w w' ∧ e = .returned (.tuple #[.slice none 0 0, iv (enterE h l set)]) := by
      funext e w'
      unfold RefHeavyPost
      simp [h0]
    rw [hen]
    obtain ⟨E, hE⟩ : ∃ E, enterE h l set = E := ⟨_, rfl⟩
    rw [hE] at hac h0 ⊢
    have HAC := Lib.hid hac
    have hne : (E != 0) = true := by simpa using h0
    clear hac h0 hen hE hb1 hH hL hzz pf
    go_enter Try.func26, Try.ntmps26
    go_wp2_with fail
    refine HAC.out.mono ?_
    rintro e w3 ⟨rfl, hb3⟩
    have HB3 := Lib.hid hb3
    clear hb3 hW1 p0 p1 p2 p3 p4
    go_wp2_with fail
    go_ret2
    exact ⟨belowT HB0.out HB3.out, rfl⟩
  obtain ⟨hp, hf, hbe⟩ := enterE_zero h0
  have hk := hulOk (openPre_zero hp).1
  obtain ⟨s, hs256, _, hs2, rfl, _⟩ := blockE_zero hk.n8 hbe
  have hn8 := hk.n8
  have HN8 := Lib.hid hk.n8
  have HS256 := Lib.hid hs256
  have hn1 := hk.n1
  have hwo := wghsOk hp
  have hM : IsMost h l s (mostRef h l s) := by
    obtain ⟨a, b, c⟩ := lwOk hp
    exact (a.most_is b c hf hs2).2
  rw [h0] at hac
  have hgc : ∀ V, Below W1.heap.size W1 V → Calls Try.prog 72 #[hv h A cap J capJ, .slice AL l.length capL, .int .i64 s] V fun e w' => e = .returned (iv (mostRef h l s)) ∧ Below V.heap.size V w' := fun V hb => greatest_any h A J B cap capJ AL l capL s V (HH.out.below hb hBz) hk (HL.out.below hb hBz) hwo hs2 (Nat.le_trans hBz hb.size)
  have hzw : w.heap.size ≤ W1.heap.size := hb1.size
  have HFIN : Hid (∀ e w', (Below w.heap.size w w' ∧ ∃ A cap, e = .returned (.tuple #[.slice A h.ps.length cap, iv 0]) ∧ w'.ownsRow W1.heap.size 3 1 (.slice A h.ps.length cap) h.ps.length ((lowL h l s (mostRef h l s) h.ps.length).map iv)) → RefHeavyPost h l (s : Int) w e w') := Lib.hid fun e w' ⟨a, A, cap, b, c⟩ => ⟨a, .inr ⟨h0, A, cap, b, by rw [Int.toNat_natCast]; exact own_base c hzw⟩⟩
  obtain ⟨POST, hPOST⟩ : ∃ P, RefHeavyPost h l (s : Int) w = P := ⟨_, rfl⟩
  rw [hPOST] at HFIN ⊢
  obtain ⟨M, hMM⟩ : ∃ M, mostRef h l s = M := ⟨_, rfl⟩
  rw [hMM] at hgc hM HFIN
  have HINV := Lib.hid (lowTo_inv hp hM)
  have HP := Lib.hid hp
  have HS2 := Lib.hid hs2
  have HGC := Lib.hid hgc
  have HAC := Lib.hid hac
  have HWO := Lib.hid hwo
  have HK := Lib.hid hk
  have hpl := hH.pl
  have hpm := hH.pm
  unfold maxLen at hpm
  have HJL := Lib.hid hH.jl
  have HJM := Lib.hid hH.jm
  clear hac h0 hgc hM hp hwo hk hbe hf hb1 hH hL hzz pf hPOST hMM hs2
  go_enter Try.func26, Try.ntmps26
  go_wp2_with fail
  refine HAC.out.mono ?_
  rintro e w2 ⟨rfl, hb2⟩
  have HB2 := Lib.hid hb2
  clear hb2 hW1 p0 p1 p2 p3 p4
  obtain ⟨p0, p1, p2, p3, p4⟩ := HKB.out _ HB2.out
  go_wp2_with fail
  refine (HGC.out _ HB2.out).mono ?_
  rintro e w3 ⟨rfl, hb3⟩
  have HB3 := Lib.hid (belowT HB2.out hb3)
  clear hb3 p0 p1 p2 p3 p4
  go_wp2_with fail
  obtain ⟨wq, hwq⟩ : ∃ wq : World, wq = w3 := ⟨_, rfl⟩
  have hst0 : Below w.heap.size w wq ∧ W1.heap.size ≤ wq.heap.size ∧ (∀ o, wq.frozen? ⟨w.heap.size, o, none⟩ = false) ∧ RdN 3 encWgh wq B AL l ∧ (wq.cell? ⟨w.heap.size, 0, none⟩ = some (.slice A h.ps.length cap) ∧ wq.cell? ⟨w.heap.size, 1, none⟩ = some (.slice J h.js.length capJ) ∧ wq.cell? ⟨w.heap.size, 2, none⟩ = some (.int .i64 h.slo) ∧ wq.cell? ⟨w.heap.size, 3, none⟩ = some (.int .i64 h.shi) ∧ wq.cell? ⟨w.heap.size, 4, none⟩ = some (.int .i64 h.winch)) ∧ HulRd wq wq.heap.size (withPs h (lowTo h l s M h.ps 0)) A cap J capJ := by
    rw [hwq]
    exact ⟨belowT HB0.out HB3.out, HB3.out.size, HPF.out _ HB3.out, HL.out.below HB3.out hBz, HKB.out _ HB3.out, (HH.out.below HB3.out hBz).more (Nat.le_trans hBz HB3.out.size)⟩
  have HST0 := Lib.hid hst0
  rw [← hwq]
  clear hwq hst0
  go_loopw [10, 11] (fun vv vi wr => ∃ (k : Nat) (vo : Value) (Ak : Option Addr) (capk : Nat), k ≤ h.ps.length ∧ vi = .int .i64 k ∧ vo = vv ∧ Hid (wr.ownsRow W1.heap.size 3 1 vo k ((lowL h l s M k).map iv)) ∧ Hid (Below w.heap.size w wr ∧ W1.heap.size ≤ wr.heap.size ∧ (∀ o, wr.frozen? ⟨w.heap.size, o, none⟩ = false) ∧ RdN 3 encWgh wr B AL l ∧ (wr.cell? ⟨w.heap.size, 0, none⟩ = some (.slice Ak h.ps.length capk) ∧ wr.cell? ⟨w.heap.size, 1, none⟩ = some (.slice J h.js.length capJ) ∧ wr.cell? ⟨w.heap.size, 2, none⟩ = some (.int .i64 h.slo) ∧ wr.cell? ⟨w.heap.size, 3, none⟩ = some (.int .i64 h.shi) ∧ wr.cell? ⟨w.heap.size, 4, none⟩ = some (.int .i64 h.winch)) ∧ HulRd wr wr.heap.size (withPs h (lowTo h l s M h.ps k)) Ak capk J capJ)) (fun _ vi _ => h.ps.length - (intOf vi).toNat)
  case atStart => exact ⟨0, _, A, cap, Nat.zero_le _, rfl, rfl, Lib.hid (World.ownsRow_nil _ _ _ _), HST0⟩
  case round =>
    obtain ⟨k, vo, Ak, capk, hkk, rfl, rfl, HO, HST⟩ := hrel
    obtain ⟨hbr, hzr, hfr, hLr, ⟨p0, p1, p2, p3, p4⟩, hHr⟩ := HST.out
    have hckl : h.ps.length ≤ capk := by have := hHr.pl; have e := (HINV.out k hkk).len; simp only [e] at this; exact this
    have hckm : capk ≤ maxLen := hHr.pm
    unfold maxLen at hckm
    by_cases hlt : k < h.ps.length
    · have hinv := HINV.out k (by omega)
      obtain ⟨ps, hps⟩ : ∃ ps, lowTo h l s M h.ps k = ps := ⟨_, rfl⟩
      have hlT : lowTo h l s M h.ps (k + 1) = limPs (lowTo h l s M h.ps k) k (lowC h l s M (lowTo h l s M h.ps k) k) (lowC h l s M (lowTo h l s M h.ps k) k) := rfl
      have hlL := lowL_succ h l s M k
      rw [hps] at hinv hHr hlT hlL
      have hlen := hinv.len
      obtain ⟨x, hx⟩ : ∃ x, ps[k]? = some x := ⟨_, List.getElem?_eq_getElem (by omega)⟩
      have hxo := hinv.ok x (List.mem_of_getElem? hx)
      obtain ⟨b, off, rfl, _, e0, e1, e2⟩ := prtAt hHr.ps hx
      have hhalf : ∀ mid, x.lo ≤ mid → mid ≤ x.hi → ((agreesB l (mostW (withPs h (limPs ps k x.lo mid)) l s) = true ∧ sumS (mostW (withPs h (limPs ps k x.lo mid)) l s) s = M) ↔ ∃ w, TruthP (withPs h ps) l w ∧ sumS w s = M ∧ w k ≤ mid) := fun mid a b => hinv.half HP.out HS2.out hx a b
      have hstart : (∃ w, TruthP (withPs h ps) l w ∧ sumS w s = M ∧ w k ≤ x.hi) ∧ ∀ w, TruthP (withPs h ps) l w → sumS w s = M → x.lo ≤ w k := by
        obtain ⟨_, u, hu, hus⟩ := hinv.most
        exact ⟨⟨u, hu, hus, (hu.1 k x hx).2⟩, fun u hu _ => (hu.1 k x hx).1⟩
      obtain ⟨xn, xlo, xhi⟩ := x
      simp only at e0 e1 e2 hxo hhalf hstart
      obtain ⟨hxo0, hxo1, hxo2⟩ := hxo
      have HHALF := Lib.hid hhalf
      have HSTART := Lib.hid hstart
      have HINVK := Lib.hid hinv
      have HPS := Lib.hid hps
      have HLT := Lib.hid hlT
      have HLL := Lib.hid hlL
      have HX := Lib.hid hx
      have HHR := Lib.hid hHr
      have HBR := Lib.hid hbr
      have HFR := Lib.hid hfr
      have HLR := Lib.hid hLr
      have hk0 : (0 : Int) ≤ (k : Int) := by omega
      have hkz : (k : Int) < (h.ps.length : Int) := by omega
      have HKr : Hid (∀ W, Below wr.heap.size wr W → (W.cell? ⟨w.heap.size, 0, none⟩ = some (.slice (some ⟨b, off, none⟩) h.ps.length capk) ∧ W.cell? ⟨w.heap.size, 1, none⟩ = some (.slice J h.js.length capJ) ∧ W.cell? ⟨w.heap.size, 2, none⟩ = some (.int .i64 h.slo) ∧ W.cell? ⟨w.heap.size, 3, none⟩ = some (.int .i64 h.shi) ∧ W.cell? ⟨w.heap.size, 4, none⟩ = some (.int .i64 h.winch)) ∧ W.cell? ⟨b, off + k * 3 + 1, none⟩ = some (iv xlo)) := Lib.hid fun W hb => ⟨⟨keepC hb p0, keepC hb p1, keepC hb p2, keepC hb p3, keepC hb p4⟩, keepC hb e1⟩
      have hlc : ∀ V lo hi, Below wr.heap.size wr V → Calls Try.prog 77 #[.agg #[.slice (some ⟨b, off, none⟩) h.ps.length capk, .slice J h.js.length capJ, .int .i64 h.slo, .int .i64 h.shi, .int .i64 h.winch], .int .i64 k, .agg #[.int .i64 lo, .int .i64 hi]] V fun e w' => Below V.heap.size V w' ∧ ∃ g c, V.heap.size ≤ g ∧ e = .returned (.agg #[.slice (some ⟨g, 0, none⟩) h.ps.length c, .slice J h.js.length capJ, .int .i64 h.slo, .int .i64 h.shi, .int .i64 h.winch]) ∧ HulRd w' w'.heap.size (withPs h (limPs ps k lo hi)) (some ⟨g, 0, none⟩) c J capJ := fun V lo hi hb => by
        have e : (withPs h ps).ps.length = h.ps.length := hlen
        have := limited_any (withPs h ps) (some ⟨b, off, none⟩) J wr.heap.size capk capJ k lo hi V (hHr.below hb (Nat.le_refl _)) (by omega) (by omega) hb.size
        unfold LimitedPost hv at this
        rw [e] at this
        exact this
      have hpre : ∀ mid, xlo ≤ mid → mid ≤ xhi → openPre (withPs h (limPs ps k xlo mid)) l = 0 := fun mid a b => pre_withPs HP.out (by rw [lim_names hx, hinv.names]) (by unfold limPs; rw [hx]; exact set_psok hinv.ok hxo0 a (by omega))
      have hll : ∀ mid, (withPs h (limPs ps k xlo mid)).ps.length = h.ps.length := fun mid => (limPs_len ps k xlo mid).trans hlen
      have hmc : ∀ V g c mid, xlo ≤ mid → mid ≤ xhi → Below wr.heap.size wr V → HulRd V V.heap.size (withPs h (limPs ps k xlo mid)) (some ⟨g, 0, none⟩) c J capJ → Calls Try.prog 66 #[.agg #[.slice (some ⟨g, 0, none⟩) h.ps.length c, .slice J h.js.length capJ, .int .i64 h.slo, .int .i64 h.shi, .int .i64 h.winch], .slice AL l.length capL, .int .i64 s] V (MostRow (mostW (withPs h (limPs ps k xlo mid)) l s) (agreesB l (mostW (withPs h (limPs ps k xlo mid)) l s)) h.ps.length V) := fun V g c mid a b hb hHV => by
        have hq := hpre mid a b
        have := most66_any (withPs h (limPs ps k xlo mid)) (some ⟨g, 0, none⟩) J V.heap.size c capJ AL l capL s V hHV (hulOk (openPre_zero hq).1) ((hLr.below hb (Nat.le_trans hBz hzr)).more (Nat.le_trans (Nat.le_trans hBz hzr) hb.size)) (wghsOk hq) HS256.out (Nat.le_refl _)
        unfold hv at this
        rw [hll mid] at this
        exact this
      have hwt : ∀ mid, xlo ≤ mid → mid ≤ xhi → WtOk h.ps.length (mostW (withPs h (limPs ps k xlo mid)) l s) := fun mid a b => by
        have hk := hulOk (openPre_zero (hpre mid a b)).1
        have := box_wt hk.ps (mostW_box hk.ps (l := l) s)
        rw [hll mid] at this
        exact this
      have HLC := Lib.hid hlc
      have HMC := Lib.hid hmc
      have HWT := Lib.hid hwt
      have HFX : Hid (∀ W, Below wr.heap.size wr W → ∀ o, W.frozen? ⟨w.heap.size, o, none⟩ = false) := Lib.hid fun W hb o => (World.frozen?_of_block (w := wr) (a := ⟨w.heap.size, o, none⟩) (hb.block _ (lt_of_cell p0))).trans (hfr o)
      clear hlc hmc hwt hll hpre
      clear hbr hfr hLr hHr hinv hps hlT hlL hx hhalf hstart e0
      go_wp2_with fail
      go_quiet (fail)
      go_wp2_with fail
      clear p0 p1 p2 p3 p4 e1 e2
      obtain ⟨wa, hwa⟩ : ∃ wa : World, wa = wr.drewN nq := ⟨_, rfl⟩
      have HBA : Hid (Below wr.heap.size wr wa) := Lib.hid (by rw [hwa]; exact belowN (belowR _) _)
      rw [← hwa]
      clear hwa
      go_loopw [12, 13] (fun vl vh wx => ∃ (low high : Int), vl = .int .i64 low ∧ vh = .int .i64 high ∧ xlo ≤ low ∧ low ≤ high ∧ high ≤ xhi ∧ Hid ((∃ w, TruthP (withPs h ps) l w ∧ sumS w s = M ∧ w k ≤ high) ∧ ∀ w, TruthP (withPs h ps) l w → sumS w s = M → low ≤ w k) ∧ Hid (Below wr.heap.size wr wx)) (fun vl vh _ => (intOf vh - intOf vl).toNat)
      case atStart => exact ⟨xlo, xhi, rfl, rfl, Int.le_refl _, hxo1, Int.le_refl _, HSTART, HBA⟩
      case round =>
        obtain ⟨low, high, rfl, rfl, hl1, hl2, hl3, HIV, HBX⟩ := hrel
        obtain ⟨⟨p0, p1, p2, p3, p4⟩, e1⟩ := HKr.out _ HBX.out
        by_cases hlh : low < high
        · obtain ⟨mid, hmid⟩ : ∃ mid, (low + high) / 2 = mid := ⟨_, rfl⟩
          have hm1 : low ≤ mid := by omega
          have hm2 : mid < high := by omega
          have hq : (low + high).tdiv 2 = mid := by rw [Int.tdiv_eq_ediv_of_nonneg (by omega)]; exact hmid
          have hw1 : wrap64 (low + high) = low + high := by unfold wrap64; omega
          have hw2 : wrap64 mid = mid := by unfold wrap64; omega
          have hw3 : wrap64 (mid + 1) = mid + 1 := by unfold wrap64; omega
          clear hmid
          go_wp2_with fail
          have HBD := Lib.hid (belowDq HBX.out)
          clear p0 p1 p2 p3 p4 e1
          go_region_held3 (fun W => (W.cell? ⟨w.heap.size, 0, none⟩ = some (.slice (some ⟨b, off, none⟩) h.ps.length capk) ∧ W.cell? ⟨w.heap.size, 1, none⟩ = some (.slice J h.js.length capJ) ∧ W.cell? ⟨w.heap.size, 2, none⟩ = some (.int .i64 h.slo) ∧ W.cell? ⟨w.heap.size, 3, none⟩ = some (.int .i64 h.shi) ∧ W.cell? ⟨w.heap.size, 4, none⟩ = some (.int .i64 h.winch)) ∧ W.cell? ⟨b, off + k * 3 + 1, none⟩ = some (iv xlo)) (first | exact HKr.out _ HBD.out | exact HKr.out _ HB4.out | exact HKr.out _ HB5.out) (((first | (go_at_call 77; ((with_reducible refine (HLC.out _ xlo mid HBD.out).mono ?_); rintro e w4 ⟨hb4, g4, c4, hg4, rfl, hH4⟩; have HB4 := Lib.hid (belowT HBD.out hb4); have HH4 := Lib.hid hH4; clear hb4 hH4)) | (go_at_call 66; ((with_reducible refine (HMC.out _ g4 c4 mid (Int.le_trans hl1 hm1) (Int.le_trans (Int.le_of_lt hm2) hl3) HB4.out HH4.out).mono ?_); rintro e w5 ⟨hb5, g5, c5, rfl, hown5⟩; have HB5 := Lib.hid (belowT HB4.out hb5); have HR5 := Lib.hid (row_rd hown5); clear hb5 hown5)))))
          have hhf := HHALF.out mid (Int.le_trans hl1 hm1) (Int.le_trans (Int.le_of_lt hm2) hl3)
          have hwt : WtOk h.ps.length (mostW (withPs h (limPs ps k xlo mid)) l s) := HWT.out mid (Int.le_trans hl1 hm1) (Int.le_trans (Int.le_of_lt hm2) hl3)
          obtain ⟨WT, hWT⟩ : ∃ x, mostW (withPs h (limPs ps k xlo mid)) l s = x := ⟨_, rfl⟩
          rw [hWT] at HR5 hhf hwt ⊢
          have hsum := sumS_any _ WT h.ps.length w5.heap.size c5 s w5 HN8.out HS2.out HR5.out hwt
          have hsb := sumS_bd HN8.out HS2.out hwt
          obtain ⟨SM, hSM⟩ : ∃ x, sumS WT s = x := ⟨_, rfl⟩
          rw [hSM] at hsum hhf hsb
          have HSUM := Lib.hid hsum
          clear hsum hWT hwt hSM
          by_cases hag : agreesB l WT = true
          · rw [hag] at hhf ⊢
            by_cases hsm : SM = M
            · have hse : (SM == M) = true := by simpa using hsm
              have hex := hhf.1 ⟨rfl, hsm⟩
              have HNX : Hid ((∃ w, TruthP (withPs h ps) l w ∧ sumS w s = M ∧ w k ≤ mid) ∧ ∀ w, TruthP (withPs h ps) l w → sumS w s = M → low ≤ w k) := Lib.hid ⟨hex, HIV.out.2⟩
              clear hex hhf hsm
              go_wp2_with fail
              refine HSUM.out.mono ?_
              rintro e w6 ⟨rfl, rfl⟩
              go_wp2_with fail
              exact ⟨⟨low, mid, rfl, rfl, hl1, hm1, by omega, HNX, HB5⟩, by simp [intOf]; omega⟩
            · have hse : (SM == M) = false := by simpa using hsm
              have HNX : Hid ((∃ w, TruthP (withPs h ps) l w ∧ sumS w s = M ∧ w k ≤ high) ∧ ∀ w, TruthP (withPs h ps) l w → sumS w s = M → mid + 1 ≤ w k) := Lib.hid ⟨HIV.out.1, fun u hu hus => (Int.lt_or_le mid (u k)).elim (fun h1 => by omega) fun h1 => absurd (hhf.2 ⟨u, hu, hus, h1⟩).2 hsm⟩
              clear hhf hsm
              go_wp2_with fail
              refine HSUM.out.mono ?_
              rintro e w6 ⟨rfl, rfl⟩
              go_wp2_with fail
              exact ⟨⟨mid + 1, high, rfl, rfl, by omega, by omega, hl3, HNX, HB5⟩, by simp [intOf]; omega⟩
          · have hagf : agreesB l WT = false := by simpa using hag
            rw [hagf] at hhf ⊢
            have HNX : Hid ((∃ w, TruthP (withPs h ps) l w ∧ sumS w s = M ∧ w k ≤ high) ∧ ∀ w, TruthP (withPs h ps) l w → sumS w s = M → mid + 1 ≤ w k) := Lib.hid ⟨HIV.out.1, fun u hu hus => (Int.lt_or_le mid (u k)).elim (fun h1 => by omega) fun h1 => absurd (hhf.2 ⟨u, hu, hus, h1⟩).1 (by decide)⟩
            clear hhf hag hagf
            go_wp2_with fail
            exact ⟨⟨mid + 1, high, rfl, rfl, by omega, by omega, hl3, HNX, HB5⟩, by simp [intOf]; omega⟩
        · obtain rfl : low = high := by omega
          have hIs : IsLow h l s M ps k low := by
            obtain ⟨⟨u, hu, hus, hul⟩, hall⟩ := HIV.out
            have := hall u hu hus
            exact ⟨⟨u, hu, hus, by omega⟩, hall⟩
          have HLE := Lib.hid (lowC_eq hIs)
          have f0 := HFX.out _ HBX.out 0
          have f1 := HFX.out _ HBX.out 1
          have f2 := HFX.out _ HBX.out 2
          have f3 := HFX.out _ HBX.out 3
          have f4 := HFX.out _ HBX.out 4
          clear hIs f0 f1 f2 f3 f4 e1
          go_wp2_with fail
          refine (HLC.out _ low low HBX.out).mono ?_
          rintro e w4 ⟨hb4, g4, c4, hg4, rfl, hH4⟩
          have HB4 := Lib.hid (belowT HBX.out hb4)
          have HH4 := Lib.hid hH4
          clear hb4 hH4 p0 p1 p2 p3 p4
          obtain ⟨⟨p0, p1, p2, p3, p4⟩, _⟩ := HKr.out _ HB4.out
          have f0 := HFX.out _ HB4.out 0
          have f1 := HFX.out _ HB4.out 1
          have f2 := HFX.out _ HB4.out 2
          have f3 := HFX.out _ HB4.out 3
          have f4 := HFX.out _ HB4.out 4
          go_upto_region 17 with fail
          have hgw : g4 ≠ w.heap.size := by have := HBX.out.size; omega
          obtain ⟨W9, hW9⟩ : ∃ W9, (((((w4.setCell ⟨w.heap.size, 0, none⟩ (.slice (some ⟨g4, 0, none⟩) h.ps.length c4)).setCell ⟨w.heap.size, 1, none⟩ (.slice J h.js.length capJ)).setCell ⟨w.heap.size, 2, none⟩ (.int .i64 h.slo)).setCell ⟨w.heap.size, 3, none⟩ (.int .i64 h.shi)).setCell ⟨w.heap.size, 4, none⟩ (.int .i64 h.winch)) = W9 := ⟨_, rfl⟩
          have t0 : W9.cell? ⟨w.heap.size, 0, none⟩ = some (.slice (some ⟨g4, 0, none⟩) h.ps.length c4) := by rw [← hW9]; clear hW9; go_simp
          have t1 : W9.cell? ⟨w.heap.size, 1, none⟩ = some (.slice J h.js.length capJ) := by rw [← hW9]; clear hW9; go_simp
          have t2 : W9.cell? ⟨w.heap.size, 2, none⟩ = some (.int .i64 h.slo) := by rw [← hW9]; clear hW9; go_simp
          have t3 : W9.cell? ⟨w.heap.size, 3, none⟩ = some (.int .i64 h.shi) := by rw [← hW9]; clear hW9; go_simp
          have t4 : W9.cell? ⟨w.heap.size, 4, none⟩ = some (.int .i64 h.winch) := by rw [← hW9]; clear hW9; go_simp
          have hf9 : ∀ o, W9.frozen? ⟨w.heap.size, o, none⟩ = false := fun o => by rw [← hW9]; simp only [World.frozen?_setCell]; exact HFX.out _ HB4.out o
          have hl0 := Nat.le_refl w.heap.size
          have hb9 : Below w.heap.size w W9 := by rw [← hW9]; exact belowS (belowS (belowS (belowS (belowS (belowT HBR.out HB4.out) hl0 _) hl0 _) hl0 _) hl0 _) hl0 _
          have hz9 : W9.heap.size = w4.heap.size := by rw [← hW9]; simp
          have hr9 : ∀ o c, w4.cell? ⟨g4, o, none⟩ = some c → W9.cell? ⟨g4, o, none⟩ = some c := fun o c hc => by rw [← hW9]; exact keepSet (keepSet (keepSet (keepSet (keepSet hc hgw) hgw) hgw) hgw) hgw
          have ho9 : W9.ownsRow W1.heap.size 3 1 vo k ((lowL h l s M k).map iv) := by rw [← hW9]; exact ownsRow_setCell_below (ownsRow_setCell_below (ownsRow_setCell_below (ownsRow_setCell_below (ownsRow_setCell_below (own_below HO.out HB4.out) hw1 _) hw1 _) hw1 _) hw1 _) hw1 _
          have HO9 := Lib.hid ho9
          have HF9 := Lib.hid hf9
          have HR9 := Lib.hid hr9
          have HB9 := Lib.hid hb9
          have HZ9 := Lib.hid hz9
          have hw9 : w.heap.size < W9.heap.size := lt_of_cell t0
          have hz99 : W1.heap.size ≤ W9.heap.size := by have := HZ9.out; have := HB4.out.size; omega
          have hg49 : g4 < W9.heap.size := by
            obtain ⟨y, hy⟩ : ∃ y, (limPs ps k low low)[0]? = some y := ⟨_, List.getElem?_eq_getElem (by rw [limPs_len]; omega)⟩
            obtain ⟨b9, o9, e9, hb9, _⟩ := prtAt HH4.out.ps hy
            injection e9 with e9
            injection e9 with e91 e92
            omega
          rw [hW9]
          clear hW9 ho9 hf9 hr9 hb9 hz9 p0 p1 p2 p3 p4 f0 f1 f2 f3 f4
          have HAL := Lib.hid (HO9.out.alloc (.cells #[iv low] 3))
          go_wp2_with (at_builtin; refine wpList_append_own _ rfl _ _ 40 rfl W1.heap.size 3 i3 (.int .i64 0) 1 8 Try.underlying40 hi3 hz30 hz31 hz32 rfl (by decide) _ _ _ rfl HAL.out ⟨W9.heap.size, 0, none⟩ 1 1 [iv low] rfl rfl ?d1 ?d2 ?d3 ?d4 ?d5 ?_)
          case d1 => exact one_new _ _ _
          case d2 => simp [Value.oneCell']
          case d3 => unfold maxLen; omega
          case d4 => omega
          case d5 => first | omega | (simp; omega)
          intro v10 w10 hown10 hg10 _
          have hb10 : Below w.heap.size w w10 := grownB HAL.out hg10 hzw (belowA HB9.out _)
          have hk0 : ∀ o, w10.cell? ⟨w.heap.size, o, none⟩ = W9.cell? ⟨w.heap.size, o, none⟩ := fun o => (World.cell?_of_block (w := W9.alloc (.cells #[iv low] 3)) (a := ⟨w.heap.size, o, none⟩) (hg10.block w.heap.size (by simp only [World.size_alloc]; omega) (fun e => by have := (HAL.out.lt w.heap.size e.symm).1; omega))).trans (by clear hown10 hg10 HAL; go_simp)
          have hk1 : ∀ o, w10.frozen? ⟨w.heap.size, o, none⟩ = W9.frozen? ⟨w.heap.size, o, none⟩ := fun o => (World.frozen?_of_block (w := W9.alloc (.cells #[iv low] 3)) (a := ⟨w.heap.size, o, none⟩) (hg10.block w.heap.size (by simp only [World.size_alloc]; omega) (fun e => by have := (HAL.out.lt w.heap.size e.symm).1; omega))).trans (by clear hown10 hg10 HAL; go_simp)
          have hgr := Nat.le_trans HBX.out.size hg4
          have hk2 : ∀ o c, W9.cell? ⟨g4, o, none⟩ = some c → w10.cell? ⟨g4, o, none⟩ = some c := fun o c hc => (World.cell?_of_block (w := W9.alloc (.cells #[iv low] 3)) (a := ⟨g4, o, none⟩) (hg10.block g4 (by simp only [World.size_alloc]; omega) (fun e => by have := (HO.out.lt g4 e.symm).2; omega))).trans ((World.cell?_of_block (w := W9) (a := ⟨g4, o, none⟩) ((belowA (belowR W9) (.cells #[iv low] 3)).block _ hg49)).trans hc)
          have hz10 : W9.heap.size ≤ w10.heap.size := by have := hg10.size; simp only [World.size_alloc] at this; omega
          have hH10 : HulRd w10 w10.heap.size (withPs h (limPs ps k low low)) (some ⟨g4, 0, none⟩) c4 J capJ := by
            refine ⟨fun j y hy => ?_, (HH0.out.js.below hb10 hB).more (Nat.le_trans hB hb10.size), HH4.out.pl, HH4.out.pm, HJL.out, HJM.out, HH4.out.nm⟩
            obtain ⟨b9, o9, e9, hb9, hc9⟩ := HH4.out.ps j y hy
            injection e9 with e9
            injection e9 with e91 e92
            subst e91 e92
            exact ⟨_, _, rfl, by omega, fun q u hu => hk2 _ _ (HR9.out _ _ (hc9 q u hu))⟩
          have HK0 := Lib.hid (show (w10.cell? ⟨w.heap.size, 0, none⟩ = some (.slice (some ⟨g4, 0, none⟩) h.ps.length c4) ∧ w10.cell? ⟨w.heap.size, 1, none⟩ = some (.slice J h.js.length capJ) ∧ w10.cell? ⟨w.heap.size, 2, none⟩ = some (.int .i64 h.slo) ∧ w10.cell? ⟨w.heap.size, 3, none⟩ = some (.int .i64 h.shi) ∧ w10.cell? ⟨w.heap.size, 4, none⟩ = some (.int .i64 h.winch)) from ⟨(hk0 0).trans t0, (hk0 1).trans t1, (hk0 2).trans t2, (hk0 3).trans t3, (hk0 4).trans t4⟩)
          have HK1 : Hid (∀ o, w10.frozen? ⟨w.heap.size, o, none⟩ = false) := Lib.hid fun o => (hk1 o).trans (HF9.out o)
          have HL10 := Lib.hid (HL0.out.below hb10 hB)
          have HO10 := Lib.hid hown10
          have HB10 := Lib.hid hb10
          have HH10 := Lib.hid hH10
          have hz11 : W1.heap.size ≤ w10.heap.size := by have := HZ9.out; have := HB4.out.size; omega
          clear hown10 hg10 hb10 hH10 HAL hk0 hk1 hk2 hz10
          go_wp2_with fail
          exact ⟨⟨k + 1, _, some ⟨g4, 0, none⟩, c4, by omega, by go_num, rfl, Lib.hid (by rw [HLL.out, HLE.out, List.map_append]; exact HO10.out), Lib.hid ⟨HB10.out, hz11, HK1.out, HL10.out, HK0.out, by rw [HLT.out, HLE.out]; exact HH10.out⟩⟩, by simp [intOf]; omega⟩
    · obtain rfl : k = h.ps.length := by omega
      have hown := HO.out
      have hown' : wr.ownsRow W1.heap.size 3 1 vo (lowL h l s M h.ps.length).length ((lowL h l s M h.ps.length).map iv) := by rw [lowL_len]; exact hown
      obtain ⟨A5, cap5, hv5, _⟩ := own_rd1 hown'
      rw [lowL_len] at hv5
      subst hv5
      have HO5 := Lib.hid hown
      have HBR := Lib.hid hbr
      clear hown hown' HO hbr hfr hLr hHr
      go_wp2_with fail
      exact HFIN.out _ _ ⟨HBR.out, A5, cap5, rfl, HO5.out⟩
end Go.Proofs.Ytojgdallodmanaa

namespace Go.Proofs.Ytojgdallodmanaa
open Go.RowKit

/-- Numbers of which none is more than one above all ahead of it. -/
def grow : Nat → List Nat → Bool
  | _, [] => true
  | next, x :: q => decide (x ≤ next) && grow (max next (x + 1)) q
section
variable {js : List (Int × Int)} {n b : Nat}
/-- Which cuts are gone through. -/
theorem cutsF_iff : ∀ (k : Nat) (p : List Nat) (next : Nat) (C : List Nat), C ∈ cutsF js n b k p next ↔ ∃ q, q.length = k ∧ grow next q = true ∧ (∀ x ∈ q, x < b) ∧ hangCut js (p ++ q) n = true ∧ C = pad (p ++ q) := by
  intro k
  induction k with
  | zero =>
    intro p next C
    unfold cutsF
    constructor
    · intro h
      split at h
      · rename_i hh
        rw [List.mem_singleton] at h
        exact ⟨[], rfl, rfl, by simp, by simpa using hh, by simpa using h⟩
      · cases h
    · rintro ⟨q, hq, _, _, hh, rfl⟩
      obtain rfl : q = [] := List.length_eq_zero_iff.1 hq
      rw [List.append_nil] at hh ⊢
      rw [if_pos hh]
      simp
  | succ k ih =>
    intro p next C
    unfold cutsF
    rw [List.mem_flatMap]
    constructor
    · rintro ⟨i, hi, hC⟩
      rw [List.mem_range] at hi
      obtain ⟨q, hq, hg, hb, hh, rfl⟩ := (ih _ _ _).1 hC
      refine ⟨i :: q, by simp [hq], ?_, ?_, by simpa using hh, by simp⟩
      · simp only [grow, Bool.and_eq_true, decide_eq_true_eq]
        exact ⟨by omega, hg⟩
      · intro x hx
        rcases List.mem_cons.1 hx with rfl | hx
        · omega
        · exact hb x hx
    · rintro ⟨q, hq, hg, hb, hh, rfl⟩
      match q, hq with
      | i :: q, hq =>
        simp only [grow, Bool.and_eq_true, decide_eq_true_eq] at hg
        have hib := hb i (List.mem_cons_self ..)
        refine ⟨i, by rw [List.mem_range]; omega, (ih _ _ _).2 ⟨q, by simpa using hq, hg.2, fun x hx => hb x (List.mem_cons_of_mem _ hx), by simpa using hh, by simp⟩⟩
theorem cutsL_iff {C : List Nat} : C ∈ cutsL js n b ↔ ∃ q, q.length = n ∧ grow 0 q = true ∧ (∀ x ∈ q, x < b) ∧ hangCut js q n = true ∧ C = pad q := by
  unfold cutsL
  rw [cutsF_iff]
  simp
theorem manyTo_bd {C : List Nat} (hc : ∀ x ∈ C, x < b) : ∀ k, manyTo C k ≤ b := by
  intro k
  induction k with
  | zero => simp [manyTo]
  | succ k ih =>
    rw [manyTo]
    split
    · rename_i x hx
      have := hc x (List.mem_of_getElem? hx)
      omega
    · exact ih
theorem cutsL_many {C : List Nat} (hb : 1 ≤ b) (hC : C ∈ cutsL js n b) : manyTo C n ≤ b := by
  obtain ⟨q, _, _, hq, _, rfl⟩ := cutsL_iff.1 hC
  refine manyTo_bd (fun x hx => ?_) n
  unfold pad at hx
  rcases List.mem_append.1 hx with h | h
  · exact hq x h
  · rw [List.mem_replicate] at h; omega
end
/-! Each part for itself. -/
theorem single_many : ∀ n, n < 9 → manyTo (pad (List.range n)) n = n := by decide
theorem single_blk : ∀ n, n < 9 → ∀ j, j < n → (blkTo (pad (List.range n)) n)[j]? = some (2 ^ j) := by decide
theorem single_grow : ∀ n, n < 9 → grow 0 (List.range n) = true := by decide
theorem single_hang (js : List (Int × Int)) {n : Nat} (hn : n ≤ 8) : hangCut js (List.range n) n = true := by
  unfold hangCut anyTo
  rw [single_many n (by omega)]
  simp only [Bool.not_eq_true', List.any_eq_false]
  intro j hj
  rw [List.mem_range] at hj
  rw [single_blk n (by omega) j hj]
  simp [hangs_single js (show j < 8 by omega)]
theorem single_mem (js : List (Int × Int)) {n : Nat} (hn : n ≤ 8) : pad (List.range n) ∈ cutsL js n n :=
  cutsL_iff.2 ⟨List.range n, by simp, single_grow n (by omega), fun x hx => by simpa using hx, single_hang js hn, rfl⟩
section
variable {h : Hul} {N : List Nd}
theorem lightCut_iff {C : List Nat} : lightCut h N C = true ↔ ∀ j, j < manyTo C h.ps.length → lightS h N ((blkTo C h.ps.length)[j]?.getD 0) = true := by
  unfold lightCut anyTo
  simp only [Bool.not_eq_true', List.any_eq_false, List.mem_range]
  exact ⟨fun H j hj => by simpa using H j hj, fun H j hj => by simpa using H j hj⟩
theorem single_not (hn : h.ps.length ≤ 8) (hl : lightCut h N (pad (List.range h.ps.length)) = false) : ∃ i, i < h.ps.length ∧ lightS h N (2 ^ i) = false := by
  by_cases hx : ∃ i, i < h.ps.length ∧ lightS h N (2 ^ i) = false
  · exact hx
  · exfalso
    have : lightCut h N (pad (List.range h.ps.length)) = true := by
      rw [lightCut_iff, single_many _ (by omega)]
      intro j hj
      rw [single_blk _ (by omega) j hj]
      simp only [Option.getD_some]
      cases e : lightS h N (2 ^ j) with
      | true => rfl
      | false => exact absurd ⟨j, hj, e⟩ hx
    rw [hl] at this
    cases this
theorem few_fold (pre : List (List Nat)) : ∀ r : Nat × List Nat, (pre.foldl (fewStep h N) r = r ∨ ((pre.foldl (fewStep h N) r).2 ∈ pre ∧ (pre.foldl (fewStep h N) r).1 = manyTo (pre.foldl (fewStep h N) r).2 h.ps.length ∧ lightCut h N (pre.foldl (fewStep h N) r).2 = true)) ∧ (pre.foldl (fewStep h N) r).1 ≤ r.1 ∧ ∀ C ∈ pre, lightCut h N C = true → (pre.foldl (fewStep h N) r).1 ≤ manyTo C h.ps.length := by
  induction pre with
  | nil => intro r; exact ⟨.inl rfl, Nat.le_refl _, fun C hC => by cases hC⟩
  | cons D pre ih =>
    intro r
    rw [List.foldl_cons]
    obtain ⟨i1, i2, i3⟩ := ih (fewStep h N r D)
    have hs : (fewStep h N r D).1 ≤ r.1 ∧ (lightCut h N D = true → (fewStep h N r D).1 ≤ manyTo D h.ps.length) ∧ (fewStep h N r D = r ∨ (fewStep h N r D = (manyTo D h.ps.length, D) ∧ lightCut h N D = true)) := by
      unfold fewStep
      split
      · rename_i hc
        simp only [Bool.and_eq_true, decide_eq_true_eq] at hc
        exact ⟨by simp only; omega, fun _ => Nat.le_refl _, .inr ⟨rfl, hc.2⟩⟩
      · rename_i hc
        simp only [Bool.and_eq_true, decide_eq_true_eq, not_and] at hc
        exact ⟨Nat.le_refl _, fun hl => Nat.le_of_not_lt fun hlt => hc hlt hl, .inl rfl⟩
    refine ⟨?_, by omega, fun C hC hl => ?_⟩
    · rcases i1 with e | ⟨a, b, c⟩
      · rcases hs.2.2 with e2 | ⟨e2, hl⟩
        · exact .inl (e.trans e2)
        · rw [e, e2]
          exact .inr ⟨List.mem_cons_self .., rfl, hl⟩
      · exact .inr ⟨List.mem_cons_of_mem _ a, b, c⟩
    · rcases List.mem_cons.1 hC with rfl | hC
      · have := hs.2.1 hl; omega
      · exact i3 C hC hl
/-- The cut that Fewest finds. -/
theorem few_some (hf : (fewOf h N).1 ≤ h.ps.length) : (fewOf h N).2 ∈ cutsL h.js h.ps.length h.ps.length ∧ (fewOf h N).1 = manyTo (fewOf h N).2 h.ps.length ∧ lightCut h N (fewOf h N).2 = true := by
  rcases (few_fold (h := h) (N := N) (cutsL h.js h.ps.length h.ps.length) (h.ps.length + 1, List.replicate 8 0)).1 with e | e
  · exfalso
    have : fewOf h N = (h.ps.length + 1, List.replicate 8 0) := e
    rw [this] at hf
    simp only at hf
    omega
  · exact e
theorem few_le {C : List Nat} (hC : C ∈ cutsL h.js h.ps.length h.ps.length) (hl : lightCut h N C = true) : (fewOf h N).1 ≤ manyTo C h.ps.length := (few_fold _ _).2.2 C hC hl
/-- Where Fewest finds none, one part is too heavy by itself. -/
theorem few_none (hn : h.ps.length ≤ 8) (hf : h.ps.length < (fewOf h N).1) : ∃ i, i < h.ps.length ∧ lightS h N (2 ^ i) = false := by
  refine single_not hn ?_
  cases e : lightCut h N (pad (List.range h.ps.length)) with
  | false => rfl
  | true =>
    have := few_le (single_mem h.js hn) e
    rw [single_many _ (by omega)] at this
    omega
theorem few_of_single (hn : h.ps.length ≤ 8) (hl : ∀ i, i < h.ps.length → lightS h N (2 ^ i) = true) : (fewOf h N).1 ≤ h.ps.length := by
  rcases Nat.lt_or_ge h.ps.length (fewOf h N).1 with h1 | h1
  · obtain ⟨i, hi, e⟩ := few_none hn h1
    rw [hl i hi] at e
    cases e
  · exact h1
/-- Every block of a cut is a set of parts. -/
theorem blk_lt {C : List Nat} (_hn : h.ps.length ≤ 8) (j : Nat) : (blkTo C h.ps.length)[j]?.getD 0 < 2 ^ h.ps.length := by
  have key : ∀ k, ∀ x ∈ blkTo C k, x < 2 ^ k := by
    intro k
    induction k with
    | zero => intro x hx; rw [blkTo, List.mem_replicate] at hx; rw [hx.2]; decide
    | succ k ih =>
      intro x hx
      have hp : 2 ^ k < 2 ^ (k + 1) := Nat.pow_lt_pow_right (by decide) (by omega)
      have hy : ∀ y ∈ blkTo C k, y < 2 ^ (k + 1) := fun y hy => Nat.lt_trans (ih y hy) hp
      rw [blkTo] at hx
      split at hx
      · rename_i m _
        rcases List.mem_or_eq_of_mem_set hx with h1 | h1
        · exact hy x h1
        · rw [h1]
          refine Nat.or_lt_two_pow ?_ hp
          cases hg : (blkTo C k)[m]? with
          | none => simp; exact Nat.pow_pos (by decide)
          | some y => exact hy y (List.mem_of_getElem? hg)
      · exact hy x hx
  cases e : (blkTo C h.ps.length)[j]? with
  | none => simp only [Option.getD_none]; exact Nat.pow_pos (by decide)
  | some x => exact key _ x (List.mem_of_getElem? e)
end
/-- What is lighter for all blocks needs no more of them. -/
theorem few_mono {h h' : Hul} {N N' : List Nd} (hn : h.ps.length ≤ 8) (hj : h'.js = h.js) (hl : h'.ps.length = h.ps.length) (hm : ∀ s, s < 2 ^ h.ps.length → lightS h N s = true → lightS h' N' s = true) (hf : (fewOf h N).1 ≤ h.ps.length) : (fewOf h' N').1 ≤ (fewOf h N).1 := by
  obtain ⟨a, b, c⟩ := few_some hf
  rw [b, ← hl]
  refine few_le (by rw [hj, hl]; exact a) ?_
  rw [lightCut_iff] at c ⊢
  rw [hl]
  exact fun j hj => hm _ (blk_lt hn j) (c j hj)
/-- What is as light for all blocks has the same cut. -/
theorem few_same {h h' : Hul} {N N' : List Nd} (hn : h.ps.length ≤ 8) (hj : h'.js = h.js) (hl : h'.ps.length = h.ps.length) (hm : ∀ s, s < 2 ^ h.ps.length → lightS h' N' s = lightS h N s) : fewOf h' N' = fewOf h N := by
  have e : ∀ C, lightCut h' N' C = lightCut h N C := fun C => by
    have a := lightCut_iff (h := h) (N := N) (C := C)
    have b := lightCut_iff (h := h') (N := N') (C := C)
    rw [hl] at b
    have : lightCut h' N' C = true ↔ lightCut h N C = true := by
      rw [a, b]
      exact ⟨fun H j hj => by rw [← hm _ (blk_lt hn j)]; exact H j hj, fun H j hj => by rw [hm _ (blk_lt hn j)]; exact H j hj⟩
    cases h1 : lightCut h N C <;> cases h2 : lightCut h' N' C <;> simp_all
  have e2 : fewStep h' N' = fewStep h N := by
    funext r C
    unfold fewStep
    rw [hl, e C]
  unfold fewOf fewTo
  rw [hj, hl, e2]
end Go.Proofs.Ytojgdallodmanaa

namespace Go.Proofs.Ytojgdallodmanaa
open Go.RowKit

theorem crossN_self (a : Nat) : crossN a a = false := by unfold crossN; simp
theorem crossN_symm (a b : Nat) : crossN a b = crossN b a := by
  unfold crossN
  rw [Nat.and_comm]
  cases (b &&& a != 0) <;> cases (b &&& a != a) <;> cases (b &&& a != b) <;> rfl
theorem noCross_all {l : List Wgh} (h : l.Pairwise NoCross) : ∀ x ∈ l, ∀ y ∈ l, NoCross x y := by
  induction l with
  | nil => intro x hx; cases hx
  | cons z l ih =>
    rw [List.pairwise_cons] at h
    intro x hx y hy
    rcases List.mem_cons.1 hx with e1 | h1
    · rcases List.mem_cons.1 hy with e2 | h2
      · rw [e1, e2]; exact crossN_self _
      · rw [e1]; exact h.1 y h2
    · rcases List.mem_cons.1 hy with e2 | h2
      · have := h.1 x h1
        rw [e2]
        unfold NoCross at this ⊢
        rw [crossN_symm]; exact this
      · exact ih h.2 x h1 y h2
section
variable {h : Hul} {l m : List Wgh}
theorem pre_same (hp : openPre h l = 0) (hm : ∀ x ∈ m, x ∈ l) (hl : m.length ≤ 6) : openPre h m = 0 := by
  obtain ⟨h1, _, h3, h4⟩ := openPre_iff.1 hp
  refine openPre_iff.2 ⟨h1, hl, fun x hx => h3 x (hm x hx), ?_⟩
  have ha := noCross_all h4
  exact List.pairwise_iff_forall_sublist.2 fun {a b} hab => ha a (hm a (hab.subset (by simp))) b (hm b (hab.subset (by simp)))
theorem truth_same (hm : ∀ x, x ∈ m ↔ x ∈ l) (h' : Hul) : TruthP h' m = TruthP h' l := by
  funext w
  unfold TruthP
  apply propext
  exact ⟨fun ⟨a, b⟩ => ⟨a, fun x hx => b x ((hm x).2 hx)⟩, fun ⟨a, b⟩ => ⟨a, fun x hx => b x ((hm x).1 hx)⟩⟩
theorem feas_same (hm : ∀ x, x ∈ m ↔ x ∈ l) (h' : Hul) : Feas h' m ↔ Feas h' l := by
  unfold Feas
  rw [truth_same hm]
theorem isMost_same (hm : ∀ x, x ∈ m ↔ x ∈ l) (h' : Hul) (s : Nat) (M : Int) : IsMost h' m s M ↔ IsMost h' l s M := by
  unfold IsMost
  rw [truth_same hm]
theorem mostRef_same (hp : openPre h l = 0) (hq : openPre h m = 0) (hm : ∀ x, x ∈ m ↔ x ∈ l) (hf : Feas h l) {s : Nat} (hs : s < 2 ^ h.ps.length) : mostRef h m s = mostRef h l s := by
  obtain ⟨a, b, c⟩ := lwOk hp
  obtain ⟨a', b', c'⟩ := lwOk hq
  exact IsMost.uniq ((isMost_same hm h s _).1 (a'.most_is b' c' ((feas_same hm h).2 hf) hs).2) (a.most_is b c hf hs).2
theorem isLeast_same (hm : ∀ x, x ∈ m ↔ x ∈ l) (h' : Hul) (s : Nat) (M : Int) : IsLeast h' m s M ↔ IsLeast h' l s M := by
  unfold IsLeast
  rw [truth_same hm]
theorem leastRef_same (hp : openPre h l = 0) (hq : openPre h m = 0) (hm : ∀ x, x ∈ m ↔ x ∈ l) (hf : Feas h l) {s : Nat} (hs : s < 2 ^ h.ps.length) : leastRef h m s = leastRef h l s := by
  obtain ⟨a, b, c⟩ := lwOk hp
  obtain ⟨a', b', c'⟩ := lwOk hq
  exact IsLeast.uniq ((isLeast_same hm h s _).1 (a'.leastRef_is b' c' ((feas_same hm h).2 hf) hs)) (a.leastRef_is b c hf hs)
theorem spansRef_same (hp : openPre h l = 0) (hq : openPre h m = 0) (hm : ∀ x, x ∈ m ↔ x ∈ l) (hf : Feas h l) : spansRef h m h.ps.length = spansRef h l h.ps.length := by
  unfold spansRef
  apply List.map_congr_left
  intro i hi
  have hp2 : 2 ^ i < 2 ^ h.ps.length := Nat.pow_lt_pow_right (by decide) (by simpa using hi)
  rw [mostRef_same hp hq hm hf hp2, leastRef_same hp hq hm hf hp2]
theorem few_ord {N N' : List Nd} (hp : openPre h l = 0) (hq : openPre h m = 0) (hm : ∀ x, x ∈ m ↔ x ∈ l) (hf : Feas h l) (hN : IsTree h l N) (hN' : IsTree h m N') : fewOf h N' = fewOf h N := by
  have hk := hulOk (openPre_zero hp).1
  refine few_same hk.n8 rfl rfl fun s hs => ?_
  unfold lightS
  rw [mostV_ref hp hN hf hs, mostV_ref hq hN' ((feas_same hm h).2 hf) hs, mostRef_same hp hq hm hf hs]
theorem lowL_same (hm : ∀ x, x ∈ m ↔ x ∈ l) (s : Nat) (M : Int) (n : Nat) : lowL h m s M n = lowL h l s M n := by
  have e : IsLow h m = IsLow h l := by
    funext s M ps i v
    unfold IsLow
    rw [truth_same hm]
  have e2 : lowC h m = lowC h l := by
    unfold lowC
    rw [e]
  have e3 : ∀ ps k, lowTo h m s M ps k = lowTo h l s M ps k := by
    intro ps k
    induction k with
    | zero => rfl
    | succ k ih => rw [lowTo, lowTo, ih, e2]
  unfold lowL
  simp only [e2, e3]
end
end Go.Proofs.Ytojgdallodmanaa

namespace Go.Proofs.Ytojgdallodmanaa
open Go.RowKit

/-- A row that lies in blocks from lo on, to be read. -/
structure RowR {α : Type} (lo k : Nat) (enc : α → List Value) (w : World) (A : Option Addr) (cap : Nat) (xs : List α) : Prop where
  le : xs.length ≤ cap
  max : cap ≤ maxLen
  rd : RdN k enc w w.heap.size A xs
  nil0 : A = none → xs = [] ∧ cap = 0
  here : ∀ a, A = some a → a.spot = none ∧ lo ≤ a.block ∧ a.block < w.heap.size
section
variable {α : Type} {lo k : Nat} {enc : α → List Value} {w w' : World} {A : Option Addr} {cap : Nat} {xs : List α}
theorem RowR.nil : RowR lo k enc w none 0 [] := ⟨Nat.le_refl _, Nat.zero_le _, RdN.nil, fun _ => ⟨rfl, rfl⟩, fun _ h => by cases h⟩
theorem RowR.below (h : RowR lo k enc w A cap xs) (hb : Below w.heap.size w w') : RowR lo k enc w' A cap xs :=
  ⟨h.le, h.max, (h.rd.below hb (Nat.le_refl _)).more hb.size, h.nil0, fun a ha => ⟨(h.here a ha).1, (h.here a ha).2.1, Nat.lt_of_lt_of_le (h.here a ha).2.2 hb.size⟩⟩
theorem RowR.set (h : RowR lo k enc w A cap xs) {g o : Nat} (hg : g < lo) (u : Value) : RowR lo k enc (w.setCell ⟨g, o, none⟩ u) A cap xs := by
  refine ⟨h.le, h.max, fun i x hx => ?_, h.nil0, fun a ha => ?_⟩
  · obtain ⟨b, off, e, hb, hc⟩ := h.rd i x hx
    have := (h.here _ e).2.1
    refine ⟨b, off, e, by simpa using hb, fun j v hv => ?_⟩
    exact keepSet (hc j v hv) (by simp only at this; omega)
  · obtain ⟨h1, h2, h3⟩ := h.here a ha
    exact ⟨h1, h2, by simpa using h3⟩
theorem RowR.of_own (he : ∀ x, (enc x).length = k) {e : TypeId} {v : Value} {n : Nat} {ys : List Value} (h : w.ownsRow lo e k v n ys) (hn : n = xs.length) (hys : ys = xs.flatMap enc) (h0 : 0 < xs.length) : ∃ A cap, v = .slice A xs.length cap ∧ RowR lo k enc w A cap xs := by
  subst hn hys
  obtain ⟨A, cap, e1, h2, h3, h4, h5⟩ := own_rdN he h
  obtain ⟨x, hx⟩ : ∃ x, xs[0]? = some x := ⟨_, List.getElem?_eq_getElem h0⟩
  obtain ⟨b, off, rfl, hb, hc⟩ := h2 0 x hx
  refine ⟨_, cap, e1, h4, h5, h2, fun h => (by cases h), fun a ha => ?_⟩
  injection ha with ha
  subst ha
  exact ⟨rfl, (h3 b off rfl).1, hb⟩
theorem RowR.low (he : ∀ x, (enc x).length = k) (h1 : ∀ x, ∀ u ∈ enc x, u.oneCell' = true) (h : RowR lo k enc w A cap xs) {p : Nat} (hp : p ≤ xs.length) : Srcs w k (.slice A p cap) p ((xs.take p).flatMap enc) := by
  cases A with
  | none =>
    obtain ⟨rfl, rfl⟩ := h.nil0 rfl
    have : p = 0 := by simpa using hp
    subst this
    exact .inl ⟨rfl, rfl, rfl⟩
  | some a =>
    refine .inr ⟨a, cap, rfl, by rw [flat_len he]; simp [Nat.min_eq_left hp], fun j u hu => ?_, fun u hu => ?_⟩
    · by_cases hk : 0 < k
      · have h0 : 0 < (xs.take p).length := by
          rcases Nat.eq_zero_or_pos (xs.take p).length with h0 | h0
          · rw [List.length_eq_zero_iff.1 h0] at hu; simp at hu
          · exact h0
        have hrt := h.rd.take p
        obtain ⟨b, off, e, _, _⟩ := hrt 0 _ (List.getElem?_eq_getElem h0)
        injection e with e
        subst e
        rw [add_off]
        exact flat_cells hk he hrt j u hu
      · have hl := flat_len he (xs.take p)
        have : k = 0 := by omega
        rw [this, Nat.mul_zero] at hl
        rw [List.length_eq_zero_iff.1 hl] at hu
        simp at hu
    · obtain ⟨c, _, hc⟩ := List.mem_flatMap.1 hu
      exact h1 c u hc
theorem RdN.drop {B b off : Nat} (h : RdN k enc w B (some ⟨b, off, none⟩) xs) (p : Nat) : RdN k enc w B (some ⟨b, off + p * k, none⟩) (xs.drop p) := by
  intro i x hx
  rw [List.getElem?_drop] at hx
  obtain ⟨b', off', e, hb, hc⟩ := h (p + i) x hx
  injection e with e
  injection e with e1 e2
  subst e1 e2
  refine ⟨b, _, rfl, hb, fun j u hu => ?_⟩
  have := hc j u hu
  rw [Nat.add_mul, ← Nat.add_assoc] at this
  exact this
theorem RowR.high (hk : 0 < k) (he : ∀ x, (enc x).length = k) (h1 : ∀ x, ∀ u ∈ enc x, u.oneCell' = true) (h : RowR lo k enc w A cap xs) {n p : Nat} (hn : n = xs.length) (hp : p ≤ n) : Srcs w k (.slice (if cap = p then A else A.map fun x => x.add (p * k)) (n - p) (cap - p)) (n - p) ((xs.drop p).flatMap enc) := by
  subst hn
  cases A with
  | none =>
    obtain ⟨rfl, rfl⟩ := h.nil0 rfl
    have : p = 0 := by simpa using hp
    subst this
    exact .inl ⟨by simp, rfl, rfl⟩
  | some a =>
    by_cases hc : cap = p
    · have hle := h.le
      have hpl : p = xs.length := by omega
      rw [if_pos hc]
      refine .inr ⟨a, cap - p, by simp, ?_, ?_, ?_⟩
      · rw [flat_len he]; simp
      · intro j u hu
        rw [hpl, List.drop_length] at hu
        simp at hu
      · intro u hu
        rw [hpl, List.drop_length] at hu
        simp at hu
    · rw [if_neg hc]
      obtain ⟨hs, _, _⟩ := h.here a rfl
      obtain ⟨b, off, sub⟩ := a
      simp only at hs
      subst hs
      refine .inr ⟨⟨b, off + p * k, none⟩, cap - p, by simp [add_off], by rw [flat_len he]; simp, fun j u hu => ?_, fun u hu => ?_⟩
      · rw [add_off]
        exact flat_cells hk he (h.rd.drop p) j u hu
      · obtain ⟨c, _, hc⟩ := List.mem_flatMap.1 hu
        exact h1 c u hc
end

theorem sl16_3 (A : Option Addr) (n cap k : Nat) (hk : (k : Int) ≤ (cap : Int)) (a : Act) (w : World) (h1' : a.eval (.tmp 42) = .slice A n cap) (h2' : a.eval (.tmp 43) = .int .i64 k) : (execOp a.eval (opN ops16_8 3)).run Try.prog w = .ok (.value (.slice A k cap)) w := by
  obtain ⟨o, e⟩ : ∃ o, o = opN ops16_8 3 := ⟨_, rfl⟩
  rw [← e]
  conv at e => rhs; whnf
  subst e
  have h0 : (0 : Int) ≤ (k : Int) := by omega
  have h1 : a.tmps[42]?.getD undef = .slice A n cap := by simpa [Act.eval] using h1'
  have h2 : a.tmps[43]?.getD undef = .int .i64 k := by simpa [Act.eval] using h2'
  clear h1' h2'
  go_simp
theorem sl16_13 (A : Option Addr) (n cap k : Nat) (hk : (k : Int) ≤ (n : Int)) (a : Act) (w : World) (h1' : a.eval (.tmp 52) = .slice A n cap) (h2' : a.eval (.tmp 53) = .int .i64 k) : (execOp a.eval (opN ops16_8 13)).run Try.prog w = .ok (.value (.slice (if cap = k then A else A.map fun x => x.add (k * 3)) (n - k) (cap - k))) w := by
  obtain ⟨o, e⟩ : ∃ o, o = opN ops16_8 13 := ⟨_, rfl⟩
  rw [← e]
  conv at e => rhs; whnf
  subst e
  have h0 : (0 : Int) ≤ (k : Int) := by omega
  have h1 : a.tmps[52]?.getD undef = .slice A n cap := by simpa [Act.eval] using h1'
  have h2 : a.tmps[53]?.getD undef = .int .i64 k := by simpa [Act.eval] using h2'
  clear h1' h2'
  go_simp
/-- A thing put at a place of a list. -/
def putP {α : Type} (xs : List α) (p : Nat) (x : α) : List α := xs.take p ++ [x] ++ xs.drop p
theorem putP_len {α : Type} {xs : List α} {p : Nat} {x : α} : (putP xs p x).length = xs.length + 1 := by unfold putP; simp; omega
theorem putP_mem {α : Type} {xs : List α} {p : Nat} {x y : α} : y ∈ putP xs p x ↔ y ∈ xs ∨ y = x := by
  have h := List.take_append_drop p xs
  have e : y ∈ xs ↔ y ∈ xs.take p ∨ y ∈ xs.drop p := by rw [← List.mem_append, h]
  unfold putP
  rw [List.mem_append, List.mem_append, List.mem_singleton, e]
  constructor
  · rintro ((a | a) | a)
    · exact .inl (.inl a)
    · exact .inr a
    · exact .inl (.inr a)
  · rintro ((a | a) | a)
    · exact .inl (.inl a)
    · exact .inr a
    · exact .inl (.inr a)
theorem ownsRow_base3 {w : World} {base base' : Nat} {e : TypeId} {size : Nat} {v : Value} {n : Nat} {xs : List Value} (h : w.ownsRow base e size v n xs) (hb : base' ≤ base) : w.ownsRow base' e size v n xs := own_base h hb
theorem step_rowB {α : Type} {enc : α → List Value} {k lo p i : Nat} {e : TypeId} {xs : List α} {x : α} {V W : World} {v' : Value} {X : List Value} (he : ∀ x, (enc x).length = k) (hX : X = enc x) (hxl : xs.length = i) (hp : p ≤ i) (hlo : lo ≤ V.heap.size)
    (hL : LiveB V W [some ⟨v', e, k, 0 + p + 1 + (i - p), [] ++ (xs.take p).flatMap enc ++ X ++ (xs.drop p).flatMap enc⟩, none, none, none]) : ∃ A cap, v' = .slice A (i + 1) cap ∧ RowR lo k enc W A cap (putP xs p x) := by
  subst hX
  have ho : W.ownsRow V.heap.size e k v' (0 + p + 1 + (i - p)) ([] ++ (xs.take p).flatMap enc ++ enc x ++ (xs.drop p).flatMap enc) := live_own hL.2 (i := 0) rfl
  have hl : (putP xs p x).length = i + 1 := by rw [putP_len, hxl]
  have ho2 := ownsRow_base3 ho hlo
  obtain ⟨A, cap, h1, h2⟩ := RowR.of_own (xs := putP xs p x) he ho2 (by omega) (by unfold putP; simp [List.flatMap_append]) (by omega)
  exact ⟨A, cap, by rw [h1, hl], h2⟩
end Go.Proofs.Ytojgdallodmanaa
