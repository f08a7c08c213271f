/- The reference's room. The reference's raised, Agrees and all. -/
import Derived.Test.YtojgdallodmanaaZ382934
import Derived.Test.YtojgdallodmanaaYR1
import Derived.Test.YtojgdallodmanaaZ6bd5ae
namespace Go.Proofs.Ytojgdallodmanaa
open Go.RowKit

/-- Weighings as they are met: sets of parts, and spans. -/
structure WghsOk (n : Nat) (l : List Wgh) : Prop where
  l6 : l.length ≤ 6
  each : ∀ x ∈ l, ∃ s : Nat, x.set = (s : Int) ∧ s < 2 ^ n ∧ 0 ≤ x.lo ∧ x.lo ≤ x.hi ∧ x.hi ≤ 1000000
theorem wghsOk {h : Hul} {l : List Wgh} (hp : openPre h l = 0) : WghsOk h.ps.length l :=
  ⟨(openPre_zero hp).2.1, fun x hx => by
    obtain ⟨s, _, _, a3, a4, _, a5, a6, a7⟩ := wghs_ok hp x hx
    exact ⟨s, a4, a3, a5, a6, a7⟩⟩
def WtOk (n : Nat) (w : Nat → Int) : Prop := ∀ i, i < n → 0 ≤ w i ∧ w i ≤ 100000
theorem box_wt {h : Hul} (hps : PsOk h.ps) {w : Nat → Int} (hb : Box h w) : WtOk h.ps.length w := fun i hi => by
  have := box_iff.1 hb i hi
  have := hiOf_le hps i
  omega
theorem lt256 {n s : Nat} (hn : n ≤ 8) (hs : s < 2 ^ n) : s < 256 := Nat.lt_of_lt_of_le hs (Nat.pow_le_pow_right (n := 2) (by decide) hn)
theorem sumS_bd {w : Nat → Int} {n s : Nat} (hn : n ≤ 8) (hs : s < 2 ^ n) (hw : WtOk n w) : 0 ≤ sumS w s ∧ sumS w s ≤ 800000 := by
  rw [← sumTo_sumS hn hs]
  have := sumTo_bd2 (w := w) (P := fun i => s.testBit i) n hw
  omega
theorem sumS_any (A : Option Addr) (w : Nat → Int) (n B cap s : Nat) (W : World) (hn : n ≤ 8) (hs : s < 2 ^ n) (hR : Rd1 iv W B A (rowW w n)) (hb : WtOk n w) :
    Calls Try.prog 78 #[.slice A n cap, .int .i64 s] W fun e W' => e = .returned (iv (sumS w s)) ∧ W' = W := by
  rw [← sumTo_sumS hn hs]
  exact (sum_any A w n B cap s W hn (lt256 hn hs) hR hb).mono fun _ _ h => ⟨h.1, h.2.symm⟩
theorem rowW_on {W W' : World} {B : Nat} {A : Option Addr} {w : Nat → Int} {n : Nat} (h : Rd1 iv W B A (rowW w n)) (hb : Below B W W') : Rd1 iv W' B A (rowW w n) := h.below hb (Nat.le_refl _)

theorem roomTo_bd {h : Hul} {l : List Wgh} (hn : h.ps.length ≤ 8) (hw : WghsOk h.ps.length l) {w : Nat → Int} (hb : WtOk h.ps.length w) (p : Nat) {m : Int} (h0 : -20000000 ≤ m) (h1 : m ≤ 20000000) : ∀ k, -20000000 ≤ roomTo w l p m k ∧ roomTo w l p m k ≤ 20000000 := by
  intro k
  induction k with
  | zero => exact ⟨h0, h1⟩
  | succ k ih =>
    rw [roomTo_succ]
    split
    · rename_i x hx
      split
      · obtain ⟨s, a1, a2, a3, a4, a5⟩ := hw.each x (List.mem_of_getElem? hx)
        have := sumS_bd hn a2 hb
        rw [a1, Int.toNat_natCast, Int.min_def]
        split <;> omega
      · exact ih
    · exact ih

set_option maxRecDepth 100000 in
set_option maxHeartbeats 8000000 in
theorem room_any (h : Hul) (A J : Option Addr) (B cap capJ : Nat) (AL : Option Addr) (l : List Wgh) (capL : Nat) (AW : Option Addr) (wt : Nat → Int) (capW part : Nat) (most : Int) (w : World)
    (hH : HulRd w B h A cap J capJ) (hk : HulOk h) (hL : RdN 3 encWgh w B AL l) (hw : WghsOk h.ps.length l) (hW : Rd1 iv w w.heap.size AW (rowW wt h.ps.length)) (hb : WtOk h.ps.length wt)
    (hp : part < h.ps.length) (hm0 : -10000000 ≤ most) (hm1 : most ≤ 10000000) (hB : B ≤ w.heap.size) :
    Calls Try.prog 126 #[hv h A cap J capJ, .slice AL l.length capL, .slice AW h.ps.length capW, .int .i64 part, .int .i64 most] w fun e w' => e = .returned (iv (roomF h l wt part most)) ∧ Below w.heap.size w w' := by
  obtain ⟨W1, hW1, hb0, hz1, p0, p1, p2, p3, p4⟩ := hulBox w h A cap J capJ
  have hn8 := hk.n8
  have hl6 := hw.l6
  obtain ⟨x, hx⟩ : ∃ x, h.ps[part]? = some x := ⟨_, List.getElem?_eq_getElem hp⟩
  have hxo := hk.ps x (List.mem_of_getElem? hx)
  have hhi : hiOf h part = x.hi := by simp [hiOf, hx]
  obtain ⟨bp, offp, rfl, _, q0, q1, q2⟩ := prtAt (hH.ps.below hb0 hB) hx
  obtain ⟨bw, offw, rfl, _, r0⟩ := rowW_on hW hb0 part (wt part) (rowW_at wt hp)
  have hbp := hb part hp
  have hF : roomF h l wt part most = max 0 (roomTo wt l part (min most (x.hi - wt part)) l.length) := by unfold roomF; rw [hhi]
  obtain ⟨v, hv⟩ : ∃ v, wt part = v := ⟨_, rfl⟩
  rw [hv] at r0 hbp hF
  have HBD := Lib.hid (roomTo_bd hn8 hw hb part (m := min most (x.hi - v)) (by omega) (by omega))
  have HF := Lib.hid hF
  have HL := Lib.hid (hL.below hb0 hB)
  have HW := Lib.hid (rowW_on hW hb0)
  have HWO := Lib.hid hw
  have HB := Lib.hid hb
  have HB0 := Lib.hid hb0
  have hBz : B ≤ W1.heap.size := Nat.le_trans hB hb0.size
  have hzW : w.heap.size ≤ W1.heap.size := hb0.size
  obtain ⟨N, hN⟩ : ∃ N, h.ps.length = N := ⟨_, rfl⟩
  have hpN : part < N := by omega
  obtain ⟨hx0, hx1, hx2⟩ := hxo
  obtain ⟨hv0, hv1⟩ := hbp
  obtain ⟨xn, xlo, xhi⟩ := x
  simp only at q0 q1 q2 hx0 hx1 hx2
  have hd1 : (0 : Int) ≤ (part : Int) := by omega
  rw [hN] at hn8 HW HWO HB p0 hW1 ⊢
  clear hb0 hH hL hw hW hb hhi hx hF hv p1 p2 p3 p4 q0 q1
  go_enter Try.func126, Try.ntmps126
  go_wp2_with fail
  go_quiet (fail)
  go_wp2_with fail
  clear hW1 p0 q2 r0
  go_loopw [11, 12] (fun vx vi wr => ∃ k : Nat, ∃ m : Int, k ≤ l.length ∧ vi = .int .i64 k ∧ vx = .int .i64 m ∧ Hid (roomTo wt l part (min most (xhi - v)) k = m) ∧ Hid (Below W1.heap.size W1 wr)) (fun _ vi _ => l.length - (intOf vi).toNat)
  case atStart => exact ⟨0, _, Nat.zero_le _, rfl, rfl, Lib.hid (by go_num), Lib.hid (belowN (belowR _) _)⟩
  case round =>
    obtain ⟨k, m, hk, rfl, rfl, HM, HBR⟩ := hrel
    have hbd := HBD.out k
    rw [HM.out] at hbd
    obtain ⟨hm2, hm3⟩ := hbd
    by_cases hlt : k < l.length
    · obtain ⟨y, hy⟩ : ∃ y, l[k]? = some y := ⟨_, List.getElem?_eq_getElem hlt⟩
      obtain ⟨s, a1, a2, a3, a4, a5⟩ := HWO.out.each y (List.mem_of_getElem? hy)
      obtain ⟨bl, offl, rfl, _, d0, d1, d2⟩ := wghAt (HL.out.below HBR.out hBz) hy
      have hsm := sumS_bd hn8 a2 HB.out
      have hrow := HW.out.below HBR.out hzW
      have hsc : ∀ n, Calls Try.prog 78 #[.slice (some ⟨bw, offw, none⟩) N capW, .int .i64 s] (wr.drewN n) fun e w' => e = .returned (iv (sumS wt s)) ∧ w' = wr.drewN n := fun n => sumS_any _ wt N _ capW s _ hn8 a2 (hrow.below (belowN (belowR wr) n) (Nat.le_trans hzW HBR.out.size)) HB.out
      have hsu := roomTo_succ wt l part (min most (xhi - v)) k
      rw [hy, HM.out] at hsu
      simp only [a1, Int.toNat_natCast] at hsu
      have hbd2 := HBD.out (k + 1)
      rw [a1] at d0
      obtain ⟨yset, ylo, yhi⟩ := y
      simp only at a3 a4 a5 d0 d1 d2 hsu
      obtain ⟨S, hS⟩ : ∃ S, sumS wt s = S := ⟨_, rfl⟩
      rw [hS] at hsm hsc hsu
      have hs256 := lt256 hn8 a2
      obtain ⟨hs0, hs1⟩ := hsm
      have HSC := Lib.hid hsc
      have hk0 : (0 : Int) ≤ (k : Int) := by omega
      clear hy hsc hrow hS a1 a2
      cases hbit : s.testBit part
      · rw [hbit] at hsu
        have HSU := Lib.hid hsu
        have hh : ∀ W, Calls Try.prog 91 #[.int .i64 s, .int .i64 part] W fun e w' => e = .returned (.bool false) ∧ W = w' := fun W => by rw [← hbit]; exact has2_any s part W hs256 (by omega)
        have HH := Lib.hid hh
        clear hsu hbit hh
        go_wp2_with (go_at_call 91; refine (HH.out _).mono ?_; rintro e w' ⟨rfl, rfl⟩)
        go_roundw
        case rel => exact ⟨k + 1, m, by omega, by go_num, rfl, Lib.hid (by rw [HSU.out]; rfl), HBR⟩
        case measure => simp [intOf]; omega
      · rw [hbit] at hsu
        rw [hsu] at hbd2
        simp only [if_true] at hsu hbd2
        have HSU := Lib.hid hsu
        have hh : ∀ W, Calls Try.prog 91 #[.int .i64 s, .int .i64 part] W fun e w' => e = .returned (.bool true) ∧ W = w' := fun W => by rw [← hbit]; exact has2_any s part W hs256 (by omega)
        have HH := Lib.hid hh
        clear hsu hbit hh
        go_wp2_with (go_at_call 91; refine (HH.out _).mono ?_; rintro e w' ⟨rfl, rfl⟩)
        go_quiet ((go_at_call 78; exact Calls.quiet_of_same (HSC.out _)))
        go_wp2_with fail
        go_roundw
        case rel => exact ⟨k + 1, _, by omega, by go_num, rfl, HSU, Lib.hid (belowN HBR.out _)⟩
        case measure => simp [intOf]; omega
    · go_wp2_with fail
      go_ret
      obtain rfl : k = l.length := by omega
      exact ⟨by rw [HF.out, HM.out, Int.max_def]; split <;> rfl, belowT HB0.out HBR.out⟩
end Go.Proofs.Ytojgdallodmanaa

namespace Go.Proofs.Ytojgdallodmanaa
open Go.RowKit

theorem addr_add (b o j : Nat) : ((⟨b, o, none⟩ : Addr).add j) = ⟨b, o + j, none⟩ := by
  unfold Addr.add
  rcases Nat.eq_zero_or_pos j with rfl | hj
  · rfl
  · rw [if_neg (by omega)]
theorem rd1_news {α : Type} {enc : α → Value} {W : World} {B bd od : Nat} {xs : List α} (h : Rd1 enc W B (some ⟨bd, od, none⟩) xs) : ∀ j u, (xs.map enc)[j]? = some u → W.cell? ((⟨bd, od, none⟩ : Addr).add j) = some u := fun j u hu => by
  rw [List.getElem?_map] at hu
  cases hx : xs[j]? with
  | none => rw [hx] at hu; simp at hu
  | some x =>
    rw [hx] at hu
    simp only [Option.map_some, Option.some.injEq] at hu
    subst hu
    obtain ⟨b', o', ee, _, hc⟩ := h j x hx
    injection ee with ee
    injection ee with ee1 ee2
    subst ee1 ee2
    rw [addr_add]
    exact hc
theorem rowW_upd (w : Nat → Int) (k : Nat) (v : Int) (n : Nat) : rowW (upd w k v) n = (rowW w n).set k v := by
  apply List.ext_getElem?
  intro i
  rw [List.getElem?_set]
  rcases Nat.lt_or_ge i n with hi | hi
  · rw [rowW_at _ hi, rowW_len]
    by_cases hik : k = i
    · subst hik
      rw [if_pos rfl, if_pos hi, upd_self]
    · rw [if_neg hik, upd_ne (fun e => hik e.symm), rowW_at _ hi]
  · have h1 : (rowW (upd w k v) n)[i]? = none := by rw [List.getElem?_eq_none]; rw [rowW_len]; exact hi
    have h2 : (rowW w n)[i]? = none := by rw [List.getElem?_eq_none]; rw [rowW_len]; exact hi
    rw [h1, h2, rowW_len]
    split
    · rw [if_neg (by omega)]
    · rfl
theorem raisedTo_bd (h : Hul) (l : List Wgh) (s : Nat) (w : Nat → Int) {m : Int} (h0 : -5000000 ≤ m) (h1 : m ≤ 5000000) : ∀ k, -5000000 ≤ (raisedTo h l s w m k).2 ∧ (raisedTo h l s w m k).2 ≤ 5000000 := by
  intro k
  induction k with
  | zero => exact ⟨h0, h1⟩
  | succ k ih =>
    rw [raisedTo_succ]
    split
    · simp only
      have a := roomF_ge h l (raisedTo h l s w m k).1 k (raisedTo h l s w m k).2
      rcases Int.lt_or_le 0 (roomF h l (raisedTo h l s w m k).1 k (raisedTo h l s w m k).2) with h3 | h3
      · have := (roomF_le h3).1; omega
      · omega
    · exact ih

/-- What raised, filled and Most answer: a row of their own. -/
def RowPost (wt : Nat → Int) (n : Nat) (w : World) (e : Ending) (w' : World) : Prop :=
  Below w.heap.size w w' ∧ ∃ g cap, e = .returned (.slice (some ⟨g, 0, none⟩) n cap) ∧ w'.ownsRow w.heap.size 3 1 (.slice (some ⟨g, 0, none⟩) n cap) n ((rowW wt n).map iv)
theorem row_rd {wt : Nat → Int} {n g cap base : Nat} {w : World} (h : w.ownsRow base 3 1 (.slice (some ⟨g, 0, none⟩) n cap) n ((rowW wt n).map iv)) : Rd1 iv w w.heap.size (some ⟨g, 0, none⟩) (rowW wt n) := by
  have hl := rowW_len wt n
  have h' : w.ownsRow base 3 1 (.slice (some ⟨g, 0, none⟩) n cap) (rowW wt n).length ((rowW wt n).map iv) := by rw [hl]; exact h
  obtain ⟨A, cap', hv, hR, _⟩ := own_rd1 h'
  injection hv with h1
  rw [h1]
  exact hR

set_option maxRecDepth 100000 in
set_option maxHeartbeats 8000000 in
theorem raised_any (h : Hul) (A J : Option Addr) (B cap capJ : Nat) (AL : Option Addr) (l : List Wgh) (capL : Nat) (AW : Option Addr) (wt : Nat → Int) (capW s : Nat) (most : Int) (w : World)
    (hH : HulRd w B h A cap J capJ) (hk : HulOk h) (hL : RdN 3 encWgh w B AL l) (hw : WghsOk h.ps.length l) (hW : Rd1 iv w w.heap.size AW (rowW wt h.ps.length)) (hb : Box h wt)
    (hs : s < 256) (hm0 : -5000000 ≤ most) (hm1 : most ≤ 5000000) (hB : B ≤ w.heap.size) :
    Calls Try.prog 108 #[hv h A cap J capJ, .slice AL l.length capL, .slice AW h.ps.length capW, .int .i64 s, .int .i64 most] w (RowPost (raised h l wt s most) h.ps.length w) := by
  obtain ⟨i3, hi3, hz30, hz31, hz32⟩ := info_parts Try.info3
  obtain ⟨W1, hW1, hb0, hz1, p0, p1, p2, p3, p4⟩ := hulBox w h A cap J capJ
  have hn8 := hk.n8
  have hn1 := hk.n1
  obtain ⟨bd, od, rfl, hbd, _⟩ := hW 0 (wt 0) (rowW_at wt hn1)
  have HKP : Hid (∀ W, Below W1.heap.size W1 W → W.cell? ⟨w.heap.size, 0, none⟩ = some (.slice A h.ps.length cap) ∧ W.cell? ⟨w.heap.size, 1, none⟩ = some (.slice J h.js.length capJ) ∧ W.cell? ⟨w.heap.size, 2, none⟩ = some (.int .i64 h.slo) ∧ W.cell? ⟨w.heap.size, 3, none⟩ = some (.int .i64 h.shi) ∧ W.cell? ⟨w.heap.size, 4, none⟩ = some (.int .i64 h.winch)) := Lib.hid fun W hb => ⟨keepC hb p0, keepC hb p1, keepC hb p2, keepC hb p3, keepC hb p4⟩
  have hlit : (W1.alloc (.cells #[] 3)).ownsRow W1.heap.size 3 1 (.slice (some ⟨W1.heap.size, 0, none⟩) 0 0) 0 [] := World.ownsRow_lit W1 #[] 0 (Nat.le_refl _) (Nat.zero_le _) rfl
  have hrow1 := rowW_on hW hb0
  have hnews := rd1_news (hrow1.below (belowA (belowR W1) (.cells #[] 3)) hb0.size)
  have hdlen : ((rowW wt h.ps.length).map iv).length = h.ps.length * 1 := by rw [List.length_map, rowW_len, Nat.mul_one]
  have honec : ∀ u ∈ (rowW wt h.ps.length).map iv, u.oneCell' = true := fun u hu => by
    obtain ⟨x, _, rfl⟩ := List.mem_map.1 hu
    rfl
  have HLIT := Lib.hid hlit
  have HNEWS := Lib.hid hnews
  have HDLEN := Lib.hid hdlen
  have HONE := Lib.hid honec
  have HH := Lib.hid (hH.below hb0 hB)
  have HL := Lib.hid (hL.below hb0 hB)
  have HWO := Lib.hid hw
  have HK := Lib.hid hk
  have HBX := Lib.hid hb
  have HB0 := Lib.hid hb0
  have HBD := Lib.hid (raisedTo_bd h l s wt hm0 hm1)
  have hBz : B ≤ W1.heap.size := Nat.le_trans hB hb0.size
  have hzW : w.heap.size ≤ W1.heap.size := hb0.size
  have hd0 : decide (0 < h.ps.length) = true := decide_eq_true hn1
  have HFIN : Hid (∀ e w', RowPost (raisedTo h l s wt most h.ps.length).1 h.ps.length w e w' → RowPost (raised h l wt s most) h.ps.length w e w') := Lib.hid fun _ _ h => h
  obtain ⟨POST, hPOST⟩ : ∃ P, RowPost (raised h l wt s most) h.ps.length w = P := ⟨_, rfl⟩
  rw [hPOST] at HFIN ⊢
  have HFB := Lib.hid hPOST
  have HZ1 : Hid (w.heap.size < W1.heap.size) := Lib.hid (by omega)
  clear hz1 hb0 hH hL hw hW hb hlit hnews hdlen honec hrow1 hk p0 p1 p2 p3 p4 hPOST
  go_enter Try.func108, Try.ntmps108
  go_wp2_with (at_builtin; refine wpList_append_own _ rfl _ _ 40 rfl W1.heap.size 3 i3 (.int .i64 0) 1 8 Try.underlying40 hi3 hz30 hz31 hz32 rfl (by decide) _ _ _ rfl HLIT.out ⟨bd, od, none⟩ h.ps.length capW ((rowW wt h.ps.length).map iv) rfl HDLEN.out ?c1 ?c2 ?c3 ?c4 ?c5 ?_)
  case c1 => exact HNEWS.out
  case c2 => exact HONE.out
  case c3 => unfold maxLen; omega
  case c4 => omega
  case c5 => simp
  intro v' w2 hown2 hgrow _
  have hB2 : Below W1.heap.size W1 w2 := grownB HLIT.out hgrow (Nat.le_refl _) (belowA (belowR _) _)
  obtain ⟨g, cap2, rfl, hgb, hgl, _⟩ := own_form hown2 hn1
  have HO2 := Lib.hid hown2
  have HB2 := Lib.hid hB2
  clear hown2 hgrow hB2 hW1 HLIT HNEWS HDLEN HONE
  go_wp2_with fail
  have hzz : W1.heap.size ≤ w2.heap.size := HB2.out.size
  have hz3 : w.heap.size < W1.heap.size := HZ1.out
  clear hd0
  go_loopw [4, 12] (fun vm vi wr => ∃ (k : Nat) (m : Int), k ≤ h.ps.length ∧ vi = .int .i64 k ∧ vm = .int .i64 m ∧ Hid ((raisedTo h l s wt most k).2 = m) ∧ Hid (wr.ownsRow W1.heap.size 3 1 (.slice (some ⟨g, 0, none⟩) h.ps.length cap2) h.ps.length ((rowW (raisedTo h l s wt most k).1 h.ps.length).map iv)) ∧ Hid (Below W1.heap.size W1 wr)) (fun _ vi _ => h.ps.length - (intOf vi).toNat)
  case atStart => exact ⟨0, most, Nat.zero_le _, rfl, rfl, Lib.hid rfl, HO2, HB2⟩
  case round =>
    obtain ⟨k, m, hk, rfl, rfl, HM, HO, HBR⟩ := hrel
    by_cases hlt : k < h.ps.length
    · have hsu := raisedTo_succ h l s wt most k
      have hbd := HBD.out k
      have hbx := raisedTo_box l s most HBX.out k (by omega)
      have hbx2 := raisedTo_box l s most HBX.out (k + 1) (by omega)
      rw [HM.out] at hsu hbd
      obtain ⟨v, hv⟩ : ∃ v, (raisedTo h l s wt most k).1 = v := ⟨_, rfl⟩
      rw [hv] at hsu hbx HO
      have hk0 : (0 : Int) ≤ (k : Int) := by omega
      have hkn : (k : Int) < (h.ps.length : Int) := by omega
      obtain ⟨hbd0, hbd1⟩ := hbd
      cases hbit : s.testBit k
      · rw [hbit] at hsu
        simp only [Bool.false_eq_true, if_false] at hsu
        have HSU := Lib.hid hsu
        have HV := Lib.hid hv
        clear hsu hbx hbx2 hv
        go_wp2_with (go_at_call 91; refine (has2_any _ _ _ hs (by omega)).mono ?_; rintro e w' ⟨rfl, rfl⟩)
        go_roundw
        case rel => exact ⟨k + 1, m, by omega, by go_num, rfl, Lib.hid (by rw [HSU.out]; exact HM.out), Lib.hid (by rw [HSU.out, HV.out]; exact HO.out), HBR⟩
        case measure => simp [intOf]; omega
      · rw [hbit] at hsu
        simp only [if_true] at hsu
        have hzr := HBR.out.size
        have hrm := room_any h A J B cap capJ AL l capL (some ⟨g, 0, none⟩) v cap2 k m wr (HH.out.below HBR.out hBz) HK.out (HL.out.below HBR.out hBz) HWO.out (row_rd HO.out) (box_wt HK.out.ps hbx) hlt (by omega) (by omega) (Nat.le_trans hBz hzr)
        have hrg := roomF_ge h l v k m
        have hwk := box_wt HK.out.ps hbx k hlt
        have hwk2 := box_wt HK.out.ps hbx2 k hlt
        rw [hsu] at hwk2
        simp only [upd_self] at hwk2
        have hbd2 := HBD.out (k + 1)
        rw [hsu] at hbd2
        simp only at hbd2
        obtain ⟨r, hr⟩ : ∃ r, roomF h l v k m = r := ⟨_, rfl⟩
        rw [hr] at hsu hrm hrg hwk2 hbd2
        obtain ⟨x, hx⟩ : ∃ x, v k = x := ⟨_, rfl⟩
        rw [hx] at hwk hwk2 hsu
        obtain ⟨hwk0, hwk1⟩ := hwk
        obtain ⟨hwk2, hwk3⟩ := hwk2
        obtain ⟨hbd2, hbd3⟩ := hbd2
        have HSU := Lib.hid hsu
        have HRM := Lib.hid hrm
        have HV := Lib.hid hv
        have HX := Lib.hid hx
        obtain ⟨p0, p1, p2, p3, p4⟩ := HKP.out _ HBR.out
        clear hsu hbx hbx2 hv hrm hr hx
        go_wp2_with (go_at_call 91; refine (has2_any _ _ _ hs (by omega)).mono ?_; rintro e w' ⟨rfl, rfl⟩)
        refine HRM.out.mono ?_
        rintro e w3 ⟨rfl, hb3⟩
        have hown3 := own_below HO.out hb3
        obtain ⟨b9, o9, he9, _, hc3⟩ := row_rd hown3 k (v k) (rowW_at v hlt)
        injection he9 with he9
        injection he9 with he91 he92
        subst he91 he92
        rw [HX.out] at hc3
        have f3 := hown3.frozenAt k
        have HB3 := Lib.hid (belowT HBR.out hb3)
        have HO3 := Lib.hid hown3
        have hst : ∀ W : World, W.ownsRow W1.heap.size 3 1 (.slice (some ⟨g, 0, none⟩) h.ps.length cap2) h.ps.length ((rowW v h.ps.length).map iv) → (W.setCell ⟨g, k, none⟩ (iv (x + r))).ownsRow W1.heap.size 3 1 (.slice (some ⟨g, 0, none⟩) h.ps.length cap2) h.ps.length ((rowW (upd v k (x + r)) h.ps.length).map iv) := fun W hW => by
          have := (hW.stored k (iv (x + r))).1
          rw [rowW_upd, List.map_set]
          exact this
        have HST := Lib.hid hst
        clear hst hb3 hown3 p0 p1 p2 p3 p4
        rw [Nat.zero_add] at hc3
        go_wp2_with fail
        go_roundw
        case rel => exact ⟨k + 1, m - r, by omega, by go_num, by go_num, Lib.hid (by rw [HSU.out]), Lib.hid (by rw [HSU.out]; exact HST.out _ HO3.out), Lib.hid (belowS HB3.out hgb _)⟩
        case measure => simp [intOf]; omega
    · go_wp2_with fail
      obtain rfl : k = h.ps.length := by omega
      exact HFIN.out _ _ ⟨belowT HB0.out HBR.out, g, cap2, rfl, own_base HO.out hzW⟩
end Go.Proofs.Ytojgdallodmanaa
