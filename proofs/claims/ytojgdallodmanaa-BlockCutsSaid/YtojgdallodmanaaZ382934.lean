/- What a set of parts weighs at most and at least, in all truths. block.enter, block.Pull. block.Pull. block.Weights. Copies of numbers and of parts (printed by mkClone.py out of B14). -/
import Derived.Deep.RegionHeld3
import Derived.Deep.AppendLies
import Derived.Shelf.SlicesE.Clone
import Derived.Test.YtojgdallodmanaaZ0f1ffd
import Derived.Test.YtojgdallodmanaaZ82b5b8
import Derived.Test.YtojgdallodmanaaYC2
namespace Go.Proofs.Ytojgdallodmanaa
open Go.RowKit

def Feas (h : Hul) (l : List Wgh) : Prop := ∃ w, TruthP h l w
def IsMost (h : Hul) (l : List Wgh) (s : Nat) (v : Int) : Prop := (∀ w, TruthP h l w → sumS w s ≤ v) ∧ ∃ w, TruthP h l w ∧ sumS w s = v
def IsLeast (h : Hul) (l : List Wgh) (s : Nat) (v : Int) : Prop := (∀ w, TruthP h l w → v ≤ sumS w s) ∧ ∃ w, TruthP h l w ∧ sumS w s = v
theorem IsMost.uniq {h : Hul} {l : List Wgh} {s : Nat} {v v' : Int} (a : IsMost h l s v) (b : IsMost h l s v') : v = v' := by
  obtain ⟨a1, w, a2, a3⟩ := a
  obtain ⟨b1, w', b2, b3⟩ := b
  have := a1 w' b2
  have := b1 w a2
  omega
theorem IsLeast.uniq {h : Hul} {l : List Wgh} {s : Nat} {v v' : Int} (a : IsLeast h l s v) (b : IsLeast h l s v') : v = v' := by
  obtain ⟨a1, w, a2, a3⟩ := a
  obtain ⟨b1, w', b2, b3⟩ := b
  have := a1 w' b2
  have := b1 w a2
  omega
section
variable {h : Hul} {l : List Wgh} {N : List Nd}
theorem feas_iff (hp : openPre h l = 0) (hN : IsTree h l N) (set : Nat) : (wgh h.ps N set).2 = true ↔ Feas h l := by
  have hg := wgh_truth hp hN set
  constructor
  · intro hr
    have := hg.1 hr
    obtain ⟨w, hw, _⟩ := this.is (wgh h.ps N set).1.alo (Int.le_refl _) this.a
    exact ⟨w, hw⟩
  · rintro ⟨w, hw⟩
    cases hr : (wgh h.ps N set).2 with
    | true => rfl
    | false => exact absurd hw (hg.2 hr w)
theorem inP {s n p : Nat} (hs : s < 2 ^ n) : (decide (p < n) && s.testBit p) = s.testBit p := by
  rcases Nat.lt_or_ge p n with h1 | h1
  · simp [h1]
  · rw [Nat.testBit_lt_two_pow (Nat.lt_of_lt_of_le hs (Nat.pow_le_pow_right (by decide) h1))]; simp
theorem mostV_is (hp : openPre h l = 0) (hN : IsTree h l N) (hf : Feas h l) {s : Nat} (hs : s < 2 ^ h.ps.length) : IsMost h l s (mostV h N s) := by
  have hg := (wgh_truth hp hN s).1 ((feas_iff hp hN s).2 hf)
  have e : ∀ w, sumP w (fun i => decide (i < h.ps.length) && s.testBit i) = sumS w s := fun w => sumP_congr (fun i _ => inP hs) (fun _ _ _ => rfl)
  refine ⟨fun w hw => ?_, ?_⟩
  · have := hg.up w hw
    rw [e] at this
    exact this.2.2.1
  · obtain ⟨w, hw, _, h3⟩ := hg.is (wgh h.ps N s).1.ahi hg.a (Int.le_refl _)
    rw [e] at h3
    refine ⟨w, hw, ?_⟩
    rw [h3]
    have := hg.d
    unfold mostV
    omega
theorem leastV_is (hp : openPre h l = 0) (hN : IsTree h l N) (hf : Feas h l) {s : Nat} (hs : s < 2 ^ h.ps.length) : IsLeast h l s (leastV h N s) := by
  obtain ⟨c, hc⟩ : ∃ c, 2 ^ h.ps.length - 1 - s = c := ⟨_, rfl⟩
  have hg := (wgh_truth hp hN c).1 ((feas_iff hp hN c).2 hf)
  have hb : ∀ i, c.testBit i = (decide (i < h.ps.length) && !s.testBit i) := fun i => by
    rw [← hc, show 2 ^ h.ps.length - 1 - s = 2 ^ h.ps.length - (s + 1) from by omega]
    exact Nat.testBit_two_pow_sub_succ hs i
  have e : ∀ w, sumP w (fun i => decide (i < h.ps.length)) = sumS w s + sumP w (fun i => decide (i < h.ps.length) && c.testBit i) := fun w => by
    unfold sumS
    rw [← sumP_union (fun i _ hx => by
      rw [hb i] at hx
      obtain ⟨a, b⟩ := hx
      rw [a] at b
      simp at b)]
    exact sumP_congr (fun i _ => by
      rw [hb i]
      have := @inP s h.ps.length i hs
      cases h1 : decide (i < h.ps.length) <;> cases h2 : s.testBit i <;> simp_all) (fun _ _ _ => rfl)
  have hlv : leastV h N s = (wgh h.ps N c).1.alo - (wgh h.ps N c).1.slo := by unfold leastV; rw [hc]
  rw [hlv]
  refine ⟨fun w hw => ?_, ?_⟩
  · have := hg.up w hw
    have := e w
    omega
  · obtain ⟨w, hw, h2, h3⟩ := hg.is (wgh h.ps N c).1.alo (Int.le_refl _) hg.a
    refine ⟨w, hw, ?_⟩
    have := e w
    have := hg.s
    omega
theorem mostV_bd (hp : openPre h l = 0) (hN : IsTree h l N) (hf : Feas h l) {s : Nat} (hs : s < 2 ^ h.ps.length) : 0 ≤ mostV h N s ∧ mostV h N s ≤ 800000 := by
  obtain ⟨_, w, hw, e⟩ := mostV_is hp hN hf hs
  have hk := hulOk (openPre_zero hp).1
  have := truth_bd hk hw hs
  have := hk.n8
  omega
theorem leastV_bd (hp : openPre h l = 0) (hN : IsTree h l N) (hf : Feas h l) {s : Nat} (hs : s < 2 ^ h.ps.length) : 0 ≤ leastV h N s ∧ leastV h N s ≤ 800000 := by
  obtain ⟨_, w, hw, e⟩ := leastV_is hp hN hf hs
  have hk := hulOk (openPre_zero hp).1
  have := truth_bd hk hw hs
  have := hk.n8
  omega
end

open Classical in
/-- The error of a hull and weighings. -/
noncomputable def openE (h : Hul) (l : List Wgh) : Int := if openPre h l = 0 then (if Feas h l then 0 else 9) else openPre h l
/-- A deck as open gives it, in a world behind w. -/
structure DeckHere (w w' : World) (h : Hul) (A : Option Addr) (cap : Nat) (J : Option Addr) (capJ : Nat) (N : List Nd) (g : Nat) (bs : List Nat) (br km BD : Nat) : Prop where
  g0 : w.heap.size ≤ g
  k0 : w.heap.size ≤ km
  st : DeckSt w' BD g h A cap J capJ N bs br km
  kn : KnownAt w' km (mostV h N)
  fz : ∀ o, w'.frozen? ⟨g, o, none⟩ = false
theorem DeckHere.only {w w1 w2 : World} {h : Hul} {A : Option Addr} {cap : Nat} {J : Option Addr} {capJ : Nat} {N : List Nd} {g : Nat} {bs : List Nat} {br km BD : Nat} (H : DeckHere w w1 h A cap J capJ N g bs br km BD) (ho : OnlyAt w1 w2 km) (hk : KnownAt w2 km (mostV h N)) : DeckHere w w2 h A cap J capJ N g bs br km BD :=
  ⟨H.g0, H.k0, H.st.only ho (.inl rfl), hk, fun o => (ho.frozen o (Nat.lt_of_lt_of_le H.st.gB H.st.hB) H.st.gk).trans (H.fz o)⟩
theorem DeckHere.below {w w1 w2 : World} {h : Hul} {A : Option Addr} {cap : Nat} {J : Option Addr} {capJ : Nat} {N : List Nd} {g : Nat} {bs : List Nat} {br km BD : Nat} (H : DeckHere w w1 h A cap J capJ N g bs br km BD) (hb : Below w1.heap.size w1 w2) : DeckHere w w2 h A cap J capJ N g bs br km BD :=
  H.only (OnlyAt.of_below hb km) (H.kn.below hb)
theorem openPost_cases {h : Hul} {A : Option Addr} {cap : Nat} {J : Option Addr} {capJ : Nat} {l : List Wgh} {w w' : World} {e : Ending} (H : OpenPost h A cap J capJ l w e w') :
    Below w.heap.size w w' ∧ ((openE h l ≠ 0 ∧ e = .returned (.tuple #[.pointer none, iv (openE h l)])) ∨ (openE h l = 0 ∧ openPre h l = 0 ∧ Feas h l ∧ ∃ N g bs br km BD, IsTree h l N ∧ e = .returned (.tuple #[ptr g, iv 0]) ∧ DeckHere w w' h A cap J capJ N g bs br km BD)) := by
  obtain ⟨hb, H⟩ := H
  refine ⟨hb, ?_⟩
  rcases H with ⟨h1, h2⟩ | ⟨h1, N, hN, H⟩
  · have e : openE h l = openPre h l := by unfold openE; rw [if_neg h1]
    exact .inl ⟨by rw [e]; exact h1, by rw [e]; exact h2⟩
  · rcases H with ⟨h2, h3⟩ | ⟨h2, g, bs, br, km, BD, h3, h4, h5, h6, h7, h8⟩
    · have hf : ¬ Feas h l := fun hf => by rw [(feas_iff h1 hN 0).2 hf] at h2; cases h2
      have e : openE h l = 9 := by unfold openE; rw [if_pos h1, if_neg hf]
      exact .inl ⟨by rw [e]; decide, by rw [e]; exact h3⟩
    · have hf := (feas_iff h1 hN 0).1 h2
      have e : openE h l = 0 := by unfold openE; rw [if_pos h1, if_pos hf]
      exact .inr ⟨e, h1, hf, N, g, bs, br, km, BD, hN, h3, h4, h5, h6, h7, h8⟩
end Go.Proofs.Ytojgdallodmanaa

namespace Go.Proofs.Ytojgdallodmanaa
open Go.RowKit

/-- A hull in a block of its own. -/
theorem hulBox (w : World) (h : Hul) (A : Option Addr) (cap : Nat) (J : Option Addr) (capJ : Nat) : ∃ W1, w.alloc (.cells #[.slice A h.ps.length cap, .slice J h.js.length capJ, .int .i64 h.slo, .int .i64 h.shi, .int .i64 h.winch] 27) = W1 ∧ Below w.heap.size w W1 ∧ W1.heap.size = w.heap.size + 1 ∧
    W1.cell? ⟨w.heap.size, 0, none⟩ = some (.slice A h.ps.length cap) ∧ W1.cell? ⟨w.heap.size, 1, none⟩ = some (.slice J h.js.length capJ) ∧ W1.cell? ⟨w.heap.size, 2, none⟩ = some (.int .i64 h.slo) ∧ W1.cell? ⟨w.heap.size, 3, none⟩ = some (.int .i64 h.shi) ∧ W1.cell? ⟨w.heap.size, 4, none⟩ = some (.int .i64 h.winch) :=
  ⟨_, rfl, belowA (belowR _) _, by simp, by go_simp, by go_simp, by go_simp, by go_simp, by go_simp⟩

/-- The error of a hull, weighings and a block. -/
noncomputable def enterE (h : Hul) (l : List Wgh) (set : Int) : Int := if openE h l = 0 then blockE h.ps.length h.js set else openE h l
def EnterPost (h : Hul) (A : Option Addr) (cap : Nat) (J : Option Addr) (capJ : Nat) (l : List Wgh) (set : Int) (w : World) (e : Ending) (w' : World) : Prop :=
  Below w.heap.size w w' ∧ ((enterE h l set ≠ 0 ∧ ∃ d, e = .returned (.tuple #[.pointer d, iv (enterE h l set)])) ∨ (enterE h l set = 0 ∧ openPre h l = 0 ∧ Feas h l ∧ blockE h.ps.length h.js set = 0 ∧ ∃ N g bs br km BD, IsTree h l N ∧ e = .returned (.tuple #[ptr g, iv 0]) ∧ DeckHere w w' h A cap J capJ N g bs br km BD))

set_option maxRecDepth 100000 in
set_option maxHeartbeats 8000000 in
theorem enter_any (h : Hul) (A J : Option Addr) (B cap capJ : Nat) (AL : Option Addr) (l : List Wgh) (capL : Nat) (set : Int) (w : World) (hH : HulRd w B h A cap J capJ) (hL : RdN 3 encWgh w B AL l) (hlc : l.length ≤ capL) (hB : B ≤ w.heap.size) :
    Calls Try.prog 68 #[hv h A cap J capJ, .slice AL l.length capL, iv set] w (EnterPost h A cap J capJ l set w) := by
  obtain ⟨W1, hW1, hb0, hz1, p0, p1, p2, p3, p4⟩ := hulBox w h A cap J capJ
  have hop := open_any h A J B cap capJ AL l capL W1 (hH.below hb0 hB) (hL.below hb0 hB) hlc (Nat.le_trans hB hb0.size)
  have HOP := Lib.hid hop
  have HB0 := Lib.hid hb0
  have hz1 : w.heap.size ≤ W1.heap.size := hb0.size
  clear hop hb0 hH hL
  go_enter Try.func68, Try.ntmps68
  go_wp2_with fail
  refine HOP.out.mono ?_
  intro e w1 hpost
  obtain ⟨hb1, hpost⟩ := openPost_cases hpost
  have HB1 := Lib.hid (belowT HB0.out hb1)
  have hz2 := hb1.size
  clear hb1 HOP hW1 HB0
  rcases hpost with ⟨hne, rfl⟩ | ⟨h0, hp, hf, N, g, bs, br, km, BD, hN, rfl, HD⟩
  · have hee : enterE h l set = openE h l := by unfold enterE; rw [if_neg hne]
    have HE := Lib.hid hee
    obtain ⟨E, hE⟩ : ∃ E, openE h l = E := ⟨_, rfl⟩
    rw [hE] at HE hne ⊢
    have hcb : (E == 0) = false := by simpa using hne
    clear hee hE
    go_wp2_with fail
    go_ret2
    exact ⟨HB1.out, .inl ⟨by rw [HE.out]; exact hne, none, by rw [HE.out]; rfl⟩⟩
  · have hk := hulOk (openPre_zero hp).1
    have hee : enterE h l set = blockE h.ps.length h.js set := by unfold enterE; rw [if_pos h0]
    have hbl := block_any g h.ps.length set A J h.js cap capJ BD w1 hk.n1 hk.n8 hk.js hk.j12 HD.st.c0 HD.st.c1 HD.st.rj HD.st.hB
    obtain ⟨E, hE⟩ : ∃ E, blockE h.ps.length h.js set = E := ⟨_, rfl⟩
    rw [hE] at hbl hee
    have HE := Lib.hid hee
    have HEB := Lib.hid hE
    have HBL := Lib.hid hbl
    have HDD := Lib.hid HD
    clear hee hE hbl HD
    go_wp2_with fail
    refine HBL.out.mono ?_
    rintro e w2 ⟨rfl, hb2⟩
    have HB2 := Lib.hid hb2
    clear hb2 HBL
    go_wp2_with fail
    go_ret2
    by_cases hE0 : E = 0
    · subst hE0
      have hd := HDD.out.below HB2.out
      exact ⟨belowT HB1.out HB2.out, .inr ⟨HE.out, hp, hf, HEB.out, N, g, bs, br, km, BD, hN, rfl, ⟨Nat.le_trans hz1 hd.g0, Nat.le_trans hz1 hd.k0, hd.st, hd.kn, hd.fz⟩⟩⟩
    · exact ⟨belowT HB1.out HB2.out, .inl ⟨by rw [HE.out]; exact hE0, some ⟨g, 0, none⟩, by rw [HE.out]; rfl⟩⟩
end Go.Proofs.Ytojgdallodmanaa

namespace Go.Proofs.Ytojgdallodmanaa
open Go.RowKit

def upD (n b : Int) : Int := (n + b - 1).tdiv b
def pullV (h : Hul) (lo hi : Int) : Int × Int := ((lo * h.slo).tdiv 1000, upD (hi * h.shi) 1000)
def PullPost (h : Hul) (l : List Wgh) (set : Int) (w : World) (e : Ending) (w' : World) : Prop :=
  Below w.heap.size w w' ∧ ((enterE h l set ≠ 0 ∧ e = .returned (.tuple #[.agg #[iv 0, iv 0], iv (enterE h l set)])) ∨ (enterE h l set = 0 ∧ openPre h l = 0 ∧ Feas h l ∧ blockE h.ps.length h.js set = 0 ∧ ∃ N, IsTree h l N ∧ e = .returned (.tuple #[.agg #[iv (pullV h (leastV h N set.toNat) (mostV h N set.toNat)).1, iv (pullV h (leastV h N set.toNat) (mostV h N set.toNat)).2], iv 0])))

set_option maxRecDepth 100000 in
set_option maxHeartbeats 8000000 in
theorem pull_any (h : Hul) (A J : Option Addr) (B cap capJ : Nat) (AL : Option Addr) (l : List Wgh) (capL : Nat) (set : Int) (w : World) (hH : HulRd w B h A cap J capJ) (hL : RdN 3 encWgh w B AL l) (hlc : l.length ≤ capL) (hB : B ≤ w.heap.size) :
    Calls Try.prog 22 #[hv h A cap J capJ, .slice AL l.length capL, iv set] w (PullPost h l set w) := by
  obtain ⟨W1, hW1, hb0, hz1, p0, p1, p2, p3, p4⟩ := hulBox w h A cap J capJ
  obtain ⟨W2, hW2⟩ : ∃ W2, W1.alloc (.cells #[.int .i64 0, .int .i64 0] 25) = W2 := ⟨_, rfl⟩
  have hb1 : Below w.heap.size w W2 := by rw [← hW2]; exact belowA hb0 _
  have hz2 : W2.heap.size = w.heap.size + 2 := by rw [← hW2]; simp [hz1]
  have hb12 : Below W1.heap.size W1 W2 := by rw [← hW2]; exact belowA (belowR _) _
  have p0 := keepC hb12 p0
  have p1 := keepC hb12 p1
  have p2 := keepC hb12 p2
  have p3 := keepC hb12 p3
  have p4 := keepC hb12 p4
  have q0 : W2.cell? ⟨W1.heap.size, 0, none⟩ = some (.int .i64 0) := by rw [← hW2]; clear hW2 hz1 hz2; go_simp
  have q1 : W2.cell? ⟨W1.heap.size, 1, none⟩ = some (.int .i64 0) := by rw [← hW2]; clear hW2 hz1 hz2; go_simp
  have qf : ∀ o, W2.frozen? ⟨W1.heap.size, o, none⟩ = false := by rw [← hW2]; clear hW2 hz1 hz2; intro o; go_simp
  have hen := enter_any h A J B cap capJ AL l capL set W2 (hH.below hb1 hB) (hL.below hb1 hB) hlc (Nat.le_trans hB hb1.size)
  have HEN := Lib.hid hen
  have HB1 := Lib.hid hb1
  have hz3 : W1.heap.size < W2.heap.size := by omega
  have hz4 : w.heap.size ≤ W1.heap.size := by omega
  have QF := Lib.hid qf
  clear hen hb1 hb0 hb12 hH hL hz2 hz1
  go_enter Try.func22, Try.ntmps22
  go_wp2_with fail
  refine HEN.out.mono ?_
  rintro e w1 ⟨hb2, hpost⟩
  have q0 := keepC hb2 q0
  have q1 := keepC hb2 q1
  have f0 : w1.frozen? ⟨W1.heap.size, 0, none⟩ = false := (hb2.frozen (p := ⟨W1.heap.size, 0, none⟩) hz3).trans (QF.out 0)
  have f1 : w1.frozen? ⟨W1.heap.size, 1, none⟩ = false := (hb2.frozen (p := ⟨W1.heap.size, 1, none⟩) hz3).trans (QF.out 1)
  have HB2 := Lib.hid (belowT HB1.out hb2)
  have hz5 := hb2.size
  clear hb2 HEN hW1 hW2 HB1 QF p0 p1 p2 p3 p4
  rcases hpost with ⟨hne, d, rfl⟩ | ⟨h0, hp, hf, hbl, N, g, bs, br, km, BD, hN, rfl, HD⟩
  · obtain ⟨E, hE⟩ : ∃ E, enterE h l set = E := ⟨_, rfl⟩
    have HE := Lib.hid hE
    rw [hE] at hne ⊢
    have hcb : (E == 0) = false := by simpa using hne
    clear hE
    go_wp2_with fail
    obtain ⟨wx, hwx⟩ : ∃ wx, (w1.setCell ⟨W1.heap.size, 0, none⟩ (.int .i64 0)).setCell ⟨W1.heap.size, 1, none⟩ (.int .i64 0) = wx := ⟨_, rfl⟩
    have y0 : wx.cell? ⟨W1.heap.size, 0, none⟩ = some (.int .i64 0) := by rw [← hwx]; clear hwx; go_simp
    have y1 : wx.cell? ⟨W1.heap.size, 1, none⟩ = some (.int .i64 0) := by rw [← hwx]; clear hwx; go_simp
    have hbx : Below w.heap.size w wx := by rw [← hwx]; exact belowS (belowS HB2.out hz4 _) hz4 _
    rw [hwx]
    refine bodyPost_ret (v := .tuple #[.agg #[iv 0, iv 0], iv E]) (by simp [results, Try.results22, go_sem, y0, y1]) rfl ?_
    exact ⟨hbx, .inl ⟨by rw [HE.out]; exact hne, by rw [HE.out]⟩⟩
  · have hk := hulOk (openPre_zero hp).1
    obtain ⟨s, hs, _, hs2, rfl, _⟩ := blockE_zero hk.n8 hbl
    have hT := treeOk_isTree hp hN
    have hD0 : DeckSt w1.drew BD g h A cap J capJ N bs br km := HD.st.only (OnlyAt.refl w1 km).drew (.inl rfl)
    have hle := least_any hD0 hT s hs2
    have hkn0 : KnownAt w1.drew km (mostV h N) := HD.kn.drew
    have hmo := fun (W : World) (hb : Below w1.drew.heap.size w1.drew W) => most_any (hD0.below hb) hT (hkn0.below hb) s hs
    have bl := leastV_bd hp hN hf hs2
    have bm := mostV_bd hp hN hf hs2
    have HC : Hid (∀ W, OnlyAt w1 W km → W.cell? ⟨g, 2, none⟩ = some (.int .i64 h.slo) ∧ W.cell? ⟨g, 3, none⟩ = some (.int .i64 h.shi)) := Lib.hid fun W ho => ⟨(HD.st.only ho (.inl rfl)).c2, (HD.st.only ho (.inl rfl)).c3⟩
    have hk1 : km ≠ W1.heap.size := by have := HD.k0; omega
    have HQ : Hid (∀ W, OnlyAt w1 W km → W.cell? ⟨W1.heap.size, 0, none⟩ = some (.int .i64 0) ∧ W.cell? ⟨W1.heap.size, 1, none⟩ = some (.int .i64 0) ∧ W.frozen? ⟨W1.heap.size, 0, none⟩ = false ∧ W.frozen? ⟨W1.heap.size, 1, none⟩ = false) := Lib.hid fun W ho => ⟨ho.cell q0 (fun e => hk1 e.symm), ho.cell q1 (fun e => hk1 e.symm), (ho.frozen 0 (lt_of_cell q0) (fun e => hk1 e.symm)).trans f0, (ho.frozen 1 (lt_of_cell q0) (fun e => hk1 e.symm)).trans f1⟩
    have hg2 := HD.g0
    have c2 := HD.st.c2
    have c3 := HD.st.c3
    have HPV : Hid (pullV h (leastV h N s) (mostV h N s) = ((leastV h N s * h.slo).tdiv 1000, upD (mostV h N s * h.shi) 1000)) := Lib.hid rfl
    obtain ⟨lv, hlv⟩ : ∃ v, leastV h N s = v := ⟨_, rfl⟩
    obtain ⟨mv, hmv⟩ : ∃ v, mostV h N s = v := ⟨_, rfl⟩
    rw [hlv] at hle bl HPV
    rw [hmv] at hmo bm HPV
    have HLE := Lib.hid hle
    have HMO := Lib.hid hmo
    have hx1 : 0 ≤ lv * h.slo := Int.mul_nonneg bl.1 (by have := hk.s1; omega)
    have hx2 : lv * h.slo ≤ 800000 * 2000 := Int.mul_le_mul bl.2 (by have := hk.s2; have := hk.s3; omega) (by have := hk.s1; omega) (by omega)
    have hy1 : 0 ≤ mv * h.shi := Int.mul_nonneg bm.1 (by have := hk.s1; have := hk.s2; omega)
    have hy2 : mv * h.shi ≤ 800000 * 2000 := Int.mul_le_mul bm.2 hk.s3 (by have := hk.s1; have := hk.s2; omega) (by omega)
    have hw1 : IntKind.i64.wrap (lv * h.slo) = lv * h.slo := wrap62 _ hx1 (by omega)
    have hw2 : IntKind.i64.wrap (mv * h.shi) = mv * h.shi := wrap62 _ hy1 (by omega)
    have hq0 : 0 ≤ (lv * h.slo).tdiv 1000 := Int.tdiv_nonneg hx1 (by decide)
    have hq1 : (lv * h.slo).tdiv 1000 ≤ lv * h.slo := by rw [Int.tdiv_eq_ediv_of_nonneg hx1]; exact Int.ediv_le_self _ hx1
    have hw3 : IntKind.i64.wrap ((lv * h.slo).tdiv 1000) = (lv * h.slo).tdiv 1000 := wrap62 _ hq0 (by omega)
    have hup := fun W => upDiv_any (w := W) (mv * h.shi) 1000 hy1 (by omega) (by decide) (by decide)
    have HUP := Lib.hid hup
    have HLV := Lib.hid hlv
    have HMV := Lib.hid hmv
    have HGD : Hid (Below w.heap.size w w1 ∧ w.heap.size ≤ km ∧ openPre h l = 0 ∧ Feas h l ∧ blockE h.ps.length h.js s = 0 ∧ IsTree h l N ∧ enterE h l s = 0) := Lib.hid ⟨HB2.out, by have := HD.k0; omega, hp, hf, hbl, hN, h0⟩
    clear hle hmo hup hD0 hkn0 hT HD hlv hmv hN hp hf hbl h0 bl bm hk
    go_wp2_with fail
    have hg1 : g ≠ W1.heap.size := by omega
    have HD0 : Hid (OnlyAt w1 w1.drew km) := Lib.hid (OnlyAt.refl w1 km).drew
    go_region_held3 (fun W => W.cell? ⟨g, 2, none⟩ = some (.int .i64 h.slo) ∧ W.cell? ⟨g, 3, none⟩ = some (.int .i64 h.shi)) (first | exact HC.out w1.drew HD0.out | exact HC.out w2 ho2 | exact HC.out w3 ho3 | exact HC.out w4 ho4 | exact ⟨keepSet (keepSet (HC.out w4 ho4).1 hg1) hg1, keepSet (keepSet (HC.out w4 ho4).2 hg1) hg1⟩) (first | (go_at_call 64; (with_reducible refine HLE.out.mono ?_); rintro e w2 ⟨rfl, hb2⟩; have ho2 : OnlyAt w1 w2 km := HD0.out.trans (OnlyAt.of_below hb2 km)) | (go_at_call 65; (with_reducible refine (HMO.out w2 hb2).mono ?_); rintro e w3 ⟨rfl, ho3', hk3⟩; have ho3 : OnlyAt w1 w3 km := ho2.trans ho3') | (go_at_call 69; (with_reducible refine (HUP.out w3).mono ?_); rintro e w4 ⟨rfl, hb4⟩; have ho4 : OnlyAt w1 w4 km := ho3.trans (OnlyAt.of_below hb4 km); obtain ⟨q0, q1, f0, f1⟩ := HQ.out w4 ho4))
    rename_i hHeld
    clear hHeld
    obtain ⟨wx, hwx⟩ : ∃ wx, (w4.setCell ⟨W1.heap.size, 0, none⟩ (.int .i64 ((lv * h.slo).tdiv 1000))).setCell ⟨W1.heap.size, 1, none⟩ (.int .i64 ((mv * h.shi + 1000 - 1).tdiv 1000)) = wx := ⟨_, rfl⟩
    have y0 : wx.cell? ⟨W1.heap.size, 0, none⟩ = some (.int .i64 ((lv * h.slo).tdiv 1000)) := by rw [← hwx]; clear hwx; go_simp
    have y1 : wx.cell? ⟨W1.heap.size, 1, none⟩ = some (.int .i64 ((mv * h.shi + 1000 - 1).tdiv 1000)) := by rw [← hwx]; clear hwx; go_simp
    obtain ⟨g1, g2, g3, g4, g5, g6, g7⟩ := HGD.out
    have hbx : Below w.heap.size w wx := by rw [← hwx]; exact belowS (belowS (ho4.below g1 g2) hz4 _) hz4 _
    rw [hwx]
    clear q0 q1 f0 f1 hwx c2 c3
    go_wp2_with fail
    refine bodyPost_ret (v := .tuple #[.agg #[iv ((lv * h.slo).tdiv 1000), iv ((mv * h.shi + 1000 - 1).tdiv 1000)], iv 0]) (by simp [results, Try.results22, go_sem, y0, y1]) rfl ?_
    exact ⟨hbx, .inr ⟨g7, g3, g4, g5, N, g6, by rw [Int.toNat_natCast, HLV.out, HMV.out, HPV.out]; rfl⟩⟩
end Go.Proofs.Ytojgdallodmanaa

namespace Go.Proofs.Ytojgdallodmanaa
open Go.RowKit

theorem Try.info25 : (Try.prog.info? 25).map (fun i => (i.zero, i.size, i.bytes)) = some (some (.agg #[.int .i64 0, .int .i64 0]), 2, 16) := by kernel_rfl
theorem Try.info3 : (Try.prog.info? 3).map (fun i => (i.zero, i.size, i.bytes)) = some (some (.int .i64 0), 1, 8) := by kernel_rfl
theorem own_below {w w' : World} {base : Nat} {e : TypeId} {size : Nat} {v : Value} {n : Nat} {xs : List Value} (h : w.ownsRow base e size v n xs) (hb : Below w.heap.size w w') : w'.ownsRow base e size v n xs :=
  ownKeep h fun k hk => hb.block k (h.lt k hk).2
theorem own_base {w : World} {base base' : Nat} {e : TypeId} {size : Nat} {v : Value} {n : Nat} {xs : List Value} (h : w.ownsRow base e size v n xs) (hb : base' ≤ base) : w.ownsRow base' e size v n xs := by
  obtain ⟨h1, h2⟩ := h
  refine ⟨h1, ?_⟩
  rcases h2 with h2 | ⟨g, cap, cur, hv, hg, r⟩
  · exact Or.inl h2
  · exact Or.inr ⟨g, cap, cur, hv, Nat.le_trans hb hg, r⟩
theorem own_only {w w' : World} {base km : Nat} {e : TypeId} {size : Nat} {v : Value} {n : Nat} {xs : List Value} (h : w.ownsRow base e size v n xs) (hb : OnlyAt w w' km) (hk : km < base) : w'.ownsRow base e size v n xs :=
  ownKeep h fun k hk' => hb.block k (h.lt k hk').2 (by have := (h.lt k hk').1; omega)
theorem OnlyAt.grown {a w w' : World} {base km : Nat} {e : TypeId} {size : Nat} {v : Value} {n : Nat} {xs : List Value} (ho : OnlyAt a w km) (h : w.ownsRow base e size v n xs) (hg : w.grownBy w' v.ownBlock) (hb : a.heap.size ≤ base) : OnlyAt a w' km :=
  ⟨hg.os.trans ho.os, hg.tape.trans ho.tape, hg.output.trans ho.output, Nat.le_trans ho.size hg.size, fun k hk hne => (hg.block k (Nat.lt_of_lt_of_le hk ho.size) (fun e => by have := (h.lt k e.symm).1; omega)).trans (ho.block k hk hne)⟩
theorem KnownAt.grown {w w' : World} {base km : Nat} {f : Nat → Int} {e : TypeId} {size : Nat} {v : Value} {n : Nat} {xs : List Value} (hk : KnownAt w km f) (h : w.ownsRow base e size v n xs) (hg : w.grownBy w' v.ownBlock) (hb : km < base) : KnownAt w' km f := by
  obtain ⟨D, m, ho, hd⟩ := hk
  exact ⟨D, m, ho.kept hg (fun e => by have := (h.lt km e.symm).1; omega), hd⟩
theorem KnownAt.lt {w : World} {km : Nat} {f : Nat → Int} (hk : KnownAt w km f) : km < w.heap.size := by
  obtain ⟨D, m, ho, hd⟩ := hk
  exact ho.lt

/-- What the first k parts can weigh. -/
def spansV (h : Hul) (N : List Nd) (k : Nat) : List (Int × Int) := (List.range k).map fun i => (leastV h N (2 ^ i), mostV h N (2 ^ i))
theorem spansV_len (h : Hul) (N : List Nd) (k : Nat) : (spansV h N k).length = k := by simp [spansV]
theorem spansV_succ (h : Hul) (N : List Nd) (k : Nat) : spansV h N (k + 1) = spansV h N k ++ [(leastV h N (2 ^ k), mostV h N (2 ^ k))] := by simp [spansV, List.range_succ]
theorem encSp_len : ∀ x : Int × Int, (encSp x).length = 2 := fun _ => rfl
def WeightsPost (h : Hul) (l : List Wgh) (w : World) (e : Ending) (w' : World) : Prop :=
  Below w.heap.size w w' ∧ ((openE h l ≠ 0 ∧ e = .returned (.tuple #[.slice none 0 0, iv (openE h l)])) ∨ (openE h l = 0 ∧ openPre h l = 0 ∧ Feas h l ∧ ∃ N A cap, IsTree h l N ∧ e = .returned (.tuple #[.slice A h.ps.length cap, iv 0]) ∧ w'.ownsRow w.heap.size 25 2 (.slice A h.ps.length cap) h.ps.length ((spansV h N h.ps.length).flatMap encSp)))

set_option maxRecDepth 100000 in
set_option maxHeartbeats 8000000 in
theorem weights_any (h : Hul) (A J : Option Addr) (B cap capJ : Nat) (AL : Option Addr) (l : List Wgh) (capL : Nat) (w : World) (hH : HulRd w B h A cap J capJ) (hL : RdN 3 encWgh w B AL l) (hlc : l.length ≤ capL) (hB : B ≤ w.heap.size) :
    Calls Try.prog 19 #[hv h A cap J capJ, .slice AL l.length capL] w (WeightsPost h l w) := by
  obtain ⟨i0, hi0, hz0, hzz1, hzz2⟩ := info_parts Try.info25
  obtain ⟨W1, hW1, hb0, hz1, p0, p1, p2, p3, p4⟩ := hulBox w h A cap J capJ
  have hop := open_any h A J B cap capJ AL l capL W1 (hH.below hb0 hB) (hL.below hb0 hB) hlc (Nat.le_trans hB hb0.size)
  have HOP := Lib.hid hop
  have HB0 := Lib.hid hb0
  have hz1 : w.heap.size ≤ W1.heap.size := hb0.size
  clear hop hb0 hH hL
  go_enter Try.func19, Try.ntmps19
  go_wp2_with fail
  refine HOP.out.mono ?_
  intro e w1 hpost
  obtain ⟨hb1, hpost⟩ := openPost_cases hpost
  have HB1 := Lib.hid (belowT HB0.out hb1)
  have hz2 := hb1.size
  clear hb1 HOP hW1 HB0 p0 p1 p2 p3 p4
  rcases hpost with ⟨hne, rfl⟩ | ⟨h0, hp, hf, N, g, bs, br, km, BD, hN, rfl, HD⟩
  · obtain ⟨E, hE⟩ : ∃ E, openE h l = E := ⟨_, rfl⟩
    have HE := Lib.hid hE
    rw [hE] at hne ⊢
    have hcb : (E == 0) = false := by simpa using hne
    clear hE
    go_wp2_with fail
    go_ret2
    exact ⟨HB1.out, .inl ⟨by rw [HE.out]; exact hne, by rw [HE.out]; rfl⟩⟩
  · have hk := hulOk (openPre_zero hp).1
    have hn8 := hk.n8
    have hT := treeOk_isTree hp hN
    have hkm := HD.kn.lt
    have hk0 := HD.k0
    have c0 := HD.st.c0
    have HD0 := Lib.hid HD
    have HFC : Hid (∀ e w', (Below w.heap.size w w' ∧ ∃ A cap, e = .returned (.tuple #[.slice A h.ps.length cap, iv 0]) ∧ w'.ownsRow w1.heap.size 25 2 (.slice A h.ps.length cap) h.ps.length ((spansV h N h.ps.length).flatMap encSp)) → WeightsPost h l w e w') := Lib.hid fun e w' ⟨a, A, cap, b, c⟩ => ⟨a, .inr ⟨h0, hp, hf, N, A, cap, hN, b, own_base c (by omega)⟩⟩
    have HLM : Hid (∀ (W : World) (i : Nat), i < h.ps.length → DeckSt W BD g h A cap J capJ N bs br km → Calls Try.prog 64 #[ptr g, iv ((2 ^ i : Nat) : Int)] W fun e w' => e = .returned (iv (leastV h N (2 ^ i))) ∧ Below W.heap.size W w') := Lib.hid fun W i hi H => least_any H hT (2 ^ i) (Nat.pow_lt_pow_right (by decide) hi)
    have HMM : Hid (∀ (W : World) (i : Nat), i < h.ps.length → DeckSt W BD g h A cap J capJ N bs br km → KnownAt W km (mostV h N) → Calls Try.prog 65 #[ptr g, iv ((2 ^ i : Nat) : Int)] W (MostPost (mostV h N (2 ^ i)) km (mostV h N) W)) := Lib.hid fun W i hi H hK => most_any H hT hK (2 ^ i) (pow_lt (by omega))
    obtain ⟨POST, hPOST⟩ : ∃ P, WeightsPost h l w = P := ⟨_, rfl⟩
    rw [hPOST] at HFC
    clear HD hN hf hT h0
    go_wp2_with fail
    go_loopw [4, 23] (fun vv vi wr => ∃ (k : Nat) (vo : Value), k ≤ h.ps.length ∧ vi = .int .i64 k ∧ vo = vv ∧ Hid (wr.ownsRow w1.heap.size 25 2 vo k ((spansV h N k).flatMap encSp)) ∧ Hid (OnlyAt w1 wr km) ∧ Hid (KnownAt wr km (mostV h N))) (fun _ vi _ => h.ps.length - (intOf vi).toNat)
    case atStart => exact ⟨0, _, Nat.zero_le _, rfl, rfl, Lib.hid (World.ownsRow_nil _ _ _ _), Lib.hid (OnlyAt.refl w1 km), Lib.hid HD0.out.kn⟩
    case round =>
      obtain ⟨k, vo, hkk, rfl, rfl, HO, HA, HK⟩ := hrel
      by_cases hlt : k < h.ps.length
      · have hds := HD0.out.st.only HA.out (.inl rfl)
        have hds0 : DeckSt wr.drew BD g h A cap J capJ N bs br km := hds.only (OnlyAt.refl wr km).drew (.inl rfl)
        have hsh := shl1 k (by omega)
        have HC1 := Lib.hid (HLM.out wr.drew k hlt hds0)
        have HC2 := Lib.hid (fun W (hb : Below wr.drew.heap.size wr.drew W) => HMM.out W k hlt (hds0.below hb) (HK.out.drew.below hb))
        have hsn := spansV_succ h N k
        obtain ⟨x, hx⟩ : ∃ x, leastV h N (2 ^ k) = x := ⟨_, rfl⟩
        obtain ⟨y, hy⟩ : ∃ y, mostV h N (2 ^ k) = y := ⟨_, rfl⟩
        rw [hx] at HC1 hsn
        rw [hy] at HC2 hsn
        obtain ⟨P, hP⟩ : ∃ P, (2 ^ k : Nat) = P := ⟨_, rfl⟩
        rw [hP] at HC1 HC2 hsh
        obtain ⟨F, hF⟩ : ∃ F, mostV h N = F := ⟨_, rfl⟩
        rw [hF] at HC2
        have HFF := Lib.hid hF
        have HSN := Lib.hid hsn
        have hk9 : k + 1 ≤ maxLen := by unfold maxLen; omega
        have hk16 : (k + 1) * 16 ≤ 140737488355328 := by omega
        have hzr := HA.out.size
        clear hsn hx hy hP hF hds hds0
        go_wp2_with fail
        go_region_held3 (fun _ => True) (trivial) (first | (have hownA := (own_only (own_below HO.out (undrew0 hb3)) ho4 hkm).alloc (.cells #[.int .i64 x, .int .i64 y] 25); have hz4 : w1.heap.size ≤ w4.heap.size := Nat.le_trans hzr (Nat.le_trans (undrew0 hb3).size ho4.size); refine step_append_lies _ (by rfl) _ _ _ (by rfl) w1.heap.size 25 i0 _ 2 16 Try.underlying32 hi0 hz0 hzz1 hzz2 rfl (by omega) _ k _ (by rfl) hownA ⟨w4.heap.size, 0, none⟩ 1 1 [.int .i64 x, .int .i64 y] (by rfl) (by rfl) (World.news_of_block (cs := #[.int .i64 x, .int .i64 y]) (t := 25) (fr := (0, 0)) (heap_alloc_new w4 _)) (by simp [Value.oneCell']) (by omega) hk9 hk16 (by simp; omega) (w4.heap.size + 1) (by simp) ?_; intro gg cap9 w5 hown5 hgrow hat hlt5) | (go_at_call 64; ((with_reducible refine HC1.out.mono ?_); rintro e w3 ⟨rfl, hb3⟩)) | (go_at_call 65; ((with_reducible refine (HC2.out w3 hb3).mono ?_); rintro e w4 ⟨rfl, ho4, hk4⟩)))
        have hk5 : KnownAt w5 km F := by
          have h1 : KnownAt (w4.alloc (.cells #[.int .i64 x, .int .i64 y] 25)) km F := hk4.below (belowA (belowR _) _)
          exact h1.grown hownA hgrow hkm
        have ho5 : OnlyAt w1 w5 km := by
          have h1 : OnlyAt w1 (w4.alloc (.cells #[.int .i64 x, .int .i64 y] 25)) km := (((HA.out.trans (OnlyAt.of_below (undrew0 hb3) km)).trans ho4)).trans (OnlyAt.of_below (belowA (belowR w4) _) km)
          exact h1.grown hownA hgrow (Nat.le_refl _)
        rw [← HFF.out] at hk5
        have HO5 := Lib.hid hown5
        have HA5 := Lib.hid ho5
        have HK5 := Lib.hid hk5
        clear hown5 hgrow hownA hb3 ho4 hk4 ho5 hk5 HC1 HC2
        go_wp2_with fail
        exact ⟨⟨k + 1, _, by omega, by go_num, rfl, Lib.hid (by rw [HSN.out, List.flatMap_append]; exact HO5.out), HA5, HK5⟩, by simp [intOf]; omega⟩
      · obtain rfl : k = h.ps.length := by omega
        have hown := HO.out
        have hown' := hown
        obtain ⟨R, hR⟩ : ∃ R, spansV h N h.ps.length = R := ⟨_, rfl⟩
        have hRl : R.length = h.ps.length := by rw [← hR]; exact spansV_len _ _ _
        rw [hR, ← hRl] at hown'
        obtain ⟨A5, cap5, rfl, _⟩ := own_rdN encSp_len hown'
        rw [hRl] at hown
        have HO5 := Lib.hid hown
        clear hown hown' HO
        go_wp2_with fail
        rw [hPOST]
        refine bodyPost_ret (results_tmp2 rfl _ _ _) rfl ?_
        exact HFC.out _ _ ⟨HA.out.below HB1.out (by omega), A5, cap5, by rw [hRl]; rfl, HO5.out⟩
end Go.Proofs.Ytojgdallodmanaa

namespace Go.Proofs.Ytojgdallodmanaa
open Go.RowKit Go.Shelf

def encN (n : Nat) : List Value := [nv n]
theorem encN_len : ∀ x, (encN x).length = 1 := fun _ => rfl
theorem encPrt_len : ∀ x, (encPrt x).length = 3 := fun _ => rfl
theorem Try.info67 : (Try.prog.info? 67).map (fun i => (i.zero, i.size, i.bytes)) = some (some (.agg #[.string ⟨#[]⟩, .int .i64 0, .int .i64 0]), 3, 32) := by kernel_rfl
def Try.laysC84_ren : Go.Shelf.Ren := ⟨fun | 41 => 84 | n => n, fun | 22 => 40 | 23 => 3 | 4 => 4 | n => n, fun | n => n⟩
theorem Try.laysC84 : Go.Proofs.SlLaysE0.n41 Try.prog Try.laysC84_ren := {
  mixed := by kernel_rfl
  f41 := ⟨Try.f84.name, by decide, Try.func84.trans (congrArg some (by kernel_rfl))⟩
  t4 := Try.underlying4
  a4 := Try.isAgg4
  z4 := Try.sizeOf4
  v4 := Try.zeroValue4
  t22 := Try.underlying40
  a22 := Try.isAgg40
  z22 := Try.sizeOf40
  v22 := Try.zeroValue40 }
set_option maxRecDepth 100000 in
theorem clone0N_any (ad : Addr) (cap : Nat) (w : World) :
    Calls Try.prog 84 #[.slice (some ad) 0 cap] w fun e w' => ∃ v', e = .returned v' ∧ w'.ownsRow w.heap.size 3 1 v' 0 [] ∧ Below w.heap.size w w' := by
  obtain ⟨i0, hi, hz0, hz1, hz2⟩ := info_parts Try.info3
  have hlit := World.ownsRow_lit (e := 3) (size := 1) (base := w.heap.size) w #[] 0 (Nat.le_refl _) (by decide) (by simp)
  have HL := Lib.hid hlit
  clear hlit
  have q28 : ∀ (w : World) (a : Option Addr) (n c n' c' : Nat), (binOp .eql 40 (.slice a n c) (.slice none n' c')).run Try.prog w = .ok (.bool a.isNone) w := fun w a n c n' c' => Lib.run_eql_slice_nil w _ _ a n c n' c' Try.underlying40
  go_enter Try.func84, Try.ntmps84
  go_wp2_with (at_builtin; refine wpList_append_own _ rfl _ _ 40 rfl w.heap.size 3 i0 (.int .i64 0) 1 8 Try.underlying40 hi hz0 hz1 hz2 rfl (by decide) _ _ _ rfl HL.out ad 0 cap [] rfl rfl ?d1 ?d2 ?d3 ?d4 ?d5 ?_)
  intro v' w3 hown hg _
  have hb := grownB HL.out hg (Nat.le_refl _) (belowA (belowR w) _)
  have HO := Lib.hid hown
  have HB := Lib.hid hb
  clear hown hg hb HL
  go_wp2
  go_ret
  exact ⟨v', rfl, HO.out, HB.out⟩
theorem cloneN_any (A : Option Addr) (l : List Nat) (B cap : Nat) (w : World) (hm : l.length ≤ 8) (hR : RdN 1 encN w B A l) :
    Calls Try.prog 84 #[.slice A l.length cap] w fun e w' => ∃ v', e = .returned v' ∧ w'.ownsRow w.heap.size 3 1 v' l.length (l.flatMap encN) ∧ Below w.heap.size w w' := by
  rcases Nat.eq_zero_or_pos l.length with h0 | h0
  · have : l = [] := List.length_eq_zero_iff.1 h0
    subst this
    cases A with
    | none =>
      refine (AnyE.slices_Clone_nil Try.laysC84 0 cap w).mono ?_
      rintro e w' ⟨rfl, rfl⟩
      exact ⟨_, rfl, World.ownsRow_nil _ _ _ _, belowR _⟩
    | some ad => exact clone0N_any ad cap w
  · obtain ⟨i0, hi, hz0, hz1, hz2⟩ := info_parts Try.info3
    obtain ⟨b, off, rfl, _, _⟩ := hR 0 _ (List.getElem?_eq_getElem h0)
    refine (AnyE.slices_Clone Try.laysC84 i0 _ 1 8 hi hz0 hz1 hz2 rfl (by decide) Try.sizeOf3 b off l.length cap (l.flatMap encN) w (flat_len encN_len l) (by unfold maxLen; omega) (by omega) (flat_cells (by decide) encN_len hR) ?_).mono ?_
    · intro u hu
      obtain ⟨c, _, hc⟩ := List.mem_flatMap.1 hu
      simp [encN] at hc
      subst hc; rfl
    · rintro e w' ⟨v', rfl, h1, _, h3⟩
      exact ⟨v', rfl, h1, h3⟩
def Try.laysC73_ren : Go.Shelf.Ren := ⟨fun | 41 => 73 | n => n, fun | 22 => 22 | 23 => 67 | 4 => 4 | n => n, fun | n => n⟩
theorem Try.laysC73 : Go.Proofs.SlLaysE0.n41 Try.prog Try.laysC73_ren := {
  mixed := by kernel_rfl
  f41 := ⟨Try.f73.name, by decide, Try.func73.trans (congrArg some (by kernel_rfl))⟩
  t4 := Try.underlying4
  a4 := Try.isAgg4
  z4 := Try.sizeOf4
  v4 := Try.zeroValue4
  t22 := Try.underlying22
  a22 := Try.isAgg22
  z22 := Try.sizeOf22
  v22 := Try.zeroValue22 }
set_option maxRecDepth 100000 in
theorem clone0P_any (ad : Addr) (cap : Nat) (w : World) :
    Calls Try.prog 73 #[.slice (some ad) 0 cap] w fun e w' => ∃ v', e = .returned v' ∧ w'.ownsRow w.heap.size 67 3 v' 0 [] ∧ Below w.heap.size w w' := by
  obtain ⟨i0, hi, hz0, hz1, hz2⟩ := info_parts Try.info67
  have hlit := World.ownsRow_lit (e := 67) (size := 3) (base := w.heap.size) w #[] 0 (Nat.le_refl _) (by decide) (by simp)
  have HL := Lib.hid hlit
  clear hlit
  have q28 : ∀ (w : World) (a : Option Addr) (n c n' c' : Nat), (binOp .eql 22 (.slice a n c) (.slice none n' c')).run Try.prog w = .ok (.bool a.isNone) w := fun w a n c n' c' => Lib.run_eql_slice_nil w _ _ a n c n' c' Try.underlying22
  go_enter Try.func73, Try.ntmps73
  go_wp2_with (at_builtin; refine wpList_append_own _ rfl _ _ 22 rfl w.heap.size 67 i0 (.agg #[.string ⟨#[]⟩, .int .i64 0, .int .i64 0]) 3 32 Try.underlying22 hi hz0 hz1 hz2 rfl (by decide) _ _ _ rfl HL.out ad 0 cap [] rfl rfl ?d1 ?d2 ?d3 ?d4 ?d5 ?_)
  intro v' w3 hown hg _
  have hb := grownB HL.out hg (Nat.le_refl _) (belowA (belowR w) _)
  have HO := Lib.hid hown
  have HB := Lib.hid hb
  clear hown hg hb HL
  go_wp2
  go_ret
  exact ⟨v', rfl, HO.out, HB.out⟩
theorem cloneP_any (A : Option Addr) (l : List Prt) (B cap : Nat) (w : World) (hm : l.length ≤ 8) (hR : RdN 3 encPrt w B A l) :
    Calls Try.prog 73 #[.slice A l.length cap] w fun e w' => ∃ v', e = .returned v' ∧ w'.ownsRow w.heap.size 67 3 v' l.length (l.flatMap encPrt) ∧ Below w.heap.size w w' := by
  rcases Nat.eq_zero_or_pos l.length with h0 | h0
  · have : l = [] := List.length_eq_zero_iff.1 h0
    subst this
    cases A with
    | none =>
      refine (AnyE.slices_Clone_nil Try.laysC73 0 cap w).mono ?_
      rintro e w' ⟨rfl, rfl⟩
      exact ⟨_, rfl, World.ownsRow_nil _ _ _ _, belowR _⟩
    | some ad => exact clone0P_any ad cap w
  · obtain ⟨i0, hi, hz0, hz1, hz2⟩ := info_parts Try.info67
    obtain ⟨b, off, rfl, _, _⟩ := hR 0 _ (List.getElem?_eq_getElem h0)
    refine (AnyE.slices_Clone Try.laysC73 i0 _ 3 32 hi hz0 hz1 hz2 rfl (by decide) Try.sizeOf67 b off l.length cap (l.flatMap encPrt) w (flat_len encPrt_len l) (by unfold maxLen; omega) (by omega) (flat_cells (by decide) encPrt_len hR) ?_).mono ?_
    · intro u hu
      obtain ⟨c, _, hc⟩ := List.mem_flatMap.1 hu
      simp [encPrt] at hc
      rcases hc with rfl | rfl | rfl <;> rfl
    · rintro e w' ⟨v', rfl, h1, _, h3⟩
      exact ⟨v', rfl, h1, h3⟩
end Go.Proofs.Ytojgdallodmanaa
