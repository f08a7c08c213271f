/- lightest, count, Winch and Sand. Heaviest: how far one part can be limited. Heaviest. The law's own hull and weighing. -/
import Derived.Test.YtojgdallodmanaaZ382934
import Derived.Test.YtojgdallodmanaaZc16488
import Derived.Test.YtojgdallodmanaaYE12
namespace Go.Proofs.Ytojgdallodmanaa
open Go.RowKit Go.Shelf
attribute [local go_sem] Oper.semAt_some

def lightW (h : Hul) (N : List Nd) (b : Nat) : Nat := searchF (fun k => canF h N b k) (h.ps.length * 100000 + 2) 0 (h.ps.length * 100000 + 1)
theorem lightW_le (h : Hul) (N : List Nd) (b : Nat) : lightW h N b ≤ h.ps.length * 100000 + 1 := (searchF_le _ _ _ _ (Nat.zero_le _)).2

section
variable {w : World} {B g : Nat} {h : Hul} {A : Option Addr} {cap : Nat} {J : Option Addr} {capJ : Nat} {N : List Nd} {bs : List Nat} {br km : Nat}
set_option maxRecDepth 100000 in
set_option maxHeartbeats 4000000 in
theorem lightest_any (H : DeckSt w B g h A cap J capJ N bs br km) (hk : HulOk h) (hT : TreeOk h.ps N) (hK : KnownAt w km (mostV h N)) (b : Nat) (hb8 : b ≤ 8) :
    Calls Try.prog 116 #[.func (.func 117) #[.agg #[ptr g, nv b]] #[], .int .i64 (h.ps.length * 100000 : Nat)] w (fun e w' => e = .returned (.tuple #[nv (lightW h N b), .bool (decide (lightW h N b ≤ h.ps.length * 100000))]) ∧ OnlyAt w w' km ∧ KnownAt w' km (mostV h N)) := by
  have hn8 := hk.n8
  have hse := search117_any (.agg #[ptr g, nv b]) (fun k => canF h N b k) (fun X => OnlyAt w X km ∧ KnownAt X km (mostV h N)) (h.ps.length * 100000 + 1) w (by omega) ⟨OnlyAt.refl w km, hK⟩
    (fun W k hW hlt => (can_any (H.only hW.1 (.inl rfl)) hk hT hW.2 b k hb8).mono (fun e w' hp => ⟨hp.1, hW.1.trans hp.2.1, hp.2.2⟩))
  have hle := lightW_le h N b
  have hL : searchF (fun k => canF h N b k) (h.ps.length * 100000 + 1 + 1) 0 (h.ps.length * 100000 + 1) = lightW h N b := rfl
  rw [hL] at hse
  obtain ⟨R, hR⟩ : ∃ R, lightW h N b = R := ⟨_, rfl⟩
  rw [hR] at hse hle ⊢
  obtain ⟨M, hM⟩ : ∃ M, h.ps.length * 100000 = M := ⟨_, rfl⟩
  have hM8 : M ≤ 800000 := by omega
  rw [hM] at hse hle ⊢
  have HSE := Lib.hid hse
  clear hse hL hR hM H hT hK hk hn8
  go_enter Try.func116, Try.ntmps116
  go_wp2_with fail
  refine HSE.out.mono ?_
  rintro e w1 ⟨rfl, ho, hk⟩
  have HO := Lib.hid (And.intro ho hk)
  clear ho hk HSE
  go_wp2_with fail
  go_ret2
  refine ⟨?_, HO.out⟩
  simp
end
def CountPost (h : Hul) (A : Option Addr) (cap : Nat) (J : Option Addr) (capJ : Nat) (l : List Wgh) (v : Int) (w : World) (e : Ending) (w' : World) : Prop :=
  Below w.heap.size w w' ∧ ((openE h l ≠ 0 ∧ e = .returned (.tuple #[.pointer none, iv 0, iv (openE h l)])) ∨ (openE h l = 0 ∧ ¬ (1 ≤ v ∧ v ≤ 8) ∧ e = .returned (.tuple #[.pointer none, iv 0, iv 7])) ∨
    (openE h l = 0 ∧ openPre h l = 0 ∧ Feas h l ∧ 1 ≤ v ∧ v ≤ 8 ∧ ∃ N, IsTree h l N ∧ ((h.ps.length * 100000 < lightW h N v.toNat ∧ e = .returned (.tuple #[.pointer none, iv 0, iv 9])) ∨
      (lightW h N v.toNat ≤ h.ps.length * 100000 ∧ ∃ g bs br km BD, e = .returned (.tuple #[ptr g, nv (lightW h N v.toNat), iv 0]) ∧ DeckHere w w' h A cap J capJ N g bs br km BD))))
set_option maxRecDepth 100000 in
set_option maxHeartbeats 8000000 in
theorem count_any (h : Hul) (A J : Option Addr) (B cap capJ : Nat) (AL : Option Addr) (l : List Wgh) (capL : Nat) (v : Int) (w : World) (hH : HulRd w B h A cap J capJ) (hL : RdN 3 encWgh w B AL l) (hlc : l.length ≤ capL) (hB : B ≤ w.heap.size) :
    Calls Try.prog 88 #[hv h A cap J capJ, .slice AL l.length capL, iv v] w (CountPost h A cap J capJ l v w) := by
  obtain ⟨W1, hW1, hb0, hz1, p0, p1, p2, p3, p4⟩ := hulBox w h A cap J capJ
  have hop := open_any h A J B cap capJ AL l capL W1 (hH.below hb0 hB) (hL.below hb0 hB) hlc (Nat.le_trans hB hb0.size)
  have HOP := Lib.hid hop
  have HB0 := Lib.hid hb0
  have hz1 : w.heap.size ≤ W1.heap.size := hb0.size
  clear hop hb0 hH hL
  go_enter Try.func88, Try.ntmps88
  go_wp2_with fail
  refine HOP.out.mono ?_
  intro e w1 hpost
  obtain ⟨hb1, hpost⟩ := openPost_cases hpost
  have HB1 := Lib.hid (belowT HB0.out hb1)
  have hz2 := hb1.size
  clear hb1 HOP hW1 HB0 p0 p1 p2 p3 p4
  rcases hpost with ⟨hne, rfl⟩ | ⟨h0, hp, hf, N, g, bs, br, km, BD, hN, rfl, HD⟩
  · obtain ⟨E, hE⟩ : ∃ E, openE h l = E := ⟨_, rfl⟩
    have HE := Lib.hid hE
    rw [hE] at hne ⊢
    have hcb : (E == 0) = false := by simpa using hne
    clear hE
    go_wp2_with fail
    go_ret3
    exact ⟨HB1.out, .inl ⟨by rw [HE.out]; exact hne, by rw [HE.out]; rfl⟩⟩
  · have hk := hulOk (openPre_zero hp).1
    have hn8 := hk.n8
    have hT := treeOk_isTree hp hN
    have HFC : Hid (∀ e w', Below w.heap.size w w' → ((¬ (1 ≤ v ∧ v ≤ 8) ∧ e = .returned (.tuple #[.pointer none, iv 0, iv 7])) ∨ (1 ≤ v ∧ v ≤ 8 ∧ ((h.ps.length * 100000 < lightW h N v.toNat ∧ e = .returned (.tuple #[.pointer none, iv 0, iv 9])) ∨
      (lightW h N v.toNat ≤ h.ps.length * 100000 ∧ e = .returned (.tuple #[ptr g, nv (lightW h N v.toNat), iv 0]) ∧ DeckHere w w' h A cap J capJ N g bs br km BD)))) → CountPost h A cap J capJ l v w e w') := Lib.hid fun e w' a b => ⟨a, .inr (b.elim (fun b => .inl ⟨h0, b⟩) (fun b => .inr ⟨h0, hp, hf, b.1, b.2.1, N, hN, b.2.2.elim .inl (fun c => .inr ⟨c.1, g, bs, br, km, BD, c.2⟩)⟩))⟩
    have HD0 := Lib.hid HD
    have hg0 := HD.g0
    have hk0 := HD.k0
    have c0 := HD.st.c0
    clear HD hf h0 hp hN
    obtain ⟨q, hq⟩ : ∃ q, inB 1 8 v = q := ⟨_, rfl⟩
    go_wp2_with (refine HD0.out ?_)
    refine (out_oneB hq _ _ (by go_simp)).mono ?_
    rintro e w2 ⟨rfl, hb2⟩
    have hb2 := belowT (belowA (belowR w1) _) hb2
    have HB2 := Lib.hid (belowT HB1.out hb2)
    have HD2 := Lib.hid (HD0.out.below hb2)
    clear hb2 c0
    cases q
    · have HV : Hid (¬ (1 ≤ v ∧ v ≤ 8)) := Lib.hid (by simpa [inB] using hq)
      clear hq
      go_wp2_with fail
      go_ret3
      exact HFC.out _ _ HB2.out (.inl ⟨HV.out, rfl⟩)
    · have HV : Hid (1 ≤ v ∧ v ≤ 8) := Lib.hid (by simpa [inB] using hq)
      clear hq
      obtain ⟨b, rfl⟩ : ∃ b : Nat, v = b := ⟨v.toNat, by have := HV.out; omega⟩
      have hli := lightest_any HD2.out.st hk hT HD2.out.kn b (by have := HV.out; omega)
      have c0 := HD2.out.st.c0
      have hle := lightW_le h N b
      obtain ⟨M, hM⟩ : ∃ M, h.ps.length * 100000 = M := ⟨_, rfl⟩
      have hMi : (h.ps.length : Int) * 100000 = (M : Int) := by omega
      have hMw : IntKind.i64.wrap ((h.ps.length : Int) * 100000) = (M : Int) := by rw [hMi]; exact wrap62 _ (by omega) (by omega)
      obtain ⟨R, hR⟩ : ∃ R, lightW h N b = R := ⟨_, rfl⟩
      have HFC2 := HFC.out
      rw [Int.toNat_natCast, hR, hM] at HFC2
      rw [hM] at hle
      rw [hR, hM] at hli
      rw [hR] at hle
      have HFC := Lib.hid HFC2
      have HLI := Lib.hid hli
      have hR2 : (R : Int) ≤ 800001 := by omega
      clear HFC2 hli hM hR hT hk HD0
      go_wp2_with (refine HD2.out ?_)
      refine HLI.out.mono ?_
      rintro e w3 ⟨rfl, ho3, hk3⟩
      have HD3 : Hid (DeckHere w w3 h A cap J capJ N g bs br km BD) := Lib.hid (by
        have hd := HD2.out.only ho3 hk3
        exact ⟨Nat.le_trans hz1 hd.g0, Nat.le_trans hz1 hd.k0, hd.st, hd.kn, hd.fz⟩)
      have HB3 : Hid (Below w.heap.size w w3) := Lib.hid (ho3.below HB2.out (by omega))
      clear ho3 hk3 HLI c0
      by_cases hRM : R ≤ M
      · have hd : decide (R ≤ M) = true := by simpa using hRM
        rw [hd]
        go_wp2_with fail
        go_ret3
        exact HFC.out _ _ HB3.out (.inr ⟨HV.out.1, HV.out.2, .inr ⟨hRM, rfl, HD3.out⟩⟩)
      · have hd : decide (R ≤ M) = false := by simpa using hRM
        rw [hd]
        go_wp2_with fail
        go_ret3
        exact HFC.out _ _ HB3.out (.inr ⟨HV.out.1, HV.out.2, .inl ⟨by omega, rfl⟩⟩)

/-- The error of count. -/
def CountOne (F : Nat → Int × Int) (h : Hul) (l : List Wgh) (v : Int) (w : World) (e : Ending) (w' : World) : Prop :=
  Below w.heap.size w w' ∧ ((openE h l ≠ 0 ∧ e = .returned (.tuple #[iv 0, iv (openE h l)])) ∨ (openE h l = 0 ∧ ¬ (1 ≤ v ∧ v ≤ 8) ∧ e = .returned (.tuple #[iv 0, iv 7])) ∨
    (openE h l = 0 ∧ openPre h l = 0 ∧ Feas h l ∧ 1 ≤ v ∧ v ≤ 8 ∧ ∃ N, IsTree h l N ∧ ((h.ps.length * 100000 < lightW h N v.toNat ∧ e = .returned (.tuple #[iv 0, iv 9])) ∨
      (lightW h N v.toNat ≤ h.ps.length * 100000 ∧ e = .returned (.tuple #[iv (F (lightW h N v.toNat)).1, iv (F (lightW h N v.toNat)).2])))))
def winchOf (h : Hul) (L : Nat) : Int × Int := (max 1 (upD (L * h.shi) 1000), 0)
def sandOf (h : Hul) (L : Nat) : Int × Int := if 1000 * h.winch < L then (0, 9) else if L = 0 then (2000, 0) else (min 2000 ((1000 * h.winch).tdiv L), 0)
set_option maxRecDepth 100000 in
set_option maxHeartbeats 8000000 in
theorem winch_any (h : Hul) (A J : Option Addr) (B cap capJ : Nat) (AL : Option Addr) (l : List Wgh) (capL : Nat) (v : Int) (w : World) (hH : HulRd w B h A cap J capJ) (hL : RdN 3 encWgh w B AL l) (hlc : l.length ≤ capL) (hB : B ≤ w.heap.size) :
    Calls Try.prog 32 #[hv h A cap J capJ, .slice AL l.length capL, iv v] w (CountOne (winchOf h) h l v w) := by
  obtain ⟨W1, hW1, hb0, hz1, p0, p1, p2, p3, p4⟩ := hulBox w h A cap J capJ
  have hop := count_any h A J B cap capJ AL l capL v W1 (hH.below hb0 hB) (hL.below hb0 hB) hlc (Nat.le_trans hB hb0.size)
  have HOP := Lib.hid hop
  have HB0 := Lib.hid hb0
  have hz1 : w.heap.size ≤ W1.heap.size := hb0.size
  clear hop hb0 hH hL
  go_enter Try.func32, Try.ntmps32
  go_wp2_with fail
  refine HOP.out.mono ?_
  intro e w1 hpost
  obtain ⟨hb1, hpost⟩ := hpost
  have HB1 := Lib.hid (belowT HB0.out hb1)
  have hz2 := hb1.size
  clear hb1 HOP hW1 HB0 p0 p1 p2 p3 p4
  rcases hpost with ⟨hne, rfl⟩ | ⟨h0, hv8, rfl⟩ | ⟨h0, hp, hf, h1, h8, N, hN, hpost⟩
  · obtain ⟨E, hE⟩ : ∃ E, openE h l = E := ⟨_, rfl⟩
    have HE := Lib.hid hE
    rw [hE] at hne ⊢
    have hcb : (E == 0) = false := by simpa using hne
    clear hE
    go_wp2_with fail
    go_ret2
    exact ⟨HB1.out, .inl ⟨by rw [HE.out]; exact hne, by rw [HE.out]; rfl⟩⟩
  · have H0 := Lib.hid (And.intro h0 hv8)
    clear h0 hv8
    go_wp2_with fail
    go_ret2
    exact ⟨HB1.out, .inr (.inl ⟨H0.out.1, H0.out.2, rfl⟩)⟩
  · have hk := hulOk (openPre_zero hp).1
    have hn8 := hk.n8
    have hle := lightW_le h N v.toNat
    have HFC : Hid (∀ e w', Below w.heap.size w w' → ((h.ps.length * 100000 < lightW h N v.toNat ∧ e = .returned (.tuple #[iv 0, iv 9])) ∨
      (lightW h N v.toNat ≤ h.ps.length * 100000 ∧ e = .returned (.tuple #[iv (winchOf h (lightW h N v.toNat)).1, iv (winchOf h (lightW h N v.toNat)).2]))) → CountOne (winchOf h) h l v w e w') := Lib.hid fun e w' a b => ⟨a, .inr (.inr ⟨h0, hp, hf, h1, h8, N, hN, b⟩)⟩
    obtain ⟨R, hR⟩ : ∃ R, lightW h N v.toNat = R := ⟨_, rfl⟩
    rw [hR] at hpost hle HFC
    clear hf h0 hp hN hR h1 h8
    rcases hpost with ⟨hlt, rfl⟩ | ⟨hle2, g, bs, br, km, BD, rfl, HD⟩
    · go_wp2_with fail
      go_ret2
      exact HFC.out _ _ HB1.out (.inl ⟨hlt, rfl⟩)
    · have c3 := HD.st.c3
      have hy1 : 0 ≤ (R : Int) * h.shi := Int.mul_nonneg (by omega) (by have := hk.s1; have := hk.s2; omega)
      have hy2 : (R : Int) * h.shi ≤ 800001 * 2000 := Int.mul_le_mul (by omega) hk.s3 (by have := hk.s1; have := hk.s2; omega) (by omega)
      have hup := fun W => upDiv_any (w := W) ((R : Int) * h.shi) 1000 hy1 (by omega) (by decide) (by decide)
      have hw2 : IntKind.i64.wrap ((R : Int) * h.shi) = (R : Int) * h.shi := wrap62 _ hy1 (by omega)
      have HUP := Lib.hid hup
      have HWV : Hid (winchOf h R = (max 1 (((R : Int) * h.shi + 1000 - 1).tdiv 1000), 0)) := Lib.hid rfl
      clear HD hup
      go_wp2_with (refine HUP.out ?_)
      refine (HUP.out w1).mono ?_
      rintro e w2 ⟨rfl, hb2⟩
      have HB2 := Lib.hid (belowT HB1.out hb2)
      clear hb2 HUP c3
      go_wp2_with fail
      go_ret2
      exact HFC.out _ _ HB2.out (.inr ⟨hle2, by rw [HWV.out]; rfl⟩)
set_option maxRecDepth 100000 in
set_option maxHeartbeats 8000000 in
theorem sand_any (h : Hul) (A J : Option Addr) (B cap capJ : Nat) (AL : Option Addr) (l : List Wgh) (capL : Nat) (v : Int) (w : World) (hH : HulRd w B h A cap J capJ) (hL : RdN 3 encWgh w B AL l) (hlc : l.length ≤ capL) (hB : B ≤ w.heap.size) :
    Calls Try.prog 34 #[hv h A cap J capJ, .slice AL l.length capL, iv v] w (CountOne (sandOf h) h l v w) := by
  obtain ⟨W1, hW1, hb0, hz1, p0, p1, p2, p3, p4⟩ := hulBox w h A cap J capJ
  have hop := count_any h A J B cap capJ AL l capL v W1 (hH.below hb0 hB) (hL.below hb0 hB) hlc (Nat.le_trans hB hb0.size)
  have HOP := Lib.hid hop
  have HB0 := Lib.hid hb0
  have hz1 : w.heap.size ≤ W1.heap.size := hb0.size
  clear hop hb0 hH hL
  go_enter Try.func34, Try.ntmps34
  go_wp2_with fail
  refine HOP.out.mono ?_
  intro e w1 hpost
  obtain ⟨hb1, hpost⟩ := hpost
  have HB1 := Lib.hid (belowT HB0.out hb1)
  have hz2 := hb1.size
  clear hb1 HOP hW1 HB0 p0 p1 p2 p3 p4
  rcases hpost with ⟨hne, rfl⟩ | ⟨h0, hv8, rfl⟩ | ⟨h0, hp, hf, h1, h8, N, hN, hpost⟩
  · obtain ⟨E, hE⟩ : ∃ E, openE h l = E := ⟨_, rfl⟩
    have HE := Lib.hid hE
    rw [hE] at hne ⊢
    have hcb : (E == 0) = false := by simpa using hne
    clear hE
    go_wp2_with fail
    go_ret2
    exact ⟨HB1.out, .inl ⟨by rw [HE.out]; exact hne, by rw [HE.out]; rfl⟩⟩
  · have H0 := Lib.hid (And.intro h0 hv8)
    clear h0 hv8
    go_wp2_with fail
    go_ret2
    exact ⟨HB1.out, .inr (.inl ⟨H0.out.1, H0.out.2, rfl⟩)⟩
  · have hk := hulOk (openPre_zero hp).1
    have hn8 := hk.n8
    have hle := lightW_le h N v.toNat
    have HFC : Hid (∀ e w', Below w.heap.size w w' → ((h.ps.length * 100000 < lightW h N v.toNat ∧ e = .returned (.tuple #[iv 0, iv 9])) ∨
      (lightW h N v.toNat ≤ h.ps.length * 100000 ∧ e = .returned (.tuple #[iv (sandOf h (lightW h N v.toNat)).1, iv (sandOf h (lightW h N v.toNat)).2]))) → CountOne (sandOf h) h l v w e w') := Lib.hid fun e w' a b => ⟨a, .inr (.inr ⟨h0, hp, hf, h1, h8, N, hN, b⟩)⟩
    obtain ⟨R, hR⟩ : ∃ R, lightW h N v.toNat = R := ⟨_, rfl⟩
    rw [hR] at hpost hle HFC
    clear hf h0 hp hN hR h1 h8
    rcases hpost with ⟨hlt, rfl⟩ | ⟨hle2, g, bs, br, km, BD, rfl, HD⟩
    · go_wp2_with fail
      go_ret2
      exact HFC.out _ _ HB1.out (.inl ⟨hlt, rfl⟩)
    · have c4 := HD.st.c4
      have := hk.w1
      have := hk.w2
      have hw2 : IntKind.i64.wrap (1000 * h.winch) = 1000 * h.winch := wrap62 _ (by omega) (by omega)
      have hq0 : 0 ≤ (1000 * h.winch).tdiv (R : Int) := Int.tdiv_nonneg (by omega) (by omega)
      have hq1 : (1000 * h.winch).tdiv (R : Int) ≤ 1000 * h.winch := by rw [Int.tdiv_eq_ediv_of_nonneg (by omega)]; exact Int.ediv_le_self _ (by omega)
      have hw3 : IntKind.i64.wrap ((1000 * h.winch).tdiv (R : Int)) = (1000 * h.winch).tdiv (R : Int) := wrap62 _ hq0 (by omega)
      by_cases hgt : 1000 * h.winch < (R : Int)
      · have HWV : Hid (sandOf h R = (0, 9)) := Lib.hid (by unfold sandOf; rw [if_pos hgt])
        clear HD
        go_wp2_with (refine c4 ?_)
        go_ret2
        exact HFC.out _ _ HB1.out (.inr ⟨hle2, by rw [HWV.out]; rfl⟩)
      · by_cases hR0 : R = 0
        · subst hR0
          have HWV : Hid (sandOf h 0 = (2000, 0)) := Lib.hid (by unfold sandOf; rw [if_neg hgt, if_pos rfl])
          clear HD
          go_wp2_with (refine c4 ?_)
          go_ret2
          exact HFC.out _ _ HB1.out (.inr ⟨hle2, by rw [HWV.out]; rfl⟩)
        · have HWV : Hid (sandOf h R = (min 2000 ((1000 * h.winch).tdiv R), 0)) := Lib.hid (by unfold sandOf; rw [if_neg hgt, if_neg hR0])
          have hRz : (R : Int) ≠ 0 := by omega
          have hRb : ((R : Int) == 0) = false := by simpa using hR0
          clear HD
          go_wp2_with (refine c4 ?_)
          go_ret2
          exact HFC.out _ _ HB1.out (.inr ⟨hle2, by rw [HWV.out]; rfl⟩)
end Go.Proofs.Ytojgdallodmanaa

namespace Go.Proofs.Ytojgdallodmanaa
open Go.RowKit Go.Shelf
attribute [local go_sem] Oper.semAt_some

/-- A block that holds parts whole, and may be written. -/
structure PartsAt (w : World) (q : Nat) (ps : List Prt) : Prop where
  rd : RdN 3 encPrt w (q + 1) (some ⟨q, 0, none⟩) ps
  fz : ∀ o, w.frozen? ⟨q, o, none⟩ = false
  lt : q < w.heap.size
theorem PartsAt.below {w w' : World} {q : Nat} {ps : List Prt} (h : PartsAt w q ps) (hb : Below w.heap.size w w') : PartsAt w' q ps :=
  ⟨h.rd.below hb h.lt, fun o => (hb.frozen (p := ⟨q, o, none⟩) h.lt).trans (h.fz o), Nat.lt_of_lt_of_le h.lt hb.size⟩
theorem PartsAt.cells {w : World} {q : Nat} {ps : List Prt} (h : PartsAt w q ps) {i : Nat} {p : Prt} (hp : ps[i]? = some p) :
    w.cell? ⟨q, i * 3, none⟩ = some (.string p.name) ∧ w.cell? ⟨q, i * 3 + 1, none⟩ = some (iv p.lo) ∧ w.cell? ⟨q, i * 3 + 2, none⟩ = some (iv p.hi) := by
  obtain ⟨b, off, e, _, c0, c1, c2⟩ := prtAt h.rd hp
  injection e with e
  injection e with e1 e2
  subst e1 e2
  simp only [Nat.zero_add] at c0 c1 c2
  exact ⟨c0, c1, c2⟩
theorem PartsAt.of {w : World} {q : Nat} {ps : List Prt} (hc : ∀ i p, ps[i]? = some p → w.cell? ⟨q, i * 3, none⟩ = some (.string p.name) ∧ w.cell? ⟨q, i * 3 + 1, none⟩ = some (iv p.lo) ∧ w.cell? ⟨q, i * 3 + 2, none⟩ = some (iv p.hi)) (hf : ∀ o, w.frozen? ⟨q, o, none⟩ = false) (hl : q < w.heap.size) : PartsAt w q ps := by
  refine ⟨fun i p hp => ⟨q, 0, rfl, by omega, fun j u hu => ?_⟩, hf, hl⟩
  obtain ⟨c0, c1, c2⟩ := hc i p hp
  simp only [Nat.zero_add]
  match j, hu with
  | 0, hu => simp only [encPrt, List.getElem?_cons_zero, Option.some.injEq] at hu; rw [← hu]; exact c0
  | 1, hu => simp only [encPrt, List.getElem?_cons_succ, List.getElem?_cons_zero, Option.some.injEq] at hu; rw [← hu]; exact c1
  | 2, hu => simp only [encPrt, List.getElem?_cons_succ, List.getElem?_cons_zero, Option.some.injEq] at hu; rw [← hu]; exact c2
  | j + 3, hu => simp [encPrt] at hu
theorem cell_far {w : World} {q o o' : Nat} {u : Value} (h : o ≠ o') : (w.setCell ⟨q, o', none⟩ u).cell? ⟨q, o, none⟩ = w.cell? ⟨q, o, none⟩ := by
  go_simp
theorem PartsAt.setLo {w : World} {q : Nat} {ps : List Prt} (h : PartsAt w q ps) {i : Nat} {p : Prt} (hp : ps[i]? = some p) (v : Int) : PartsAt (w.setCell ⟨q, i * 3 + 1, none⟩ (iv v)) q (ps.set i ⟨p.name, v, p.hi⟩) := by
  have hlt := (List.getElem?_eq_some_iff.1 hp).1
  refine .of (fun j r hr => ?_) (fun o => by have := h.fz o; go_simp) (by have := h.lt; simpa using this)
  by_cases hij : i = j
  · subst hij
    rw [List.getElem?_set_self hlt] at hr
    injection hr with hr
    subst hr
    obtain ⟨c0, c1, c2⟩ := h.cells hp
    exact ⟨(cell_far (by omega)).trans c0, by go_simp, (cell_far (by omega)).trans c2⟩
  · rw [List.getElem?_set_ne hij] at hr
    obtain ⟨c0, c1, c2⟩ := h.cells hr
    exact ⟨(cell_far (by omega)).trans c0, (cell_far (by omega)).trans c1, (cell_far (by omega)).trans c2⟩
theorem PartsAt.setHi {w : World} {q : Nat} {ps : List Prt} (h : PartsAt w q ps) {i : Nat} {p : Prt} (hp : ps[i]? = some p) (v : Int) : PartsAt (w.setCell ⟨q, i * 3 + 2, none⟩ (iv v)) q (ps.set i ⟨p.name, p.lo, v⟩) := by
  have hlt := (List.getElem?_eq_some_iff.1 hp).1
  refine .of (fun j r hr => ?_) (fun o => by have := h.fz o; go_simp) (by have := h.lt; simpa using this)
  by_cases hij : i = j
  · subst hij
    rw [List.getElem?_set_self hlt] at hr
    injection hr with hr
    subst hr
    obtain ⟨c0, c1, c2⟩ := h.cells hp
    exact ⟨(cell_far (by omega)).trans c0, (cell_far (by omega)).trans c1, by go_simp⟩
  · rw [List.getElem?_set_ne hij] at hr
    obtain ⟨c0, c1, c2⟩ := h.cells hr
    exact ⟨(cell_far (by omega)).trans c0, (cell_far (by omega)).trans c1, (cell_far (by omega)).trans c2⟩
theorem flat_at : ∀ (ps : List Prt) (i : Nat) (p : Prt), ps[i]? = some p → ∀ j, j < 3 → (ps.flatMap encPrt)[i * 3 + j]? = (encPrt p)[j]?
  | [], i, p, hp, j, hj => by simp at hp
  | a :: l, 0, p, hp, j, hj => by
    simp only [List.getElem?_cons_zero, Option.some.injEq] at hp
    subst hp
    rw [List.flatMap_cons, List.getElem?_append_left (by simp [encPrt]; omega), Nat.zero_mul, Nat.zero_add]
  | a :: l, i + 1, p, hp, j, hj => by
    simp only [List.getElem?_cons_succ] at hp
    rw [List.flatMap_cons, List.getElem?_append_right (by simp [encPrt]; omega), ← flat_at l i p hp j hj]
    congr 1
    simp [encPrt]
    omega
theorem PartsAt.own {w : World} {base : Nat} {v : Value} {ps : List Prt} (h : w.ownsRow base 67 3 v ps.length (ps.flatMap encPrt)) (hn : 0 < ps.length) : ∃ q cap, v = .slice (some ⟨q, 0, none⟩) ps.length cap ∧ base ≤ q ∧ ps.length ≤ cap ∧ PartsAt w q ps := by
  obtain ⟨q, cap, e, h1, h2, h3⟩ := own_form h hn
  subst e
  refine ⟨q, cap, rfl, h1, h3, .of (fun i p hp => ?_) (fun o => h.frozenAt o) h2⟩
  have hi := (List.getElem?_eq_some_iff.1 hp).1
  have f0 := flat_at ps i p hp 0 (by omega)
  have f1 := flat_at ps i p hp 1 (by omega)
  have f2 := flat_at ps i p hp 2 (by omega)
  rw [Nat.add_zero] at f0
  exact ⟨(h.cellAt _ (by omega)).trans f0, (h.cellAt _ (by omega)).trans f1, (h.cellAt _ (by omega)).trans f2⟩

/-- The deck whose parts are limited, as the closure of Heaviest sees it. -/
structure LimE (X : World) (BD g q cap : Nat) (n : Nat) (N : List Nd) (bs : List Nat) (br s : Nat) (most : Int) (f8 f5 f9 : Nat) : Prop where
  root : bs[N.length - 1]? = some br
  tab : TabAt X BD N bs
  c0 : X.cell? ⟨g, 0, none⟩ = some (.slice (some ⟨q, 0, none⟩) n cap)
  c5 : X.cell? ⟨g, 5, none⟩ = some (ptr br)
  gB : g < BD
  qB : BD ≤ q
  e8 : X.cell? ⟨f8, 0, none⟩ = some (ptr g)
  e5 : X.cell? ⟨f5, 0, none⟩ = some (nv s)
  e9 : X.cell? ⟨f9, 0, none⟩ = some (iv most)
  n8 : f8 ≠ q
  n5 : f5 ≠ q
  n9 : f9 ≠ q
theorem LimE.only {X Y : World} {BD g q cap : Nat} {n : Nat} {N : List Nd} {bs : List Nat} {br s : Nat} {most : Int} {f8 f5 f9 : Nat} (h : LimE X BD g q cap n N bs br s most f8 f5 f9) (ho : OnlyAt X Y q) : LimE Y BD g q cap n N bs br s most f8 f5 f9 :=
  ⟨h.root, h.tab.only ho h.qB, ho.cell h.c0 (by have := h.gB; have := h.qB; omega), ho.cell h.c5 (by have := h.gB; have := h.qB; omega), h.gB, h.qB, ho.cell h.e8 h.n8, ho.cell h.e5 h.n5, ho.cell h.e9 h.n9, h.n8, h.n5, h.n9⟩
theorem TabAt.more {w : World} {B B' : Nat} {N : List Nd} {bs : List Nat} (h : TabAt w B N bs) (hB : B ≤ B') : TabAt w B' N bs := by
  intro i nd hi
  obtain ⟨b, h1, h2, c0, c1, c2, c3, A, cap, c4, hk⟩ := h i nd hi
  refine ⟨b, h1, by omega, c0, c1, c2, c3, A, cap, c4, fun k j hkj => ?_⟩
  obtain ⟨bb, off, bj, e, hb, hj, hc⟩ := hk k j hkj
  exact ⟨bb, off, bj, e, by omega, hj, hc⟩
def moreF (N : List Nd) (s : Nat) (most : Int) (ps : List Prt) : Bool := (wgh ps N s).2 && decide ((wgh ps N s).1.shi = most)
set_option maxRecDepth 100000 in
set_option maxHeartbeats 4000000 in
theorem more_any {X : World} {BD g q cap : Nat} {N : List Nd} {bs : List Nat} {br s : Nat} {most : Int} {f8 f5 f9 : Nat} {ps : List Prt} (E : LimE X BD g q cap ps.length N bs br s most f8 f5 f9) (hq : PartsAt X q ps) {i : Nat} {p : Prt} (hp : ps[i]? = some p) (k : Nat) (hk : p.lo + k ≤ 100000) (hl : 0 ≤ p.lo)
    (hT : TreeOk (ps.set i ⟨p.name, p.lo, p.lo + k⟩) N) (hs : s < 256) (f11 f12 : Nat) (h11 : X.cell? ⟨f11, 1, none⟩ = some (iv p.lo)) (h12 : X.cell? ⟨f12, 0, none⟩ = some (.pointer (some ⟨q, i * 3 + 1, none⟩))) :
    Calls Try.prog 75 #[nv k, ptr f11, ptr f12, ptr f8, ptr f5, ptr f9] X fun e w' => e = .returned (.bool (moreF N s most (ps.set i ⟨p.name, p.lo, p.lo + k⟩))) ∧ OnlyAt X w' q ∧ PartsAt w' q (ps.set i ⟨p.name, p.lo, p.lo + k⟩) := by
  obtain ⟨d0, d1, d2⟩ := hq.cells hp
  have df := hq.fz (i * 3 + 2)
  obtain ⟨X1, hX1⟩ : ∃ X1, X.setCell ⟨q, i * 3 + 2, none⟩ (iv (p.lo + k)) = X1 := ⟨_, rfl⟩
  have hq1 : PartsAt X1 q (ps.set i ⟨p.name, p.lo, p.lo + k⟩) := by rw [← hX1]; exact hq.setHi hp _
  have ho1 : OnlyAt X X1 q := by rw [← hX1]; exact ⟨rfl, rfl, rfl, by simp, fun k _ hne => Below.heap_setCell _ _ _ _ hne⟩
  have E1 := E.only ho1
  have hw := weigh_any (q + 1) g (some ⟨q, 0, none⟩) cap _ s N bs br X1 hT hs E1.root (E1.tab.more (by have := E.qB; omega)) (by rw [List.length_set]; exact E1.c0) E1.c5 hq1.rd (by have := E.gB; have := E.qB; omega) hq1.lt
  obtain ⟨ps', hps⟩ : ∃ ps', ps.set i ⟨p.name, p.lo, p.lo + k⟩ = ps' := ⟨_, rfl⟩
  rw [hps] at hw hq1 ⊢
  obtain ⟨m, hm⟩ : ∃ m, (wgh ps' N s).1 = m := ⟨_, rfl⟩
  obtain ⟨v, hv⟩ : ∃ v, (wgh ps' N s).2 = v := ⟨_, rfl⟩
  have hmf : moreF N s most ps' = (v && decide (m.shi = most)) := by unfold moreF; rw [hm, hv]
  rw [hm, hv] at hw
  rw [hmf]
  obtain ⟨ma, mb, mc, md⟩ := m
  simp only
  have x8 := E.e8; have x5 := E.e5; have x9 := E.e9
  have y8 := E1.e8; have y5 := E1.e5; have y9 := E1.e9
  have n8 := E.n8; have n5 := E.n5; have n9 := E.n9
  have HW := Lib.hid hw
  have HO1 := Lib.hid ho1
  have HQ1 := Lib.hid hq1
  have hww : IntKind.i64.wrap (p.lo + (k : Int)) = p.lo + (k : Int) := wrap62 _ (by omega) (by omega)
  clear hw ho1 hq1 hmf hm hv hps hT hq E E1
  go_enter Try.func75, Try.ntmps75
  go_wp2_with (refine HW.out ?_)
  refine HW.out.mono ?_
  rintro e w2 ⟨rfl, hb2⟩
  have HB2 := Lib.hid hb2
  have z9 := keepC hb2 y9
  have l9 := lt_of_cell z9
  have z9a : (w2.alloc (.cells #[Value.int IntKind.i64 ma, Value.int IntKind.i64 mb, Value.int IntKind.i64 mc, Value.int IntKind.i64 md] 117)).cell? ⟨f9, 0, none⟩ = some (iv most) := keepA z9 _
  have HR : Hid (∀ W, Below X1.heap.size X1 W → OnlyAt X W q ∧ PartsAt W q ps') := Lib.hid fun W hb => ⟨HO1.out.trans (OnlyAt.of_below hb q), HQ1.out.below hb⟩
  clear hb2 HW HQ1 HO1 hX1
  cases v
  · go_wp2_with fail
    go_ret
    exact ⟨rfl, HR.out _ (belowA HB2.out _)⟩
  · by_cases hmm : md = most
    · subst hmm
      go_wp2_with fail
      go_ret
      exact ⟨by simp, HR.out _ (belowA HB2.out _)⟩
    · have hmb : (md == most) = false := by simpa using hmm
      go_wp2_with fail
      go_ret
      exact ⟨by simp [hmm], HR.out _ (belowA HB2.out _)⟩
end Go.Proofs.Ytojgdallodmanaa

namespace Go.Proofs.Ytojgdallodmanaa
open Go.RowKit Go.Shelf
attribute [local go_sem] Oper.semAt_some

/-- How heavy part i of ps can be, where it alone is moved. -/
def limV (N : List Nd) (s : Nat) (most : Int) (ps : List Prt) (i : Nat) : Int := match ps[i]? with
  | some p => p.lo + searchF (fun k => moreF N s most (ps.set i ⟨p.name, p.lo, p.lo + k⟩)) ((p.hi - p.lo).toNat + 1) 0 (p.hi - p.lo).toNat
  | none => 0
def limStep (ps : List Prt) (i : Nat) (v : Int) : List Prt := match ps[i]? with
  | some p => ps.set i ⟨p.name, v, v⟩
  | none => ps
def limTo (N : List Nd) (s : Nat) (most : Int) (ps : List Prt) : Nat → List Prt
  | 0 => ps
  | i + 1 => limStep (limTo N s most ps i) i (limV N s most (limTo N s most ps i) i)
def limL (N : List Nd) (s : Nat) (most : Int) (ps : List Prt) (n : Nat) : List Int := (List.range n).map fun i => limV N s most (limTo N s most ps i) i
theorem limL_succ (N : List Nd) (s : Nat) (most : Int) (ps : List Prt) (n : Nat) : limL N s most ps (n + 1) = limL N s most ps n ++ [limV N s most (limTo N s most ps n) n] := by
  unfold limL
  rw [List.range_succ, List.map_append]
  rfl
theorem limL_len (N : List Nd) (s : Nat) (most : Int) (ps : List Prt) (n : Nat) : (limL N s most ps n).length = n := by simp [limL]
theorem limTo_len (N : List Nd) (s : Nat) (most : Int) (ps : List Prt) : ∀ i, (limTo N s most ps i).length = ps.length := by
  intro i
  induction i with
  | zero => rfl
  | succ i ih =>
    unfold limTo limStep
    split
    · rw [List.length_set]; exact ih
    · exact ih
theorem limTo_at (N : List Nd) (s : Nat) (most : Int) (ps : List Prt) : ∀ i j, i ≤ j → (limTo N s most ps i)[j]? = ps[j]? := by
  intro i
  induction i with
  | zero => intro j _; rfl
  | succ i ih =>
    intro j hj
    unfold limTo limStep
    split
    · rw [List.getElem?_set_ne (by omega)]; exact ih j (by omega)
    · exact ih j (by omega)
theorem psOk_set {ps : List Prt} (h : PsOk ps) (i : Nat) (p : Prt) (hp : 0 ≤ p.lo ∧ p.lo ≤ p.hi ∧ p.hi ≤ 100000) : PsOk (ps.set i p) := by
  intro q hq
  rcases List.mem_or_eq_of_mem_set hq with h1 | h1
  · exact h q h1
  · rw [h1]; exact hp
theorem limV_bd (N : List Nd) (s : Nat) (most : Int) {ps : List Prt} {i : Nat} {p : Prt} (hp : ps[i]? = some p) (h : p.lo ≤ p.hi) : p.lo ≤ limV N s most ps i ∧ limV N s most ps i ≤ p.hi := by
  unfold limV
  rw [hp]
  simp only
  have := (searchF_le (fun k => moreF N s most (ps.set i ⟨p.name, p.lo, p.lo + k⟩)) ((p.hi - p.lo).toNat + 1) 0 (p.hi - p.lo).toNat (Nat.zero_le _)).2
  omega
theorem limTo_ok (N : List Nd) (s : Nat) (most : Int) {ps : List Prt} (h : PsOk ps) : ∀ i, PsOk (limTo N s most ps i) := by
  intro i
  induction i with
  | zero => exact h
  | succ i ih =>
    unfold limTo limStep
    split
    · rename_i p hp
      have hm := ih p (List.mem_of_getElem? hp)
      have := limV_bd N s most hp hm.2.1
      exact psOk_set ih i _ ⟨by simp only; omega, Int.le_refl _, by simp only; omega⟩
    · exact ih
theorem TreeOk.ps {ps ps' : List Prt} {N : List Nd} (h : TreeOk ps N) (hp : PsOk ps') (hl : ps'.length = ps.length) : TreeOk ps' N := ⟨hp, by rw [hl]; exact h.pl, h.nd, h.n0, h.n7, h.kid⟩

def HeaviestPost (h : Hul) (l : List Wgh) (set : Int) (w : World) (e : Ending) (w' : World) : Prop :=
  Below w.heap.size w w' ∧ ((enterE h l set ≠ 0 ∧ e = .returned (.tuple #[.slice none 0 0, iv (enterE h l set)])) ∨ (enterE h l set = 0 ∧ openPre h l = 0 ∧ Feas h l ∧ blockE h.ps.length h.js set = 0 ∧ ∃ N A cap, IsTree h l N ∧ e = .returned (.tuple #[.slice A h.ps.length cap, iv 0]) ∧
    w'.ownsRow w.heap.size 3 1 (.slice A h.ps.length cap) h.ps.length ((limL N set.toNat (mostV h N set.toNat) h.ps h.ps.length).map iv)))

theorem PartsAt.same {w w' : World} {q : Nat} {ps : List Prt} (h : PartsAt w q ps) (hs : w'.heap[q]? = w.heap[q]?) (hz : q < w'.heap.size) : PartsAt w' q ps :=
  .of (fun i p hp => by
    obtain ⟨c0, c1, c2⟩ := h.cells hp
    exact ⟨(World.cell?_of_block (a := ⟨q, i * 3, none⟩) hs).trans c0, (World.cell?_of_block (a := ⟨q, i * 3 + 1, none⟩) hs).trans c1, (World.cell?_of_block (a := ⟨q, i * 3 + 2, none⟩) hs).trans c2⟩) (fun o => (World.frozen?_of_block (a := ⟨q, o, none⟩) hs).trans (h.fz o)) hz
theorem cutAt {H X : World → Nat → Nat → Prop} {R : Prop} (a : ∀ w5 q cq, H w5 q cq → X w5 q cq) (b : (∀ w5 q cq, H w5 q cq → X w5 q cq) → R) : R := b a
theorem cell_set_ne {w : World} {a p : Addr} {v : Value} (hc : w.cell? p = some v) (hne : a ≠ p) (u : Value) : (w.setCell a u).cell? p = some v := by rw [← hc]; exact World.cell?_setCell_other w a p u hne
theorem TabAt.setSlice {w : World} {B g n cap : Nat} {A : Option Addr} {N : List Nd} {bs : List Nat} (h : TabAt w B N bs) (hg : w.cell? ⟨g, 0, none⟩ = some (.slice A n cap)) (u : Value) : TabAt (w.setCell ⟨g, 0, none⟩ u) B N bs := by
  intro i nd hi
  obtain ⟨b, h1, h2, c0, c1, c2, c3, A', cap', c4, hk⟩ := h i nd hi
  have hbg : g ≠ b := fun e => by subst e; rw [hg] at c0; cases c0
  refine ⟨b, h1, h2, cell_set_ne c0 (fun e => by injection e with e; exact hbg e) u, cell_set_ne c1 (by simp) u, cell_set_ne c2 (by simp) u, cell_set_ne c3 (by simp) u, A', cap', cell_set_ne c4 (by simp) u, fun k j hkj => ?_⟩
  obtain ⟨bb, off, bj, e, hb, hj, hc⟩ := hk k j hkj
  exact ⟨bb, off, bj, e, hb, hj, cell_set_ne hc (fun e => by rw [← e, hg] at hc; cases hc) u⟩
set_option maxRecDepth 100000 in
set_option maxHeartbeats 8000000 in
theorem heaviest_any (h : Hul) (A J : Option Addr) (B cap capJ : Nat) (AL : Option Addr) (l : List Wgh) (capL : Nat) (set : Int) (w : World) (hH : HulRd w B h A cap J capJ) (hL : RdN 3 encWgh w B AL l) (hlc : l.length ≤ capL) (hB : B ≤ w.heap.size) :
    Calls Try.prog 25 #[hv h A cap J capJ, .slice AL l.length capL, iv set] w (HeaviestPost h l set w) := by
  obtain ⟨i0, hi0, hz0, hzz1, hzz2⟩ := info_parts Try.info3
  obtain ⟨W1, hW1, hb0, hz1, p0, p1, p2, p3, p4⟩ := hulBox w h A cap J capJ
  obtain ⟨W2, hW2⟩ : ∃ W2, W1.alloc (.cells #[iv set] 3) = W2 := ⟨_, rfl⟩
  have hb1 : Below w.heap.size w W2 := by rw [← hW2]; exact belowA hb0 _
  have hz2 : W2.heap.size = w.heap.size + 2 := by rw [← hW2]; simp [hz1]
  have hb12 : Below W1.heap.size W1 W2 := by rw [← hW2]; exact belowA (belowR _) _
  have p0 := keepC hb12 p0
  have p1 := keepC hb12 p1
  have p2 := keepC hb12 p2
  have p3 := keepC hb12 p3
  have p4 := keepC hb12 p4
  have q0 : W2.cell? ⟨W1.heap.size, 0, none⟩ = some (iv set) := by rw [← hW2]; clear hW2 hz1 hz2; go_simp
  have hen := enter_any h A J B cap capJ AL l capL set W2 (hH.below hb1 hB) (hL.below hb1 hB) hlc (Nat.le_trans hB hb1.size)
  have HEN := Lib.hid hen
  have HB1 := Lib.hid hb1
  have hz3 : W1.heap.size < W2.heap.size := by omega
  have hz4 : w.heap.size ≤ W1.heap.size := by omega
  clear hen hb1 hb0 hb12 hH hL hz2 hz1
  go_enter Try.func25, Try.ntmps25
  go_wp2_with fail
  refine HEN.out.mono ?_
  rintro e w1 ⟨hb2, hpost⟩
  have q0 := keepC hb2 q0
  have HB2 := Lib.hid (belowT HB1.out hb2)
  have hz5 := hb2.size
  clear hb2 HEN hW1 hW2 HB1 p0 p1 p2 p3 p4
  rcases hpost with ⟨hne, d, rfl⟩ | ⟨h0, hp, hf, hbl, N, g, bs, br, km, BD, hN, rfl, HD⟩
  · obtain ⟨E, hE⟩ : ∃ E, enterE h l set = E := ⟨_, rfl⟩
    have HE := Lib.hid hE
    rw [hE] at hne ⊢
    have hcb : (E == 0) = false := by simpa using hne
    clear hE
    go_wp2_with fail
    go_ret2
    exact ⟨belowA HB2.out _, .inl ⟨by rw [HE.out]; exact hne, by rw [HE.out]; rfl⟩⟩
  · have hk := hulOk (openPre_zero hp).1
    obtain ⟨s, hs, _, hs2, rfl, _⟩ := blockE_zero hk.n8 hbl
    have hT := treeOk_isTree hp hN
    have hn8 := hk.n8
    have hn1 := hk.n1
    obtain ⟨w2, hw2⟩ : ∃ w2, w1.alloc (.cells #[ptr g] 99) = w2 := ⟨_, rfl⟩
    have hbw2 : Below w1.heap.size w1 w2 := by rw [← hw2]; exact belowA (belowR _) _
    have b8 : Blk w2 w1.heap.size 99 #[ptr g] := by rw [← hw2]; exact Blk.new w1 99 _
    have hz6 : w2.heap.size = w1.heap.size + 1 := by rw [← hw2]; simp
    have HD2 : Hid (DeckHere W2 w2 h A cap J capJ N g bs br km BD) := Lib.hid (HD.below hbw2)
    have hmo := most_any HD2.out.st hT HD2.out.kn s hs
    have hg0 := HD.g0
    have hk0 := HD.k0
    obtain ⟨f8, hf8⟩ : ∃ f, w1.heap.size = f := ⟨_, rfl⟩
    obtain ⟨f5, hf5⟩ : ∃ f, W1.heap.size = f := ⟨_, rfl⟩
    have y5 : w2.cell? ⟨f5, 0, none⟩ = some (iv s) := by rw [← hf5]; exact keepC hbw2 q0
    rw [hf8] at b8 hz6
    have HB3 : Hid (Below w.heap.size w w2) := Lib.hid (belowT HB2.out hbw2)
    have hkl := HD.kn.lt
    have hgl : g < w1.heap.size := Nat.lt_of_lt_of_le HD.st.gB HD.st.hB
    have hord : f5 < f8 ∧ W2.heap.size ≤ f8 ∧ w.heap.size ≤ f5 ∧ f5 < W2.heap.size ∧ w.heap.size + 1 ≤ W2.heap.size := by omega
    have HFC : Hid (∀ e w', Below w.heap.size w w' → (∃ A cap, e = .returned (.tuple #[.slice A h.ps.length cap, iv 0]) ∧ w'.ownsRow w.heap.size 3 1 (.slice A h.ps.length cap) h.ps.length ((limL N s (mostV h N s) h.ps h.ps.length).map iv)) → HeaviestPost h l s w e w') := Lib.hid fun e w' a ⟨A, cap, b⟩ => ⟨a, .inr ⟨h0, hp, hf, hbl, N, A, cap, hN, b⟩⟩
    obtain ⟨most, hmost⟩ : ∃ v, mostV h N s = v := ⟨_, rfl⟩
    rw [hmost] at hmo HFC
    have HMO := Lib.hid hmo
    have HT := Lib.hid hT
    have HPO := Lib.hid hT.po
    have B8 := Lib.hid b8
    have Y5 := Lib.hid y5
    rw [hf5] at q0
    have q0w := q0
    clear hmo hp hf hbl h0 hN hT HD hmost hk HB2 b8 y5 hbw2
    have y8 : w2.cell? ⟨f8, 0, none⟩ = some (ptr g) := B8.out.cell 0
    have y5 := Y5.out
    go_wp2_with fail
    refine HMO.out.mono ?_
    rintro e w3 ⟨rfl, ho3, hk3⟩
    have hz7 := ho3.size
    have HD3 : Hid (DeckHere W2 w3 h A cap J capJ N g bs br km BD) := Lib.hid (HD2.out.only ho3 hk3)
    have hnk : f8 ≠ km ∧ f5 ≠ km := by omega
    obtain ⟨w4, hw4⟩ : ∃ w4, w3.alloc (.cells #[iv most] 3) = w4 := ⟨_, rfl⟩
    obtain ⟨f9, hf9⟩ : ∃ f, w3.heap.size = f := ⟨_, rfl⟩
    have hb34 : Below w3.heap.size w3 w4 := by rw [← hw4]; exact belowA (belowR _) _
    have ho4 : OnlyAt w2 w4 km := ho3.trans (OnlyAt.of_below hb34 km)
    have x9 : w4.cell? ⟨f9, 0, none⟩ = some (iv most) := by rw [← hw4, ← hf9]; exact (Blk.new w3 3 #[iv most]).cell 0
    have HD4 : Hid (DeckHere W2 w4 h A cap J capJ N g bs br km BD) := Lib.hid (HD3.out.below hb34)
    have x8 : w4.cell? ⟨f8, 0, none⟩ = some (ptr g) := ho4.cell y8 hnk.1
    have x5 : w4.cell? ⟨f5, 0, none⟩ = some (iv s) := ho4.cell y5 hnk.2
    have xg : w4.cell? ⟨g, 0, none⟩ = some (.slice A h.ps.length cap) := HD4.out.st.c0
    have fg := HD4.out.fz 0
    have hz8 : w4.heap.size = f9 + 1 := by rw [← hw4, ← hf9]; simp
    have hBD4 := HD4.out.st.hB
    have hcl := cloneP_any A h.ps BD cap w4.drew hn8 (HD4.out.st.rp.below (belowDq (belowR w4)) hBD4)
    have HCL := Lib.hid hcl
    have HB4 : Hid (Below w.heap.size w w4) := Lib.hid (ho4.below HB3.out (by omega))
    have hgn : g ≠ f8 ∧ g < f9 := by omega
    clear hcl hb34 ho4 ho3 hk3 HD3 HD2 HB3 y8 y5 B8 Y5 q0 q0w hw2 HMO
    go_wp2_with fail
    refine' cutAt (H := fun w5 q cq => Below w4.heap.size w4 w5 ∧ w4.heap.size ≤ q ∧ h.ps.length ≤ cq ∧ PartsAt w5 q h.ps) ?main ?reg
    case reg =>
      intro KEY
      have HKEY := Lib.hid KEY
      clear KEY
      go_region_with (go_at_call 73; (with_reducible refine HCL.out.mono ?_); rintro e w5 ⟨v5, rfl, hown5, hb5⟩; obtain ⟨q, cq, rfl, hq1, hq2, hq3⟩ := PartsAt.own hown5 hn1; have u8 := keepC (undrew0 hb5) x8; have ug := keepC (undrew0 hb5) xg; have vg : w5.frozen? ⟨g, 0, none⟩ = false := (keepF (undrew0 hb5) xg).trans fg)
      all_goals exact HKEY.out w5 q cq ⟨undrew0 hb5, hq1, hq2, hq3⟩
    case main =>
      intro w5 q cq ⟨hb5, hq1, hq2, hq3⟩
      (try dsimp only)
      obtain ⟨W6, hW6⟩ : ∃ W6, w5.setCell ⟨g, 0, none⟩ (.slice (some ⟨q, 0, none⟩) h.ps.length cq) = W6 := ⟨_, rfl⟩
      have ho56 : OnlyAt w5 W6 g := by rw [← hW6]; exact ⟨rfl, rfl, rfl, by simp, fun k _ hne => Below.heap_setCell _ _ _ _ hne⟩
      have hz9 := hb5.size
      have hz10 := ho56.size
      have HD5 := HD4.out.st.below hb5
      have hql := hq3.lt
      have hPA : PartsAt W6 q h.ps := .of (fun i p hp => by
        obtain ⟨c0, c1, c2⟩ := hq3.cells hp
        exact ⟨ho56.cell c0 (by omega), ho56.cell c1 (by omega), ho56.cell c2 (by omega)⟩) (fun o => (ho56.frozen o hq3.lt (by omega)).trans (hq3.fz o)) (by omega)
      have hg6 : W6.cell? ⟨g, 0, none⟩ = some (.slice (some ⟨q, 0, none⟩) h.ps.length cq) := by rw [← hW6]; exact World.cell?_setCell_same _ _ _ HD5.c0
      have hE : LimE W6 BD g q cq h.ps.length N bs br s most f8 f5 f9 := by
        refine ⟨HD5.root, ?_, hg6, ?_, HD5.gB, by omega, ho56.cell (keepC hb5 x8) (by omega), ho56.cell (keepC hb5 x5) (by omega), ho56.cell (keepC hb5 x9) (by omega), by omega, by omega, by omega⟩
        · rw [← hW6]; exact HD5.tab.setSlice HD5.c0 _
        · rw [← hW6]; exact cell_set_ne HD5.c5 (by simp) _
      have HB6 : Hid (Below w.heap.size w W6) := Lib.hid (by
        have := belowT HB4.out hb5
        rw [← hW6]
        exact belowS this (show w.heap.size ≤ g by omega) _)
      have HE := Lib.hid hE
      have HPA := Lib.hid hPA
      have e8 := hE.e8
      have e5 := hE.e5
      rw [hW6]
      clear hq3 HD5 ho56 hb5 hW6 hPA hE HB4 HD4 x8 x5 x9 xg fg HCL hw4
      go_wp2_with fail
      have hq6 : q < W6.heap.size := by omega
      have hord2 : f8 < f9 ∧ f9 < q ∧ w.heap.size ≤ q := by omega
      clear hg6 e8 e5 hql hz9 hz10 hq1 hz8 hf9 hz7 hBD4 hgn
      go_loopw [6, 43] (fun vv vi wr => ∃ (k : Nat) (vo : Value), k ≤ h.ps.length ∧ vi = .int .i64 k ∧ vo = vv ∧ Hid (wr.ownsRow W6.heap.size 3 1 vo k ((limL N s most h.ps k).map iv)) ∧ Hid (OnlyAt W6 wr q) ∧ Hid (PartsAt wr q (limTo N s most h.ps k))) (fun _ vi _ => h.ps.length - (intOf vi).toNat)
      case atStart => exact ⟨0, _, Nat.zero_le _, rfl, rfl, Lib.hid (World.ownsRow_nil _ _ _ _), Lib.hid (OnlyAt.refl W6 q), HPA⟩
      case round =>
        obtain ⟨k, vo, hkk, rfl, rfl, HO, HA, HP⟩ := hrel
        have hzr := HA.out.size
        by_cases hlt : k < h.ps.length
        · obtain ⟨p, hp⟩ : ∃ p, h.ps[k]? = some p := ⟨_, List.getElem?_eq_getElem hlt⟩
          have hpk : (limTo N s most h.ps k)[k]? = some p := (limTo_at N s most h.ps k k (Nat.le_refl k)).trans hp
          have hpo := HPO.out p (List.mem_of_getElem? hp)
          have hsn := limL_succ N s most h.ps k
          have htn : limTo N s most h.ps (k + 1) = (limTo N s most h.ps k).set k ⟨p.name, limV N s most (limTo N s most h.ps k) k, limV N s most (limTo N s most h.ps k) k⟩ := by
            rw [limTo, limStep, hpk]
          have hvb := limV_bd N s most hpk hpo.2.1
          have hlen := limTo_len N s most h.ps k
          have hTk := HT.out.ps (limTo_ok N s most HPO.out k) hlen
          have hvv : limV N s most (limTo N s most h.ps k) k = p.lo + searchF (fun j => moreF N s most ((limTo N s most h.ps k).set k ⟨p.name, p.lo, p.lo + j⟩)) ((p.hi - p.lo).toNat + 1) 0 (p.hi - p.lo).toNat := by
            conv => lhs; unfold limV
            rw [hpk]
          obtain ⟨pk, hpkk⟩ : ∃ pk, limTo N s most h.ps k = pk := ⟨_, rfl⟩
          rw [hpkk] at hpk hsn htn hvb hlen hTk hvv HP
          obtain ⟨v, hv⟩ : ∃ v, limV N s most pk k = v := ⟨_, rfl⟩
          rw [hv] at hsn htn hvb hvv
          obtain ⟨c0, c1, c2⟩ := HP.out.cells hpk
          have E := HE.out.only HA.out
          have x8 := E.e8
          have xg := E.c0
          have HSN := Lib.hid hsn
          have HTN := Lib.hid htn
          have HVV := Lib.hid hvv
          clear hsn htn hvv hv hpkk
          have x8a : (wr.alloc (.cells #[.string p.name, .int .i64 p.lo, .int .i64 p.hi] 67)).cell? ⟨f8, 0, none⟩ = some (ptr g) := keepA x8 _
          have xga : (wr.alloc (.cells #[.string p.name, .int .i64 p.lo, .int .i64 p.hi] 67)).cell? ⟨g, 0, none⟩ = some (.slice (some ⟨q, 0, none⟩) h.ps.length cq) := keepA xg _
          have l8 := lt_of_cell x8
          have lg := lt_of_cell xg
          have lq := HP.out.lt
          obtain ⟨f11, hf11⟩ : ∃ f, wr.heap.size = f := ⟨_, rfl⟩
          obtain ⟨wa, hwa⟩ : ∃ wa, (wr.alloc (.cells #[.string p.name, .int .i64 p.lo, .int .i64 p.hi] 67)).alloc (.cells #[.pointer (some ⟨q, k * 3 + 1, none⟩)] 114) = wa := ⟨_, rfl⟩
          have hba : Below wr.heap.size wr wa := by rw [← hwa]; exact belowA (belowA (belowR _) _) _
          have b11 : Blk wa f11 67 #[.string p.name, iv p.lo, iv p.hi] := by rw [← hwa, ← hf11]; exact (Blk.new wr 67 _).alloc _
          have b12 : Blk wa (f11 + 1) 114 #[.pointer (some ⟨q, k * 3 + 1, none⟩)] := by
            rw [← hwa, ← hf11]
            have := Blk.new (wr.alloc (.cells #[.string p.name, .int .i64 p.lo, .int .i64 p.hi] 67)) 114 #[.pointer (some ⟨q, k * 3 + 1, none⟩)]
            rwa [World.size_alloc] at this
          have hza : wa.heap.size = f11 + 2 := by rw [← hwa, ← hf11]; simp
          have od : OnlyAt wr wa.drew q := (OnlyAt.of_below hba q).drew
          have Ea := E.only od
          have Pa := HP.out.below (belowDq hba)
          have n11 : f11 ≠ q := by omega
          have n12 : f11 + 1 ≠ q := by omega
          obtain ⟨d, hd⟩ : ∃ d : Nat, (p.hi - p.lo).toNat = d := ⟨_, rfl⟩
          have hsub : IntKind.i64.wrap (p.hi - p.lo) = (d : Int) := by
            have : p.hi - p.lo = (d : Int) := by omega
            rw [this]; exact wrap62 _ (by omega) (by omega)
          have hse := search75_any (ptr f11) (ptr (f11 + 1)) (ptr f8) (ptr f5) (ptr f9) (fun j => moreF N s most (pk.set k ⟨p.name, p.lo, p.lo + j⟩)) (fun X => OnlyAt wa.drew X q ∧ ∃ v, PartsAt X q (pk.set k ⟨p.name, p.lo, v⟩)) d wa.drew (by omega)
            ⟨OnlyAt.refl _ _, p.hi, by
              have : pk.set k ⟨p.name, p.lo, p.hi⟩ = pk := List.ext_getElem? (fun j => by
                by_cases hj : k = j
                · subst hj; rw [List.getElem?_set_self (by omega), hpk]
                · rw [List.getElem?_set_ne hj])
              rw [this]; exact Pa⟩
            (fun W j hW hj => by
              obtain ⟨hWo, v', hW⟩ := hW
              have hEW := Ea.only hWo
              have hat : (pk.set k ⟨p.name, p.lo, v'⟩)[k]? = some ⟨p.name, p.lo, v'⟩ := List.getElem?_set_self (by omega)
              have hlw : (pk.set k (⟨p.name, p.lo, v'⟩ : Prt)).length = h.ps.length := by rw [List.length_set, hlen]
              have hTj : TreeOk ((pk.set k ⟨p.name, p.lo, v'⟩).set k ⟨p.name, p.lo, p.lo + j⟩) N := by
                rw [List.set_set]
                exact hTk.ps (psOk_set hTk.po k _ ⟨hpo.1, by simp only; omega, by simp only; omega⟩) (by rw [List.length_set])
              have := more_any (cap := cq) (ps := pk.set k ⟨p.name, p.lo, v'⟩) (by rw [hlw]; exact hEW) hW hat j (by simp only; omega) hpo.1 hTj hs f11 (f11 + 1) (hWo.cell (b11.cell 1) n11) (hWo.cell (b12.cell 0) n12)
              rw [List.set_set] at this
              exact this.mono (fun e w' hp => ⟨hp.1, hWo.trans hp.2.1, _, hp.2.2⟩))
          rw [hd] at HVV
          obtain ⟨R, hR⟩ : ∃ R, searchF (fun j => moreF N s most (pk.set k ⟨p.name, p.lo, p.lo + j⟩)) (d + 1) 0 d = R := ⟨_, rfl⟩
          rw [hR] at hse HVV
          have hvR := HVV.out
          have hadd : IntKind.i64.wrap (p.lo + (R : Int)) = v := by rw [← hvR]; exact wrap62 _ (by omega) (by omega)
          have HSE := Lib.hid hse
          have HC : Hid (∀ W, OnlyAt wa.drew W q → W.cell? ⟨f11, 1, none⟩ = some (iv p.lo) ∧ W.cell? ⟨f11, 2, none⟩ = some (iv p.hi)) := Lib.hid fun W ho => ⟨ho.cell (b11.cell 1) n11, ho.cell (b11.cell 2) n11⟩
          have HEA := Lib.hid Ea
          have HBA := Lib.hid hba
          have HPS := Lib.hid hp
          have B12 := Lib.hid b12
          have HOR := Lib.hid (OnlyAt.refl wa.drew q)
          have hkl8 : k < pk.length := by omega
          clear hse hR hvR Ea E Pa od b11 b12 hba HVV hp hpk hTk
          go_wp2_with fail
          go_region_held3 (fun W => W.cell? ⟨f11, 1, none⟩ = some (iv p.lo) ∧ W.cell? ⟨f11, 2, none⟩ = some (iv p.hi)) (first | exact HC.out wa.drew HOR.out | exact HC.out w7 ho7) ((go_at_call 74; (with_reducible refine HSE.out.mono ?_); rintro e w7 ⟨rfl, ho7, v7, hp7⟩))
          have hat7 : (pk.set k (⟨p.name, p.lo, v7⟩ : Prt))[k]? = some ⟨p.name, p.lo, v7⟩ := List.getElem?_set_self hkl8
          obtain ⟨d0, d1, d2⟩ := hp7.cells hat7
          have df1 := hp7.fz (k * 3 + 1)
          have df2 := hp7.fz (k * 3 + 2)
          have hp8 := (hp7.setLo hat7 v)
          rw [List.set_set] at hp8
          have hp9 := (hp8.setHi (List.getElem?_set_self hkl8) v)
          rw [List.set_set] at hp9
          obtain ⟨w9, hw9⟩ : ∃ w9, (w7.setCell ⟨q, k * 3 + 1, none⟩ (iv v)).setCell ⟨q, k * 3 + 2, none⟩ (iv v) = w9 := ⟨_, rfl⟩
          rw [hw9] at hp9
          have ho79 : OnlyAt w7 w9 q := by
            rw [← hw9]
            exact ⟨rfl, rfl, rfl, by simp, fun j _ hne => (Below.heap_setCell _ _ _ _ hne).trans (Below.heap_setCell _ _ _ _ hne)⟩
          have y12 : w7.cell? ⟨f11 + 1, 0, none⟩ = some (.pointer (some ⟨q, k * 3 + 1, none⟩)) := ho7.cell (B12.out.cell 0) n12
          have HA9 : Hid (OnlyAt W6 w9 q) := Lib.hid (HA.out.trans (((OnlyAt.of_below HBA.out q).drew).trans (ho7.trans ho79)))
          have HO9 : Hid (w9.ownsRow W6.heap.size 3 1 vo k ((limL N s most h.ps k).map iv)) := Lib.hid (own_only (own_below HO.out HBA.out) ((OnlyAt.refl wa q).drew.trans (ho7.trans ho79)) hq6)
          have HP9 := Lib.hid hp9
          have hz9 : W6.heap.size ≤ w9.heap.size := HA9.out.size
          clear ho7 ho79 hp7 hp8 hp9 hat7 HA HO HP HC HSE HEA HOR HBA x8 xg x8a xga c0 c1 c2
          have HAL := Lib.hid (HO9.out.alloc (.cells #[iv v] 3))
          go_wp2_with (at_builtin; refine wpList_append_own _ rfl _ _ 40 rfl W6.heap.size 3 i0 (.int .i64 0) 1 8 Try.underlying40 hi0 hz0 hzz1 hzz2 rfl (by decide) _ _ _ rfl HAL.out ⟨w9.heap.size, 0, none⟩ 1 1 [iv v] rfl rfl ?d1 ?d2 ?d3 ?d4 ?d5 ?_)
          case d2 => simp [Value.oneCell']
          case d3 => unfold maxLen; omega
          case d4 => omega
          case d5 => first | omega | (simp; omega)
          intro v10 w10 hown10 hg10 _
          have hq9 : q < w9.heap.size := HP9.out.lt
          have hA10 : OnlyAt W6 w10 q := (HA9.out.trans (OnlyAt.of_below (belowA (belowR w9) _) q)).grown HAL.out hg10 (Nat.le_refl _)
          have hP10 : PartsAt w10 q (pk.set k ⟨p.name, v, v⟩) := (HP9.out.below (belowA (belowR w9) _)).same (hg10.block q (by simp only [World.size_alloc]; omega) (fun e => by have := (HAL.out.lt q e.symm).1; omega)) (by have := hg10.size; simp only [World.size_alloc] at this; omega)
          have HO10 := Lib.hid hown10
          have HA10 := Lib.hid hA10
          have HP10 := Lib.hid hP10
          clear hown10 hg10 hA10 hP10 HAL hw9 d0 d1 d2 df1 df2 y12
          go_wp2_with fail
          exact ⟨⟨k + 1, _, by omega, by go_num, rfl, Lib.hid (by rw [HSN.out, List.map_append]; exact HO10.out), HA10, Lib.hid (by rw [HTN.out]; exact HP10.out)⟩, by simp [intOf]; omega⟩
        · obtain rfl : k = h.ps.length := by omega
          obtain ⟨gg, cc, rfl, _, _, _⟩ := own_form HO.out (by omega)
          go_wp2_with fail
          go_ret2
          exact HFC.out _ _ (HA.out.below HB6.out (by omega)) ⟨_, cc, rfl, own_base HO.out HB6.out.size⟩
end Go.Proofs.Ytojgdallodmanaa

namespace Go.Proofs.Ytojgdallodmanaa
open Go.RowKit Go.Shelf
attribute [local go_sem] Oper.semAt_some

theorem flat_atG {α : Type} {k : Nat} {encs : α → List Value} (he : ∀ x, (encs x).length = k) : ∀ (xs : List α) (i : Nat) (x : α), xs[i]? = some x → ∀ j, j < k → (xs.flatMap encs)[i * k + j]? = (encs x)[j]?
  | [], i, p, hp, j, hj => by simp at hp
  | a :: l, 0, p, hp, j, hj => by
    simp only [List.getElem?_cons_zero, Option.some.injEq] at hp
    subst hp
    rw [List.flatMap_cons, List.getElem?_append_left (by rw [he]; omega), Nat.zero_mul, Nat.zero_add]
  | a :: l, i + 1, p, hp, j, hj => by
    simp only [List.getElem?_cons_succ] at hp
    have e : (i + 1) * k + j = k + (i * k + j) := by rw [Nat.succ_mul]; omega
    rw [List.flatMap_cons, List.getElem?_append_right (by rw [he]; omega), ← flat_atG he l i p hp j hj, he, e, Nat.add_sub_cancel_left]
theorem Blk.rdN {α : Type} {k : Nat} {encs : α → List Value} (he : ∀ x, (encs x).length = k) {w : World} {b B : Nat} {t : TypeId} {xs : List α} (h : Blk w b t (xs.flatMap encs).toArray) (hB : b < B) : RdN k encs w B (some ⟨b, 0, none⟩) xs := by
  intro i x hx
  refine ⟨b, 0, rfl, hB, fun j u hu => ?_⟩
  have hj : j < k := by rw [← he x]; exact (List.getElem?_eq_some_iff.1 hu).1
  rw [Nat.zero_add, h.cell]
  have := flat_atG he xs i x hx j hj
  rw [← hu, ← this]
  simp
def hul7 : Hul := ⟨[⟨⟨#[97]⟩, 100, 120⟩, ⟨⟨#[98]⟩, 200, 220⟩, ⟨⟨#[99]⟩, 50, 60⟩, ⟨⟨#[100]⟩, 300, 330⟩], [(0, 1), (1, 2), (2, 3)], 500, 600, 220⟩
def wgh7 : List Wgh := [⟨12, 350, 360⟩]
theorem weighed_any (w : World) : Calls Try.prog 37 #[] w fun e w' => Below w.heap.size w w' ∧ ∃ A, e = .returned (.slice A 1 1) ∧ RdN 3 encWgh w' w'.heap.size A wgh7 := by
  have HS := Lib.hid fun (W : World) => span_any 350 360 W
  go_enter Try.func37, Try.ntmps37
  go_wp2_with fail
  refine (HS.out w).mono ?_
  rintro e w1 ⟨rfl, hb⟩
  have HB := Lib.hid hb
  clear hb HS
  go_wp2_with fail
  go_ret
  refine ⟨belowA HB.out _, some ⟨w1.heap.size, 0, none⟩, rfl, ?_⟩
  exact Blk.rdN encWgh_len (xs := wgh7) (Blk.new w1 82 _) (by simp)
theorem hull_any (w : World) : Calls Try.prog 36 #[] w fun e w' => Below w.heap.size w w' ∧ ∃ A J, e = .returned (hv hul7 A 4 J 3) ∧ HulRd w' w'.heap.size hul7 A 4 J 3 := by
  have HS := Lib.hid span_any
  go_enter Try.func36, Try.ntmps36
  obtain ⟨W0, hW0⟩ : ∃ W0, w.alloc (.cells #[.slice none 0 0, .slice none 0 0, .int .i64 0, .int .i64 0, .int .i64 0] 27) = W0 := ⟨_, rfl⟩
  have b0 : Blk W0 w.heap.size 27 #[.slice none 0 0, .slice none 0 0, .int .i64 0, .int .i64 0, .int .i64 0] := by rw [← hW0]; exact Blk.new w 27 _
  have B0 := Lib.hid b0
  have HBW : Hid (Below w.heap.size w W0) := Lib.hid (by rw [← hW0]; exact belowA (belowR w) _)
  have hz0 : W0.heap.size = w.heap.size + 1 := by rw [← hW0]; simp
  clear b0
  go_wp2_with fail
  refine (HS.out _ _ _).mono ?_
  rintro e w1 ⟨rfl, hb1⟩
  have HB1 := Lib.hid hb1
  have k1 := hb1.size
  clear hb1 hW0
  go_wp2_with fail
  refine (HS.out _ _ _).mono ?_
  rintro e w2 ⟨rfl, hb2⟩
  have HB2 := Lib.hid (belowT HB1.out hb2)
  have k2 := hb2.size
  clear hb2
  go_wp2_with fail
  refine (HS.out _ _ _).mono ?_
  rintro e w3 ⟨rfl, hb3⟩
  have HB3 := Lib.hid (belowT HB2.out hb3)
  have k3 := hb3.size
  clear hb3
  go_wp2_with fail
  refine (HS.out _ _ _).mono ?_
  rintro e w4 ⟨rfl, hb4⟩
  have HB4 := Lib.hid (belowT HB3.out hb4)
  have k4 := hb4.size
  clear hb4
  obtain ⟨W5, hW5⟩ : ∃ W5, (w4.alloc (.cells #[.string ⟨#[97]⟩, .int .i64 100, .int .i64 120, .string ⟨#[98]⟩, .int .i64 200, .int .i64 220, .string ⟨#[99]⟩, .int .i64 50, .int .i64 60, .string ⟨#[100]⟩, .int .i64 300, .int .i64 330] 67)).alloc (.cells #[.int .i64 0, .int .i64 1, .int .i64 1, .int .i64 2, .int .i64 2, .int .i64 3] 79) = W5 := ⟨_, rfl⟩
  have bp : Blk W5 w4.heap.size 67 (hul7.ps.flatMap encPrt).toArray := by rw [← hW5]; exact (Blk.new w4 67 _).alloc _
  have bj : Blk W5 (w4.heap.size + 1) 79 (hul7.js.flatMap encSp).toArray := by
    rw [← hW5]
    have := Blk.new (w4.alloc (.cells #[.string ⟨#[97]⟩, .int .i64 100, .int .i64 120, .string ⟨#[98]⟩, .int .i64 200, .int .i64 220, .string ⟨#[99]⟩, .int .i64 50, .int .i64 60, .string ⟨#[100]⟩, .int .i64 300, .int .i64 330] 67)) 79 (hul7.js.flatMap encSp).toArray
    rwa [World.size_alloc] at this
  have hb45 : Below w4.heap.size w4 W5 := by rw [← hW5]; exact belowA (belowA (belowR w4) _) _
  have hz5 : W5.heap.size = w4.heap.size + 2 := by rw [← hW5]; simp
  have HB5 := Lib.hid (belowT HB4.out hb45)
  have BP := Lib.hid bp
  have BJ := Lib.hid bj
  clear hb45 bp bj
  go_wp2_with fail
  refine (HS.out _ _ _).mono ?_
  rintro e w6 ⟨rfl, hb6⟩
  have b0 : Blk w6 w.heap.size 27 #[.slice none 0 0, .slice none 0 0, .int .i64 0, .int .i64 0, .int .i64 0] := (B0.out.same (HB5.out.block _ B0.out.lt)).same (hb6.block _ (by omega))
  have bp := BP.out.same (hb6.block _ BP.out.lt)
  have bj := BJ.out.same (hb6.block _ BJ.out.lt)
  have hb := belowT (belowT HBW.out HB5.out) hb6
  have hz6 := hb6.size
  have d0 := b0.cell 0
  have d1 := b0.cell 1
  have d2 := b0.cell 2
  have d3 := b0.cell 3
  have d4 := b0.cell 4
  have f0 := b0.frozen 0
  have f1 := b0.frozen 1
  have f2 := b0.frozen 2
  have f3 := b0.frozen 3
  have f4 := b0.frozen 4
  have BP := Lib.hid bp
  have BJ := Lib.hid bj
  have HB := Lib.hid hb
  have B6 := Lib.hid b0
  clear hb6 b0 bp bj hb hW5 HS HB1 HB2 HB3 HB4 HB5
  go_wp2_with fail
  obtain ⟨pb, hpb⟩ : ∃ b, w4.heap.size = b := ⟨_, rfl⟩
  obtain ⟨tb, htb⟩ : ∃ b, w.heap.size = b := ⟨_, rfl⟩
  rw [hpb, htb]
  have hl1 : w.heap.size < pb := by omega
  rw [hpb] at BP BJ
  have HB' := HB.out
  have B6' := B6.out
  rw [htb] at HB' B6' hl1
  obtain ⟨wx, hwx⟩ : ∃ wx, (((((w6.setCell ⟨tb, 0, none⟩ (.slice (some ⟨pb, 0, none⟩) 4 4)).setCell ⟨tb, 1, none⟩ (.slice (some ⟨pb + 1, 0, none⟩) 3 3)).setCell ⟨tb, 2, none⟩ (.int .i64 500)).setCell ⟨tb, 3, none⟩ (.int .i64 600)).setCell ⟨tb, 4, none⟩ (.int .i64 220)) = wx := ⟨_, rfl⟩
  have bx : Blk wx tb 27 #[.slice (some ⟨pb, 0, none⟩) 4 4, .slice (some ⟨pb + 1, 0, none⟩) 3 3, .int .i64 500, .int .i64 600, .int .i64 220] := by
    rw [← hwx]
    exact ((((B6'.set_ 0 _).set_ 1 _).set_ 2 _).set_ 3 _).set_ 4 _
  have bp : Blk wx pb 67 (hul7.ps.flatMap encPrt).toArray := by
    rw [← hwx]
    exact ((((BP.out.far (by simp only; omega) _).far (by simp only; omega) _).far (by simp only; omega) _).far (by simp only; omega) _).far (by simp only; omega) _
  have bj : Blk wx (pb + 1) 79 (hul7.js.flatMap encSp).toArray := by
    rw [← hwx]
    exact ((((BJ.out.far (by simp only; omega) _).far (by simp only; omega) _).far (by simp only; omega) _).far (by simp only; omega) _).far (by simp only; omega) _
  have hbx : Below tb w wx := by
    rw [← hwx]
    have hle : ∀ o, tb ≤ (⟨tb, o, none⟩ : Addr).block := fun _ => Nat.le_refl _
    exact ((((HB'.setCell (hle 0) _).setCell (hle 1) _).setCell (hle 2) _).setCell (hle 3) _).setCell (hle 4) _
  have y0 : wx.cell? ⟨tb, 0, none⟩ = some (.slice (some ⟨pb, 0, none⟩) 4 4) := bx.cell 0
  have y1 : wx.cell? ⟨tb, 1, none⟩ = some (.slice (some ⟨pb + 1, 0, none⟩) 3 3) := bx.cell 1
  have y2 : wx.cell? ⟨tb, 2, none⟩ = some (.int .i64 500) := bx.cell 2
  have y3 : wx.cell? ⟨tb, 3, none⟩ = some (.int .i64 600) := bx.cell 3
  have y4 : wx.cell? ⟨tb, 4, none⟩ = some (.int .i64 220) := bx.cell 4
  rw [hwx]
  clear hwx
  refine bodyPost_ret (v := hv hul7 (some ⟨pb, 0, none⟩) 4 (some ⟨pb + 1, 0, none⟩) 3) (by simp [results, Try.results36, go_sem, y0, y1, y2, y3, y4, hul7]) rfl ?_
  refine ⟨hbx, _, _, rfl, Blk.rdN encPrt_len bp bp.lt, Blk.rdN encSp_len bj bj.lt, by decide, by decide, by decide, by decide, ?_⟩
  intro p hp
  simp only [hul7, List.mem_cons, List.not_mem_nil, or_false] at hp
  rcases hp with rfl | rfl | rfl | rfl <;> decide
end Go.Proofs.Ytojgdallodmanaa
