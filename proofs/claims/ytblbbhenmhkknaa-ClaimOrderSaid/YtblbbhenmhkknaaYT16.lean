/- ClaimOrder: the law, of any estate, truth and order. -/
import Derived.Test.YtblbbhenmhkknaaYR2
import Derived.Test.YtblbbhenmhkknaaYT15
import Derived.Test.YtblbbhenmhkknaaYL5
namespace Go.Proofs.Ytblbbhenmhkknaa
open Go.RowKit

def encI (x : Int) : List Value := [iv x]
def encN (x : Nat) : List Value := [iv (x : Int)]
theorem encI_len (x : Int) : (encI x).length = 1 := rfl
theorem encN_len (x : Nat) : (encN x).length = 1 := rfl
theorem encI_one (x : Int) : ∀ u ∈ encI x, u.oneCell' = true := by
  intro u hu
  simp [encI] at hu
  subst hu
  rfl
theorem encN_one (x : Nat) : ∀ u ∈ encN x, u.oneCell' = true := by
  intro u hu
  simp [encN] at hu
  subst hu
  rfl
theorem encClm_one (x : Clm) : ∀ u ∈ encClm x, u.oneCell' = true := by
  intro u hu
  simp [encClm] at hu
  rcases hu with rfl | rfl | rfl | rfl <;> rfl
theorem step_row {α : Type} {enc : α → List Value} {k lo p i : Nat} {e : TypeId} {xs : List α} {x : α} {V W : World} {v' : Value} {X : List Value} (he : ∀ x, (enc x).length = k) (hX : X = enc x) (hxl : xs.length = i) (hp : p ≤ i) (hlo : lo ≤ V.heap.size)
    (hL : LiveB V W [some ⟨v', e, k, 0 + p + 1 + (i - p), [] ++ (xs.take p).flatMap enc ++ X ++ (xs.drop p).flatMap enc⟩, none, none, none]) : ∃ A cap, v' = .slice A (i + 1) cap ∧ RowR lo k enc W A cap (putN xs p x) := by
  subst hX
  have ho : W.ownsRow V.heap.size e k v' (0 + p + 1 + (i - p)) ([] ++ (xs.take p).flatMap enc ++ enc x ++ (xs.drop p).flatMap enc) := live_own hL.2 (i := 0) rfl
  have hl : (putN xs p x).length = i + 1 := by rw [putN_len, hxl]
  have ho2 := ownsRow_base2 ho hlo
  obtain ⟨A, cap, h1, h2⟩ := RowR.of_own (xs := putN xs p x) he ho2 (by omega) (by unfold putN; simp [List.flatMap_append]) (by omega)
  exact ⟨A, cap, by rw [h1, hl], h2⟩
theorem putC {cs : List Clm} {fr : List Nat} {p i : Nat} {c : Clm} (h : cs[i]? = some c) : putN (selC cs fr) p c = selC cs (putN fr p i) := by
  have : c = cs.getD i ⟨⟨#[]⟩, 0, 0, 0⟩ := by rw [List.getD_eq_getElem?_getD, h]; rfl
  rw [this]
  exact putN_map (fun j => cs.getD j ⟨⟨#[]⟩, 0, 0, 0⟩) fr p i
theorem putI {ds : List Int} {fr : List Nat} {p i : Nat} {d : Int} (h : ds[i]? = some d) : putN (selI ds fr) p d = selI ds (putN fr p i) := by
  have : d = ds.getD i 0 := by rw [List.getD_eq_getElem?_getD, h]; rfl
  rw [this]
  exact putN_map (fun j => ds.getD j 0) fr p i
theorem RowR.at1 {α : Type} {enc : α → Value} {lo : Nat} {w : World} {A : Option Addr} {cap : Nat} {xs : List α} (h : RowR lo 1 (fun x => [enc x]) w A cap xs) : Rd1 enc w w.heap.size A xs := by
  intro i x hx
  obtain ⟨b, off, e, hb, hc⟩ := h.rd i x hx
  exact ⟨b, off, e, hb, by have := hc 0 _ rfl; simpa using this⟩

theorem setC_other {w : World} {g o o' : Nat} {u v : Value} (h : w.cell? ⟨g, o', none⟩ = some v) (hne : o' ≠ o) : (w.setCell ⟨g, o, none⟩ u).cell? ⟨g, o', none⟩ = some v :=
  (World.cell?_setCell_other _ ⟨g, o, none⟩ ⟨g, o', none⟩ _ (fun e => hne (by injection e with _ e; exact e.symm))).trans h
theorem setC_same {w : World} {g o : Nat} {u v : Value} (h : w.cell? ⟨g, o, none⟩ = some v) : (w.setCell ⟨g, o, none⟩ u).cell? ⟨g, o, none⟩ = some u := World.cell?_setCell_same w ⟨g, o, none⟩ u h

structure OrdInv (g8 g9 L : Nat) (V wr : World) (lo hi P : Int) (cs : List Clm) (ds : List Int) (i : Nat) (fr : List Nat) (A8 A9 A10 : Option Addr) (c8 c9 c10 : Nat) : Prop where
  pm : fr.Perm (List.range i)
  a0 : wr.cell? ⟨g8, 0, none⟩ = some (.int .i64 lo)
  a1 : wr.cell? ⟨g8, 1, none⟩ = some (.int .i64 hi)
  a2 : wr.cell? ⟨g8, 2, none⟩ = some (.slice A8 i c8)
  b0 : wr.cell? ⟨g9, 0, none⟩ = some (.int .i64 P)
  b1 : wr.cell? ⟨g9, 1, none⟩ = some (.slice A9 i c9)
  f8 : ∀ o, wr.frozen? ⟨g8, o, none⟩ = false
  f9 : ∀ o, wr.frozen? ⟨g9, o, none⟩ = false
  r8 : RowR L 4 encClm wr A8 c8 (selC cs fr)
  r9 : RowR L 1 encI wr A9 c9 (selI ds fr)
  r10 : RowR L 1 encN wr A10 c10 fr
  bl : Below V.heap.size V wr
  sz : L ≤ wr.heap.size

set_option maxRecDepth 100000 in
set_option maxHeartbeats 4000000 in
theorem order_any (lo hi : Int) (A U1 U2 : Option Addr) (cs : List Clm) (us1 us2 : List Int) (B cap capU1 capU2 : Nat) (w : World) (hm : cs.length ≤ cap) (hcm : cap ≤ maxLen) (hok : ClmsOk cs) (hR : RdN 4 encClm w B A cs) (hB : B ≤ w.heap.size)
    (hU1 : Rd1 uv w B U1 us1) (hul1 : us1.length ≤ maxLen) (hub1 : ∀ x ∈ us1, 0 ≤ x ∧ x ≤ 4294967295) (hU2 : Rd1 uv w B U2 us2) (hul2 : us2.length ≤ maxLen) (hub2 : ∀ x ∈ us2, 0 ≤ x ∧ x ≤ 4294967295) :
    Calls Try.prog 11 #[.agg #[.int .i64 lo, .int .i64 hi, .slice A cs.length cap], .slice U1 us1.length capU1, .slice U2 us2.length capU2] w fun e w' => e = .returned (.bool true) ∧ Below w.heap.size w w' := by
  obtain ⟨W1, hW1⟩ : ∃ W1, w.alloc (.cells #[.int .i64 lo, .int .i64 hi, .slice A cs.length cap] 42) = W1 := ⟨_, rfl⟩
  have hb0 : Below w.heap.size w W1 := by rw [← hW1]; exact belowA (belowR _) _
  have p0 : W1.cell? ⟨w.heap.size, 0, none⟩ = some (.int .i64 lo) := by rw [← hW1]; clear hW1; go_simp
  have p1 : W1.cell? ⟨w.heap.size, 1, none⟩ = some (.int .i64 hi) := by rw [← hW1]; clear hW1; go_simp
  have p2 : W1.cell? ⟨w.heap.size, 2, none⟩ = some (.slice A cs.length cap) := by rw [← hW1]; clear hW1; go_simp
  have HB0 := Lib.hid hb0
  have hz1 := hb0.size
  have hz1' := lt_of_cell p0
  have hRr := right_any lo hi A cs B cap W1 hm hcm hok (hR.below hb0 hB) (by omega)
  have HR := Lib.hid (hR.below hb0 hB)
  have HU1 := Lib.hid (hU1.below hb0 hB)
  have HU2 := Lib.hid (hU2.below hb0 hB)
  cases hb : rightB lo hi cs
  · rw [hb] at hRr
    have HRR := Lib.hid hRr
    clear hRr hb
    go_enter Try.func11, Try.ntmps11
    go_wp2_with fail
    refine HRR.out.mono ?_
    rintro e w1 ⟨rfl, hb1⟩
    have HB1 := Lib.hid hb1
    clear hb1
    go_wp2_with fail
    refine (awake_any _).mono ?_
    rintro e w2 ⟨rfl, hb2⟩
    go_wp2
    go_ret
    exact ⟨rfl, belowT (belowT HB0.out HB1.out) hb2⟩
  rw [hb] at hRr
  have hE : estErr lo hi cs = 0 := by simpa [rightB] using hb
  have hest := est_ok hE
  have hle8 := hest.len.2
  have hge1 := hest.len.1
  have ht := any_truth (us := us1) hE
  have hto := (truthE_ok ht).1
  have hokj := hto.ok3
  obtain ⟨P, hP⟩ : ∃ P, anyP lo hi us1 = P := ⟨_, rfl⟩
  obtain ⟨ds, hds⟩ : ∃ ds, anyD cs us1 cs.length = ds := ⟨_, rfl⟩
  have hdl : ds.length = cs.length := by rw [← hds]; exact anyD_len _ _ _
  have hany := fun W (hR : RdN 4 encClm W B A cs) (hB : B ≤ W.heap.size) (hU : Rd1 uv W B U1 us1) => any_any lo hi A U1 cs us1 B cap capU1 W hR hB hU hul1 hub1 hE
  unfold AnyPost at hany
  rw [hP, hds] at ht hto hany
  rw [hds] at hokj
  have hpy := fun W A2 cap2 (hR : RdN 4 encClm W W.heap.size A cs) (hD : Rd1 iv W W.heap.size A2 ds) => pays_yes lo hi A A2 cs W.heap.size cap cap2 P ds W hm hcm hok hR (Nat.le_refl _) hD ht
  rw [hdl] at hpy
  unfold PaysYes at hpy
  have hrg := fun W (hR : RdN 4 encClm W W.heap.size A cs) => ranges_yes lo hi A cs W.heap.size cap W hm hcm hok hR (Nat.le_refl _) hE
  unfold RangesYes at hrg
  have hpy2 : ∀ (fr : List Nat) W A1 cap1 A2 cap2, fr.Perm (List.range cs.length) → cs.length ≤ cap1 → cap1 ≤ maxLen → RdN 4 encClm W W.heap.size A1 (selC cs fr) → Rd1 iv W W.heap.size A2 (selI ds fr) →
      Calls Try.prog 28 #[.agg #[.int .i64 lo, .int .i64 hi, .slice A1 cs.length cap1], .agg #[.int .i64 P, .slice A2 cs.length cap2]] W fun e w' => ∃ A cap, e = .returned (.tuple #[.slice A cs.length cap, iv (P - (pays (jl cs ds) P).sum), iv 0]) ∧ w'.ownsRow W.heap.size 3 1 (.slice A cs.length cap) cs.length ((pays (selG (jl cs ds) fr) P).map iv) ∧ Below W.heap.size W w' := by
    intro fr W A1 cap1 A2 cap2 hp h1 h2 h3 h4
    have hl1 : (selC cs fr).length = cs.length := by rw [selC_len, pm_len hp]
    have hl2 : (selI ds fr).length = cs.length := by rw [selI_len, pm_len hp]
    have h := pays_yes lo hi A1 A2 (selC cs fr) W.heap.size cap1 cap2 P (selI ds fr) W (by omega) h2 (fun c hc => hok c (selC_mem cs hp hc)) h3 (Nat.le_refl _) h4 (truth_sel hto hp)
    unfold PaysYes at h
    rw [hl1, hl2, jl_sel hp hdl, pays_sum_sel (by rw [jl_len]; exact hp)] at h
    exact h
  have hrg2 : ∀ (fr : List Nat) W A1 cap1, fr.Perm (List.range cs.length) → cs.length ≤ cap1 → cap1 ≤ maxLen → RdN 4 encClm W W.heap.size A1 (selC cs fr) →
      Calls Try.prog 32 #[.agg #[.int .i64 lo, .int .i64 hi, .slice A1 cs.length cap1]] W fun e w' => ∃ A cap, e = .returned (.tuple #[.slice A cs.length cap, iv 0]) ∧ w'.ownsRow W.heap.size 39 2 (.slice A cs.length cap) cs.length ((rangesL lo hi ((selC cs fr).map c3) cs.length).flatMap encSp) ∧ Below W.heap.size W w' := by
    intro fr W A1 cap1 hp h1 h2 h3
    have hl1 : (selC cs fr).length = cs.length := by rw [selC_len, pm_len hp]
    have h := ranges_yes lo hi A1 (selC cs fr) W.heap.size cap1 W (by omega) h2 (fun c hc => hok c (selC_mem cs hp hc)) h3 (Nat.le_refl _) (est_sel hE hp)
    unfold RangesYes at h
    rw [hl1] at h
    exact h
  have htn := fun W n (hU : Rd1 uv W B U2 us2) (hn : n ≤ 1000) => turn_any U2 us2 B capU2 n W hul2 hU hub2 hn
  have HRR := Lib.hid hRr
  have HANY := Lib.hid hany
  have HPY := Lib.hid hpy
  have HRG := Lib.hid hrg
  have HPY2 := Lib.hid hpy2
  have HRG2 := Lib.hid hrg2
  have HTN := Lib.hid htn
  have HDL := Lib.hid hdl
  clear hRr hb hest ht hto hokj hany hpy hrg hpy2 hrg2 htn hE hP hds hb0 hdl hR hU1 hU2
  go_enter Try.func11, Try.ntmps11
  go_wp2_with fail
  refine HRR.out.mono ?_
  rintro e w1 ⟨rfl, hb1⟩
  have s0 := keepC hb1 p0
  have s1 := keepC hb1 p1
  have s2 := keepC hb1 p2
  have hz2 := hb1.size
  have HB1 := Lib.hid (belowT HB0.out hb1)
  have HR1 := Lib.hid (HR.out.below hb1 (by omega))
  have HU11 := Lib.hid (HU1.out.below hb1 (by omega))
  have HU21 := Lib.hid (HU2.out.below hb1 (by omega))
  clear hb1 HR HU1 HU2 HRR hW1 p0 p1 p2 HB0
  go_wp2_with fail
  refine (HANY.out _ HR1.out (by omega) HU11.out).mono ?_
  rintro e w2 ⟨A2, cap2, rfl, hown2, hb2⟩
  have hz3 := hb2.size
  have HB2 := Lib.hid (belowT HB1.out hb2)
  have HD2 := Lib.hid (own_rd1' hown2 HDL.out)
  have HR2 := Lib.hid (HR1.out.below hb2 (by omega))
  have HU22 := Lib.hid (HU21.out.below hb2 (by omega))
  have s0 := keepC hb2 s0
  have s1 := keepC hb2 s1
  have s2 := keepC hb2 s2
  clear hb2 hown2 HANY HU11 HU21 HR1 HB1
  go_upto_region 4 with fail
  obtain ⟨V3, hV3⟩ : ∃ V, w2.alloc (.cells #[.int .i64 P, .slice A2 cs.length cap2] 44) = V := ⟨_, rfl⟩
  have hb3 : Below w2.heap.size w2 V3 := by rw [← hV3]; exact belowA (belowR _) _
  have t0 : V3.cell? ⟨w2.heap.size, 0, none⟩ = some (.int .i64 P) := by rw [← hV3]; clear hV3; go_simp
  have t1 : V3.cell? ⟨w2.heap.size, 1, none⟩ = some (.slice A2 cs.length cap2) := by rw [← hV3]; clear hV3; go_simp
  rw [hV3]
  have s0 := keepC hb3 s0
  have s1 := keepC hb3 s1
  have s2 := keepC hb3 s2
  have HB3 := Lib.hid (belowT HB2.out hb3)
  have HR3 := Lib.hid (HR2.out.below hb3 (by omega))
  have HU3 := Lib.hid (HU22.out.below hb3 (by omega))
  have HD3 := Lib.hid ((HD2.out.below hb3 (Nat.le_refl _)).more hb3.size)
  have hz4 := hb3.size
  have hz6 := lt_of_cell t0
  clear hb3 hV3 HD2 HR2 HU22 HB2
  have HCELL : Hid (∀ W, Below V3.heap.size V3 W → W.cell? ⟨w.heap.size, 0, none⟩ = some (.int .i64 lo) ∧ W.cell? ⟨w.heap.size, 1, none⟩ = some (.int .i64 hi) ∧ W.cell? ⟨w.heap.size, 2, none⟩ = some (.slice A cs.length cap) ∧ W.cell? ⟨w2.heap.size, 0, none⟩ = some (.int .i64 P) ∧ W.cell? ⟨w2.heap.size, 1, none⟩ = some (.slice A2 cs.length cap2)) := Lib.hid fun W hb => ⟨keepC hb s0, keepC hb s1, keepC hb s2, keepC hb t0, keepC hb t1⟩
  refine reg11_4 s0 s1 t0 ?_
  intro u31 u32 u33 u34 u35 u36 g8 g9 w4 hg8 hg9 hne hl8 hl9 hb4 a0 a1 a2 b0 b1 f8 f9
  have hz5 := hb4.size
  have hinv0 : OrdInv g8 g9 w4.heap.size V3 w4 lo hi P cs ds 0 [] none none none 0 0 0 :=
    ⟨List.Perm.refl _, a0, a1, a2, b0, b1, f8, f9, RowR.nil, RowR.nil, RowR.nil, hb4, Nat.le_refl _⟩
  have HI0 := Lib.hid hinv0
  clear hinv0 a0 a1 a2 b0 b1 f8 f9 hb4 s0 s1 s2 t0 t1
  go_wp2
  go_loopw [10, 11] (fun vf vi wr => ∃ (i : Nat) (fr : List Nat) (A8 A9 A10 : Option Addr) (c8 c9 c10 : Nat), i ≤ cs.length ∧ vi = .int .i64 i ∧ vf = .slice A10 i c10 ∧ Hid (OrdInv g8 g9 w4.heap.size V3 wr lo hi P cs ds i fr A8 A9 A10 c8 c9 c10)) (fun _ vi _ => cs.length - (intOf vi).toNat)
  case atStart => exact ⟨0, [], none, none, none, 0, 0, 0, Nat.zero_le _, rfl, rfl, HI0⟩
  case round =>
    clear HI0
    obtain ⟨i, fr, A8, A9, A10, c8, c9, c10, hi8, rfl, rfl, HI⟩ := hrel
    obtain ⟨s0, s1, s2, t0, t1⟩ := HCELL.out _ HI.out.bl
    by_cases hlt : i < cs.length
    · obtain ⟨T, hT⟩ : ∃ T : Nat, turnI us2 i = T := ⟨(turnI us2 i).toNat, by have := (turnI_bd us2 i hub2).1; omega⟩
      obtain ⟨k, hk⟩ : ∃ k, T % (i + 1) = k := ⟨_, rfl⟩
      have hki : k ≤ i := by have := Nat.mod_lt T (show i + 1 > 0 by omega); omega
      have hmod : (T : Int) % ((i : Int) + 1) = (k : Int) := by rw [← hk]; simp
      have hcall := HTN.out wr i (HU3.out.below HI.out.bl (by omega)) (by omega)
      rw [hT] at hcall
      have HCALL := Lib.hid hcall
      have hiz : (i : Int) < (cs.length : Int) := by omega
      have hi0 : (0 : Int) ≤ (i : Int) := by omega
      clear hcall hT hk
      go_wp2_with fail
      refine HCALL.out.mono ?_
      rintro e wq ⟨rfl, rfl⟩
      clear HCALL
      obtain ⟨c, hc⟩ : ∃ c, cs[i]? = some c := ⟨_, List.getElem?_eq_getElem hlt⟩
      obtain ⟨d, hd⟩ : ∃ d, ds[i]? = some d := ⟨_, List.getElem?_eq_getElem (by rw [HDL.out]; exact hlt)⟩
      have hpl := pm_len HI.out.pm
      obtain ⟨bc, oc, rfl, hbc, e0, e1, e2, e3⟩ := clmAt (HR3.out.below HI.out.bl (by omega)) hc
      obtain ⟨bd, od, rfl, hbd, e4⟩ := HD3.out i d hd
      have e4 := keepC HI.out.bl e4
      have hc8 : i ≤ c8 := by have := HI.out.r8.le; rw [selC_len, hpl] at this; exact this
      have hc9 : i ≤ c9 := by have := HI.out.r9.le; rw [selI_len, hpl] at this; exact this
      have hc10 : i ≤ c10 := by have := HI.out.r10.le; rw [hpl] at this; exact this
      go_upto_region 10 with fail
      rw [hmod]
      refine reg11_10 (i := i) (k1 := k) (k2 := i - k) (g8 := g8) (f := c) hi0 hiz (by omega) (by omega) (HI.out.r8.low enc4_len encClm_one (by rw [selC_len, hpl]; exact hki)) (HI.out.r8.high (by decide) enc4_len encClm_one (n := i) (by rw [selC_len, hpl]) hki) s2 e0 e1 e2 e3 HI.out.a2 (HI.out.f8 2) (by omega) (by omega) (sl10_4 A8 i c8 k (by omega)) (sl10_16 A8 i c8 k (by omega)) ?_
      intro u50 u51 u52 u53 u54 u55 u56 u57 u58 u59 u60 u61 u62 u63 u64 u65 u66 u67 u68 v5 W5 hL5
      obtain ⟨A8', c8', rfl, hr8⟩ := step_row enc4_len rfl (by rw [selC_len, hpl]) hki HI.out.sz hL5
      rw [putC hc] at hr8
      have hb5 := hL5.1
      have x0 := setC_other (u := .slice A8' (i + 1) c8') (keepC hb5 HI.out.a0) (show (0 : Nat) ≠ 2 by decide)
      have x1 := setC_other (u := .slice A8' (i + 1) c8') (keepC hb5 HI.out.a1) (show (1 : Nat) ≠ 2 by decide)
      have x2 := setC_same (u := .slice A8' (i + 1) c8') (keepC hb5 HI.out.a2)
      have y0 := keepSet (g := g8) (k := 2) (u := .slice A8' (i + 1) c8') (keepC hb5 HI.out.b0) (by omega)
      have y1 := keepSet (g := g8) (k := 2) (u := .slice A8' (i + 1) c8') (keepC hb5 HI.out.b1) (by omega)
      have y2 := keepSet (g := g8) (k := 2) (u := .slice A8' (i + 1) c8') (keepC hb5 t1) (by omega)
      have y3 := keepSet (g := g8) (k := 2) (u := .slice A8' (i + 1) c8') (keepC hb5 e4) (by omega)
      have hf8 : ∀ o, (W5.setCell ⟨g8, 2, none⟩ (.slice A8' (i + 1) c8')).frozen? ⟨g8, o, none⟩ = false := fun o => by rw [World.frozen?_setCell]; exact (hb5.frozen (p := ⟨g8, o, none⟩) (lt_of_cell HI.out.a0)).trans (HI.out.f8 o)
      have hf9 : ∀ o, (W5.setCell ⟨g8, 2, none⟩ (.slice A8' (i + 1) c8')).frozen? ⟨g9, o, none⟩ = false := fun o => by rw [World.frozen?_setCell]; exact (hb5.frozen (p := ⟨g9, o, none⟩) (lt_of_cell HI.out.b0)).trans (HI.out.f9 o)
      have q8 := hr8.set hl8 (o := 2) (.slice A8' (i + 1) c8')
      have q9 := (HI.out.r9.below hb5).set hl8 (o := 2) (.slice A8' (i + 1) c8')
      have q10 := (HI.out.r10.below hb5).set hl8 (o := 2) (.slice A8' (i + 1) c8')
      have hb6 : Below V3.heap.size V3 (W5.setCell ⟨g8, 2, none⟩ (.slice A8' (i + 1) c8')) := belowS (belowT HI.out.bl hb5) hg8 _
      have hs6 : w4.heap.size ≤ (W5.setCell ⟨g8, 2, none⟩ (.slice A8' (i + 1) c8')).heap.size := by simp only [World.size_setCell]; exact Nat.le_trans HI.out.sz hb5.size
      have hpm := HI.out.pm
      clear hr8 hb5 hL5 e0 e1 e2 e3 e4 s0 s1 s2 t0 t1 HI
      generalize W5.setCell ⟨g8, 2, none⟩ (.slice A8' (i + 1) c8') = W6 at *
      go_upto_region 11 with fail
      refine reg11_11 (i := i) (k1 := k) (k2 := i - k) (g8 := g9) (x := d) hi0 hiz (by omega) (by omega) (q9.low encI_len encI_one (by rw [selI_len, hpl]; exact hki)) (q9.high (by decide) encI_len encI_one (n := i) (by rw [selI_len, hpl]) hki) y2 y3 y1 (hf9 1) (by omega) (by omega) (sl11_4 A9 i c9 k (by omega)) (sl11_16 A9 i c9 k (by omega)) ?_
      intro u69 u70 u71 u72 u73 u74 u75 u76 u77 u78 u79 u80 u81 u82 u83 u84 u85 u86 u87 v7 W7 hL7
      obtain ⟨A9', c9', rfl, hr9⟩ := step_row encI_len rfl (by rw [selI_len, hpl]) hki hs6 hL7
      rw [putI hd] at hr9
      have hb7 := hL7.1
      have x0 := keepSet (g := g9) (k := 1) (u := .slice A9' (i + 1) c9') (keepC hb7 x0) (by omega)
      have x1 := keepSet (g := g9) (k := 1) (u := .slice A9' (i + 1) c9') (keepC hb7 x1) (by omega)
      have x2 := keepSet (g := g9) (k := 1) (u := .slice A9' (i + 1) c9') (keepC hb7 x2) (by omega)
      have z0 := setC_other (u := .slice A9' (i + 1) c9') (keepC hb7 y0) (show (0 : Nat) ≠ 1 by decide)
      have z1 := setC_same (u := .slice A9' (i + 1) c9') (keepC hb7 y1)
      have hf8 : ∀ o, (W7.setCell ⟨g9, 1, none⟩ (.slice A9' (i + 1) c9')).frozen? ⟨g8, o, none⟩ = false := fun o => by rw [World.frozen?_setCell]; exact (hb7.frozen (p := ⟨g8, o, none⟩) (Nat.lt_of_lt_of_le hl8 hs6)).trans (hf8 o)
      have hf9 : ∀ o, (W7.setCell ⟨g9, 1, none⟩ (.slice A9' (i + 1) c9')).frozen? ⟨g9, o, none⟩ = false := fun o => by rw [World.frozen?_setCell]; exact (hb7.frozen (p := ⟨g9, o, none⟩) (Nat.lt_of_lt_of_le hl9 hs6)).trans (hf9 o)
      have q8 := (q8.below hb7).set hl9 (o := 1) (.slice A9' (i + 1) c9')
      have q9 := hr9.set hl9 (o := 1) (.slice A9' (i + 1) c9')
      have q10 := (q10.below hb7).set hl9 (o := 1) (.slice A9' (i + 1) c9')
      have hb8 : Below V3.heap.size V3 (W7.setCell ⟨g9, 1, none⟩ (.slice A9' (i + 1) c9')) := belowS (belowT hb6 hb7) hg9 _
      have hs8 : w4.heap.size ≤ (W7.setCell ⟨g9, 1, none⟩ (.slice A9' (i + 1) c9')).heap.size := by simp only [World.size_setCell]; exact Nat.le_trans hs6 hb7.size
      clear hr9 hb7 hL7 y0 y1 y2 y3 hb6 hs6
      generalize W7.setCell ⟨g9, 1, none⟩ (.slice A9' (i + 1) c9') = W8 at *
      go_upto_region 12 with fail
      refine reg11_12 (i := i) (k1 := k) (k2 := i - k) (by omega) (by omega) (q10.low encN_len encN_one (by rw [hpl]; exact hki)) (q10.high (by decide) encN_len encN_one (n := i) (by rw [hpl]) hki) (sl12_3 A10 i c10 k (by omega)) (sl12_10 A10 i c10 k (by omega)) ?_
      intro u88 u89 u90 u91 u92 u93 u94 u95 u96 u97 u98 u99 v9 W9 hL9
      obtain ⟨A10', c10', rfl, hr10⟩ := step_row encN_len rfl hpl hki hs8 hL9
      have hb9 := hL9.1
      have hinv : OrdInv g8 g9 w4.heap.size V3 W9 lo hi P cs ds (i + 1) (putN fr k i) A8' A9' A10' c8' c9' c10' :=
        ⟨putN_perm hpm, keepC hb9 x0, keepC hb9 x1, keepC hb9 x2, keepC hb9 z0, keepC hb9 z1, fun o => (hb9.frozen (p := ⟨g8, o, none⟩) (Nat.lt_of_lt_of_le hl8 hs8)).trans (hf8 o), fun o => (hb9.frozen (p := ⟨g9, o, none⟩) (Nat.lt_of_lt_of_le hl9 hs8)).trans (hf9 o), q8.below hb9, q9.below hb9, hr10, belowT hb8 hb9, Nat.le_trans hs8 hb9.size⟩
      have HINV := Lib.hid hinv
      clear hinv hr10 hb9 hL9 x0 x1 x2 z0 z1 hf8 hf9 q8 q9 q10 hb8 hs8 hpm
      go_wp2
      go_roundw
      case rel => exact ⟨i + 1, _, _, _, _, _, _, _, by omega, by go_num, rfl, HINV⟩
      case measure => simp [intOf]; omega
    · obtain rfl : i = cs.length := by omega
      have hall : ∀ W, Below wr.heap.size wr W → W.cell? ⟨w.heap.size, 0, none⟩ = some (.int .i64 lo) ∧ W.cell? ⟨w.heap.size, 1, none⟩ = some (.int .i64 hi) ∧ W.cell? ⟨w.heap.size, 2, none⟩ = some (.slice A cs.length cap) ∧ W.cell? ⟨w2.heap.size, 0, none⟩ = some (.int .i64 P) ∧ W.cell? ⟨w2.heap.size, 1, none⟩ = some (.slice A2 cs.length cap2) ∧ W.cell? ⟨g8, 0, none⟩ = some (.int .i64 lo) ∧ W.cell? ⟨g8, 1, none⟩ = some (.int .i64 hi) ∧ W.cell? ⟨g8, 2, none⟩ = some (.slice A8 cs.length c8) ∧ W.cell? ⟨g9, 0, none⟩ = some (.int .i64 P) ∧ W.cell? ⟨g9, 1, none⟩ = some (.slice A9 cs.length c9) := fun W hb => ⟨keepC hb s0, keepC hb s1, keepC hb s2, keepC hb t0, keepC hb t1, keepC hb HI.out.a0, keepC hb HI.out.a1, keepC hb HI.out.a2, keepC hb HI.out.b0, keepC hb HI.out.b1⟩
      have hpm := HI.out.pm
      have hpl := pm_len hpm
      have HALL := Lib.hid hall
      have HPM := Lib.hid hpm
      have h8l : cs.length ≤ c8 := by have := HI.out.r8.le; rw [selC_len, hpl] at this; exact this
      have h8m := HI.out.r8.max
      have hsz := HI.out.bl.size
      have HRA := Lib.hid ((HR3.out.below HI.out.bl (by omega)).more (show B ≤ wr.heap.size by omega))
      have HDA := Lib.hid ((HD3.out.below HI.out.bl (Nat.le_refl _)).more hsz)
      have HRO := Lib.hid HI.out.r8.rd
      have HDO := Lib.hid (RowR.at1 (enc := iv) HI.out.r9)
      have HFR := Lib.hid (RowR.at1 (enc := fun x : Nat => iv (x : Int)) HI.out.r10)
      have HBW := Lib.hid (belowT HB3.out HI.out.bl)
      have a0 := HI.out.a0
      have a1 := HI.out.a1
      have a2 := HI.out.a2
      have b0 := HI.out.b0
      have b1 := HI.out.b1
      clear HI hall hpm
      go_wp2_with fail
      refine (HPY.out wr A2 cap2 HRA.out HDA.out).mono ?_
      rintro e w5 ⟨A5, cap5, rfl, hown5, hb5⟩
      have HB5 := Lib.hid hb5
      have HO5 := Lib.hid (own_rd1' hown5 (by rw [pays_len, jl_len]))
      clear s0 s1 s2 t0 t1 a0 a1 a2 b0 b1 hown5 hb5
      obtain ⟨s0, s1, s2, t0, t1, a0, a1, a2, b0, b1⟩ := HALL.out _ HB5.out
      go_wp2_with fail
      refine (HPY2.out fr w5 A8 c8 A9 c9 HPM.out h8l h8m ((HRO.out.below HB5.out (Nat.le_refl _)).more HB5.out.size) ((HDO.out.below HB5.out (Nat.le_refl _)).more HB5.out.size)).mono ?_
      rintro e w6 ⟨A6, cap6, rfl, hown6, hb6⟩
      have HB6 := Lib.hid (belowT HB5.out hb6)
      have HO6 := Lib.hid (own_rd1' hown6 (by rw [pays_len, selG_len]; exact hpl))
      have HO5' := Lib.hid ((HO5.out.below hb6 (Nat.le_refl _)).more hb6.size)
      clear s0 s1 s2 t0 t1 a0 a1 a2 b0 b1 hown6 hb6 HB5 HO5
      obtain ⟨s0, s1, s2, t0, t1, a0, a1, a2, b0, b1⟩ := HALL.out _ HB6.out
      go_wp2_with fail
      refine (HRG.out w6 ((HRA.out.below HB6.out (Nat.le_refl _)).more HB6.out.size)).mono ?_
      rintro e w7 ⟨A7, cap7, rfl, hown7, hb7⟩
      have HB7 := Lib.hid (belowT HB6.out hb7)
      have HO7 := Lib.hid (own_rdN' encSp_len hown7 (rangesL_len _ _ _ _))
      have HO6' := Lib.hid ((HO6.out.below hb7 (Nat.le_refl _)).more hb7.size)
      have HO5'' := Lib.hid ((HO5'.out.below hb7 (Nat.le_refl _)).more hb7.size)
      clear s0 s1 s2 t0 t1 a0 a1 a2 b0 b1 hown7 hb7 HB6 HO5' HO6
      obtain ⟨s0, s1, s2, t0, t1, a0, a1, a2, b0, b1⟩ := HALL.out _ HB7.out
      go_wp2_with fail
      refine (HRG2.out fr w7 A8 c8 HPM.out h8l h8m ((HRO.out.below HB7.out (Nat.le_refl _)).more HB7.out.size)).mono ?_
      rintro e w8 ⟨A10', cap8, rfl, hown8, hb8⟩
      have HB8 := Lib.hid (belowT HB7.out hb8)
      have HO8 := Lib.hid (own_rdN' encSp_len hown8 (rangesL_len _ _ _ _))
      have HR7 := Lib.hid ((HO7.out.below hb8 (Nat.le_refl _)).more hb8.size)
      have HB6r := Lib.hid ((HO6'.out.below hb8 (Nat.le_refl _)).more hb8.size)
      have HA5 := Lib.hid ((HO5''.out.below hb8 (Nat.le_refl _)).more hb8.size)
      have HF8 := Lib.hid (HFR.out.below HB8.out (Nat.le_refl _))
      have HBE := Lib.hid (belowT HBW.out HB8.out)
      clear s0 s1 s2 t0 t1 a0 a1 a2 b0 b1 hown8 hb8 HB7 HO5'' HO6' HO7 HFR HRA HDA HRO HDO HALL HPY HRG HPY2 HRG2
      go_wp2
      go_loopw [23] (fun vk wx => ∃ p : Nat, p ≤ cs.length ∧ vk = .int .i64 p ∧ Hid (Below w8.heap.size w8 wx)) (fun vk _ => cs.length - (intOf vk).toNat)
      case atStart => exact ⟨0, Nat.zero_le _, rfl, Lib.hid (belowR _)⟩
      case round =>
        obtain ⟨p, hp, rfl, HBX⟩ := hrel
        by_cases hlt : p < cs.length
        · obtain ⟨j, hj⟩ : ∃ j, fr[p]? = some j := ⟨_, List.getElem?_eq_getElem (by omega)⟩
          have hjl := pm_lt HPM.out hj
          obtain ⟨x, hx⟩ : ∃ x, (pays (jl cs ds) P)[j]? = some x := ⟨_, List.getElem?_eq_getElem (by rw [pays_len, jl_len]; exact hjl)⟩
          have hx' : (pays (selG (jl cs ds) fr) P)[p]? = some x := (pays_sel (by rw [jl_len]; exact HPM.out) P hj).trans hx
          obtain ⟨r, hr⟩ : ∃ r, (rangesL lo hi (cs.map c3) cs.length)[j]? = some r := ⟨_, List.getElem?_eq_getElem (by rw [rangesL_len]; exact hjl)⟩
          have hr' : (rangesL lo hi ((selC cs fr).map c3) cs.length)[p]? = some r := (ranges_sel lo hi HPM.out hj).trans hr
          obtain ⟨r1, r2⟩ := r
          obtain ⟨bf, of, rfl, _, ej⟩ := HF8.out p j hj
          obtain ⟨ba, oa, rfl, _, ea⟩ := HA5.out j x hx
          obtain ⟨bb, ob, rfl, _, eb⟩ := HB6r.out p x hx'
          obtain ⟨br, ofr, rfl, _, er⟩ := HR7.out j _ hr
          obtain ⟨bs, ofs, rfl, _, es⟩ := HO8.out p _ hr'
          have er0 : wr.cell? ⟨br, ofr + j * 2, none⟩ = some (.int .i64 r1) := keepC HBX.out (er 0 _ rfl)
          have er1 : wr.cell? ⟨br, ofr + j * 2 + 1, none⟩ = some (.int .i64 r2) := keepC HBX.out (er 1 _ rfl)
          have es0 : wr.cell? ⟨bs, ofs + p * 2, none⟩ = some (.int .i64 r1) := keepC HBX.out (es 0 _ rfl)
          have es1 : wr.cell? ⟨bs, ofs + p * 2 + 1, none⟩ = some (.int .i64 r2) := keepC HBX.out (es 1 _ rfl)
          have ej : wr.cell? ⟨bf, of + p, none⟩ = some (.int .i64 j) := keepC HBX.out ej
          have ea : wr.cell? ⟨ba, oa + j, none⟩ = some (.int .i64 x) := keepC HBX.out ea
          have eb : wr.cell? ⟨bb, ob + p, none⟩ = some (.int .i64 x) := keepC HBX.out eb
          have hpz : (p : Int) < (cs.length : Int) := by omega
          have hp0 : (0 : Int) ≤ (p : Int) := by omega
          have hjz : (j : Int) < (cs.length : Int) := by omega
          have hj0 : (0 : Int) ≤ (j : Int) := by omega
          clear er es hx hx' hr hr' hj
          go_wp2
          go_quiet (fail)
          go_wp2
          go_roundw
          case rel => exact ⟨p + 1, by omega, by go_num, Lib.hid (belowN HBX.out _)⟩
          case measure => simp [intOf]; omega
        · obtain rfl : p = cs.length := by omega
          go_wp2_with fail
          refine (awake_any _).mono ?_
          rintro e w9 ⟨rfl, hb9⟩
          go_wp2
          go_ret
          exact ⟨rfl, belowT (belowT HBE.out HBX.out) hb9⟩
end Go.Proofs.Ytblbbhenmhkknaa
