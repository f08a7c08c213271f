/- claim.truth, of a valid estate, of numbers of which each may be one of its claim. claim.truth, whole; claim.Pays. -/
import Derived.Deep.RegionHeld3
import Derived.Test.YtblbbhenmhkknaaYW24
namespace Go.Proofs.Ytblbbhenmhkknaa
open Go.RowKit

theorem just_truth (lo hi : Int) (A A3 : Option Addr) (n cap cap3 : Nat) (L : List Cl3) (B g capD : Nat) (D : Option Addr) (ds : List Int) (BD : Nat) (w : World) (hl : L.length = ds.length) (h0 : 0 < L.length) (hm : L.length ≤ 1000) (hR : RdN 3 encC3 w B A3 L) (hB : B ≤ w.heap.size)
    (hc : w.cell? ⟨g, 1, none⟩ = some (.slice D ds.length capD)) (hD : Rd1 iv w BD D ds) (hBD : BD ≤ w.heap.size) :
    Calls Try.prog 81 #[.agg #[.int .i64 lo, .int .i64 hi, .slice A n cap, .slice A3 L.length cap3], .func (.func 105) #[] #[.pointer (some ⟨g, 0, none⟩)]] w (JustPost L (fun i => ds.getD i 0) w) := by
  refine just_any lo hi A A3 n cap cap3 L B 105 #[.pointer (some ⟨g, 0, none⟩)] (fun i => ds.getD i 0) w (.inr rfl) h0 hm hR hB ?_
  intro i c w1 hi hb
  have hil := (List.getElem?_eq_some_iff.1 hi).1
  obtain ⟨x, hx⟩ : ∃ x, ds[i]? = some x := ⟨_, List.getElem?_eq_getElem (by omega)⟩
  have hxd : ds.getD i 0 = x := by rw [List.getD_eq_getElem?_getD, hx]; rfl
  have h := truth1_any i c.rank c.lo c.hi x g BD capD D ds w1 (keepC hb hc) (hD.below hb hBD) hx
  have e : (#[Value.int .i64 i, Value.agg #[.int .i64 c.rank, .int .i64 c.lo, .int .i64 c.hi]] ++ #[Value.pointer (some ⟨g, 0, none⟩)] : Array Value) = #[Value.int .i64 i, Value.agg #[.int .i64 c.rank, .int .i64 c.lo, .int .i64 c.hi], Value.pointer (some ⟨g, 0, none⟩)] := rfl
  rw [e]
  simp only [hxd]
  exact h

set_option maxRecDepth 100000 in
set_option maxHeartbeats 4000000 in
theorem truth_in (lo hi : Int) (A D : Option Addr) (cs : List Clm) (B cap capD : Nat) (P : Int) (ds : List Int) (w : World) (hm : cs.length ≤ cap) (hcm : cap ≤ maxLen) (hok : ClmsOk cs) (hR : RdN 4 encClm w B A cs) (hB : B ≤ w.heap.size) (hE : estErr lo hi cs = 0)
    (hl : ds.length = cs.length) (hP : inB lo hi P = true) (hD : Rd1 iv w B D ds) :
    Calls Try.prog 73 #[.agg #[.int .i64 lo, .int .i64 hi, .slice A cs.length cap], .agg #[.int .i64 P, .slice D ds.length capD]] w fun e w' => (centsOk (cs.map c3) ds cs.length = true ∧ TruthYes cs ds w e w') ∨ (centsOk (cs.map c3) ds cs.length = false ∧ TruthNo 7 w e w') := by
  rw [hl]
  have hest := est_ok hE
  have hle8 := hest.len.2
  have hop := fun w (hR : RdN 4 encClm w B A cs) (hB : B ≤ w.heap.size) => enter_yes lo hi A cs B cap w hm hcm hest.len.2 hok hR hB hE
  have HOP := Lib.hid hop
  clear hop hE
  have HLEN := Lib.hid hl
  clear hl
  go_enter Try.func73, Try.ntmps73
  go_wp2_with fail
  refine (HOP.out _ (hR.below (B' := w.heap.size) (belowA (belowA (belowR _) _) _) hB) (by simp; omega)).mono ?_
  rintro e w1 ⟨A3, cap3, rfl, hrd, _, _, hb⟩
  have hB1 := belowT (belowA (belowA (belowR _) _) _) hb
  have z1 : w.heap.size + 1 < w1.heap.size := (by have := hb.size; simp only [World.size_alloc] at this; omega)
  have q0 : w1.cell? ⟨w.heap.size + 1, 0, none⟩ = some (.int .i64 P) := keepC hb (by go_simp)
  have q1 : w1.cell? ⟨w.heap.size + 1, 1, none⟩ = some (.slice D cs.length capD) := keepC hb (by go_simp)
  have q2 := fun ob => keepA q1 ob
  have q3 := fun ob => keepA q0 ob
  clear hb
  obtain ⟨L, hL⟩ : ∃ L, cs.map c3 = L := ⟨_, rfl⟩
  rw [hL] at hrd
  have hLl : L.length = cs.length := by rw [← hL]; simp
  have HL := Lib.hid hL
  have HLL := Lib.hid hLl
  clear hL hLl
  go_wp2_with (go_at_call 55; refine (out_one lo hi P _ _ (by go_simp) (by simp)).mono ?_; rintro e w2 ⟨rfl, hb2⟩; have hB2 := belowT (belowA (belowA hB1 _) _) hb2; have z2 : w1.heap.size < w2.heap.size := (by have := hb2.size; simp only [World.size_alloc] at this; omega); have p0 : w2.cell? ⟨w1.heap.size, 0, none⟩ = some (.int .i64 lo) := keepC hb2 (by go_simp); have p1 : w2.cell? ⟨w1.heap.size, 1, none⟩ = some (.int .i64 hi) := keepC hb2 (by go_simp); have p2 : w2.cell? ⟨w1.heap.size, 2, none⟩ = some (.slice A cs.length cap) := keepC hb2 (by go_simp); have p3 : w2.cell? ⟨w1.heap.size, 3, none⟩ = some (.slice A3 cs.length cap3) := keepC hb2 (by go_simp); have p4 : w2.cell? ⟨w.heap.size + 1, 1, none⟩ = some (.slice D cs.length capD) := keepC hb2 (keepA (keepA q1 _) _))
  have hrd2 : RdN 3 encC3 w2 w1.heap.size A3 L := hrd.below (B' := w1.heap.size) (belowT (belowA (belowA (belowR _) _) _) hb2) (Nat.le_refl _)
  have HRD := Lib.hid hrd2
  have hD2 : Rd1 iv w2 B D ds := hD.below hB2 hB
  have HD2 := Lib.hid hD2
  clear hb2 q0 q1 q2 q3 hrd2 hD2 hrd
  go_loopw [42] (fun vi wr => ∃ k : Nat, k ≤ cs.length ∧ vi = .int .i64 k ∧ centsOk L ds k = true ∧ Below w2.heap.size w2 wr) (fun vi _ => cs.length - (intOf vi).toNat)
  case atStart => exact ⟨0, Nat.zero_le _, rfl, by simp [centsOk], belowR _⟩
  case round =>
    obtain ⟨k, hk, rfl, hce, hbw⟩ := hrel
    have hz := hbw.size
    have zb := hB2.size
    have r4 : wr.cell? ⟨w.heap.size + 1, 1, none⟩ = some (.slice D cs.length capD) := keepC hbw p4
    by_cases hlt : k < cs.length
    · obtain ⟨c, hx⟩ : ∃ x, L[k]? = some x := ⟨_, List.getElem?_eq_getElem (by rw [HLL.out]; exact hlt)⟩
      obtain ⟨d, hd⟩ : ∃ x, ds[k]? = some x := ⟨_, List.getElem?_eq_getElem (by rw [HLEN.out]; exact hlt)⟩
      have hHb : RdN 3 encC3 wr w1.heap.size A3 L := (HRD.out).below hbw (by omega)
      obtain ⟨b, off, rfl, hbB, e0, e1, e2⟩ := c3At hHb hx
      have hDw : Rd1 iv wr B D ds := (HD2.out).below hbw (by omega)
      obtain ⟨b', off', rfl, hbB', g0⟩ := hDw k d hd
      have hz1 : w.heap.size + 1 < wr.heap.size := by omega
      have hz2 : b' < wr.heap.size := lt_of_cell g0
      have hdn := centsOk_succ L ds k c d hx hd
      have hkz : (k : Int) < (cs.length : Int) := by omega
      have hk0 : (0 : Int) ≤ (k : Int) := by omega
      obtain ⟨HX, hHX⟩ : ∃ h, wr.heap.size = h := ⟨_, rfl⟩
      cases hin : inB c.lo c.hi d
      · have hno := centsOk_no (n := cs.length) hx hd hin hlt
        obtain ⟨rank, clo, chi⟩ := c
        simp only at e0 e1 e2 hin
        have HNO := Lib.hid hno
        clear hno hdn hx hd hHb hDw hHX
        go_wp2
        obtain ⟨W1, hW1⟩ : ∃ W1, wr.alloc (.cells #[.int .i64 rank, .int .i64 clo, .int .i64 chi] 125) = W1 := ⟨_, rfl⟩
        have a1 : W1.cell? ⟨wr.heap.size, 1, none⟩ = some (.int .i64 clo) := by rw [← hW1]; clear hW1; go_simp
        have a2 : W1.cell? ⟨wr.heap.size, 2, none⟩ = some (.int .i64 chi) := by rw [← hW1]; clear hW1; go_simp
        have a3 : W1.cell? ⟨w.heap.size + 1, 1, none⟩ = some (.slice (some ⟨b', off', none⟩) cs.length capD) := by rw [← hW1]; exact keepA r4 _
        have a4 : W1.cell? ⟨b', off' + k, none⟩ = some (.int .i64 d) := by rw [← hW1]; exact keepA g0 _
        have hBW : Below wr.heap.size wr W1 := by rw [← hW1]; exact belowA (belowR _) _
        have HBW := Lib.hid hBW
        have HB2 := Lib.hid hB2
        have HBR := Lib.hid hbw
        rw [hW1]
        clear hW1 hBW hB2 hbw r4 g0 e0 e1 e2 p0 p1 p2 p3 p4 hz zb z1 z2 hz1 hz2 HRD HD2 hD hR
        go_region_held3 (fun w' => w'.cell? ⟨wr.heap.size, 1, none⟩ = some (.int .i64 clo) ∧ w'.cell? ⟨wr.heap.size, 2, none⟩ = some (.int .i64 chi) ∧ w'.cell? ⟨w.heap.size + 1, 1, none⟩ = some (.slice (some ⟨b', off', none⟩) cs.length capD) ∧ w'.cell? ⟨b', off' + k, none⟩ = some (.int .i64 d)) (first | exact ⟨a1, a2, a3, a4⟩ | exact ⟨keepA a1 _, keepA a2 _, keepA a3 _, keepA a4 _⟩ | exact ⟨keepC hb3 (keepA a1 _), keepC hb3 (keepA a2 _), keepC hb3 (keepA a3 _), keepC hb3 (keepA a4 _)⟩ | go_keep) (first | (go_at_call 55; refine (out_one clo chi d _ _ (by go_simp) (by simp)).mono ?_; rintro e w3 ⟨rfl, hb3⟩))
        all_goals go_wp2
        all_goals refine bodyPost_ret (results_tmp2 rfl _ _ _) rfl ?_
        all_goals exact .inr ⟨by rw [HL.out]; exact HNO.out, rfl, belowT (belowT (belowT HB2.out HBR.out) HBW.out) (belowT (belowDr (belowA (belowR _) _)) hb3)⟩
      · have hno : centsOk L ds (k + 1) = true := by rw [hdn, hce, hin]; rfl
        obtain ⟨rank, clo, chi⟩ := c
        simp only at e0 e1 e2 hin
        have HNO := Lib.hid hno
        clear hno hdn hx hd hHb hDw hHX
        go_wp2
        obtain ⟨W1, hW1⟩ : ∃ W1, wr.alloc (.cells #[.int .i64 rank, .int .i64 clo, .int .i64 chi] 125) = W1 := ⟨_, rfl⟩
        have a1 : W1.cell? ⟨wr.heap.size, 1, none⟩ = some (.int .i64 clo) := by rw [← hW1]; clear hW1; go_simp
        have a2 : W1.cell? ⟨wr.heap.size, 2, none⟩ = some (.int .i64 chi) := by rw [← hW1]; clear hW1; go_simp
        have a3 : W1.cell? ⟨w.heap.size + 1, 1, none⟩ = some (.slice (some ⟨b', off', none⟩) cs.length capD) := by rw [← hW1]; exact keepA r4 _
        have a4 : W1.cell? ⟨b', off' + k, none⟩ = some (.int .i64 d) := by rw [← hW1]; exact keepA g0 _
        have hBW : Below wr.heap.size wr W1 := by rw [← hW1]; exact belowA (belowR _) _
        have HBW := Lib.hid hBW
        have HB2 := Lib.hid hB2
        have HBR := Lib.hid hbw
        rw [hW1]
        clear hW1 hBW hB2 hbw r4 g0 e0 e1 e2 p0 p1 p2 p3 p4 hz zb z1 z2 hz1 hz2 HRD HD2 hD hR
        go_region_held3 (fun w' => w'.cell? ⟨wr.heap.size, 1, none⟩ = some (.int .i64 clo) ∧ w'.cell? ⟨wr.heap.size, 2, none⟩ = some (.int .i64 chi) ∧ w'.cell? ⟨w.heap.size + 1, 1, none⟩ = some (.slice (some ⟨b', off', none⟩) cs.length capD) ∧ w'.cell? ⟨b', off' + k, none⟩ = some (.int .i64 d)) (first | exact ⟨a1, a2, a3, a4⟩ | exact ⟨keepA a1 _, keepA a2 _, keepA a3 _, keepA a4 _⟩ | exact ⟨keepC hb3 (keepA a1 _), keepC hb3 (keepA a2 _), keepC hb3 (keepA a3 _), keepC hb3 (keepA a4 _)⟩ | go_keep) (first | (go_at_call 55; refine (out_one clo chi d _ _ (by go_simp) (by simp)).mono ?_; rintro e w3 ⟨rfl, hb3⟩))
        have hBF := belowT (belowT HBR.out HBW.out) (belowT (belowDr (belowA (belowR _) _)) hb3)
        have HBF := Lib.hid hBF
        clear hBF hb3 a1 a2 a3 a4
        go_wp2
        go_roundw
        case rel => exact ⟨k + 1, by omega, by go_num, HNO.out, HBF.out⟩
        case measure => simp [intOf]; omega
    · obtain rfl : k = cs.length := by omega
      have hj := just_truth lo hi A A3 cs.length cap cap3 L w1.heap.size (w.heap.size + 1) capD D ds B wr (by rw [HLL.out, HLEN.out]) (by rw [HLL.out]; exact hest.len.1) (by rw [HLL.out]; omega) ((HRD.out).below hbw (by omega)) (by omega) (by rw [HLEN.out]; exact r4) ((HD2.out).below hbw (by omega)) (by omega)
      rw [HLL.out] at hj
      have HJ := Lib.hid hj
      have HB2 := Lib.hid hB2
      have HBR := Lib.hid hbw
      have c0 := keepC hbw p0
      have c1 := keepC hbw p1
      have c2 := keepC hbw p2
      have c3' := keepC hbw p3
      clear hj hB2 hbw HRD HD2 hD hR p0 p1 p2 p3 p4 r4
      go_wp2_with fail
      refine HJ.out.mono ?_
      rintro e w4 ⟨A5, cap5, he, hown, hb4⟩
      rw [HLL.out] at he hown
      subst he
      have hown2 := ownsRow_base2 hown (Nat.le_trans HB2.out.size HBR.out.size)
      rw [← HL.out] at hown2
      have HOWN := Lib.hid hown2
      have HB4 := Lib.hid hb4
      clear hown hown2 hb4 c0 c1 c2 c3'
      go_wp2
      refine bodyPost_ret (results_tmp2 rfl _ _ _) rfl ?_
      exact .inl ⟨by rw [HL.out]; exact hce, A5, cap5, rfl, HOWN.out, belowT (belowT HB2.out HBR.out) HB4.out⟩
end Go.Proofs.Ytblbbhenmhkknaa

namespace Go.Proofs.Ytblbbhenmhkknaa
open Go.RowKit

/-- The claims of an estate in a truth. -/
def jl (cs : List Clm) (ds : List Int) : List Cl3 := justL (cs.map c3) fun i => ds.getD i 0
theorem jl_len (cs : List Clm) (ds : List Int) : (jl cs ds).length = cs.length := by simp [jl, justL]
theorem jl_at {cs : List Clm} {ds : List Int} {i : Nat} {c : Clm} (h : cs[i]? = some c) : (jl cs ds)[i]? = some ⟨c.rank, ds.getD i 0, ds.getD i 0⟩ := by
  simp [jl, justL, List.getElem?_mapIdx, h, c3]
structure TruthOk (lo hi : Int) (cs : List Clm) (P : Int) (ds : List Int) : Prop where
  est : estErr lo hi cs = 0
  len : ds.length = cs.length
  pro : lo ≤ P ∧ P ≤ hi
  cents : ∀ (i : Nat) (c : Clm) (d : Int), cs[i]? = some c → ds[i]? = some d → c.lo ≤ d ∧ d ≤ c.hi
theorem truthE_ok {lo hi : Int} {cs : List Clm} {P : Int} {ds : List Int} (h : truthE lo hi cs P ds = 0) : TruthOk lo hi cs P ds ∧ inB lo hi P = true ∧ centsOk (cs.map c3) ds cs.length = true := by
  unfold truthE at h
  by_cases h1 : estErr lo hi cs = 0
  · rw [if_pos h1] at h
    by_cases h2 : ds.length = cs.length
    · rw [if_pos h2] at h
      cases h3 : inB lo hi P
      · simp [h3] at h
      · cases h4 : centsOk (cs.map c3) ds cs.length
        · simp [h3, h4] at h
        · refine ⟨⟨h1, h2, inB_t h3, fun i c d hc hd => ?_⟩, rfl, rfl⟩
          unfold centsOk at h4
          rw [List.all_eq_true] at h4
          have := h4 i (List.mem_range.2 (List.getElem?_eq_some_iff.1 hc).1)
          rw [List.getElem?_map, hc, hd] at this
          exact inB_t (by simpa [c3] using this)
    · rw [if_neg h2] at h; cases h
  · rw [if_neg h1] at h; exact absurd h h1
theorem TruthOk.ok3 {lo hi : Int} {cs : List Clm} {P : Int} {ds : List Int} (h : TruthOk lo hi cs P ds) : C3Ok (jl cs ds) := by
  intro x hx
  obtain ⟨i, hi⟩ := List.getElem?_of_mem hx
  have hl := (List.getElem?_eq_some_iff.1 hi).1
  rw [jl_len] at hl
  obtain ⟨c, hc⟩ : ∃ c, cs[i]? = some c := ⟨_, List.getElem?_eq_getElem hl⟩
  obtain ⟨d, hd⟩ : ∃ d, ds[i]? = some d := ⟨_, List.getElem?_eq_getElem (by rw [h.len]; exact hl)⟩
  rw [jl_at hc] at hi
  injection hi with hi
  subst hi
  have h1 := (est_ok h.est).each c (List.mem_of_getElem? hc)
  have h2 := h.cents i c d hc hd
  have h3 : ds.getD i 0 = d := by rw [List.getD_eq_getElem?_getD, hd]; rfl
  simp only [h3]
  omega

theorem truth_no (lo hi : Int) (A D : Option Addr) (cs : List Clm) (B cap capD : Nat) (P : Int) (ds : List Int) (w : World) (hm : cs.length ≤ cap) (hcm : cap ≤ maxLen) (hok : ClmsOk cs) (hR : RdN 4 encClm w B A cs) (hB : B ≤ w.heap.size) (hD : Rd1 iv w B D ds) (hE : truthE lo hi cs P ds ≠ 0) :
    Calls Try.prog 73 #[.agg #[.int .i64 lo, .int .i64 hi, .slice A cs.length cap], .agg #[.int .i64 P, .slice D ds.length capD]] w (TruthNo (truthE lo hi cs P ds) w) := by
  unfold truthE at *
  by_cases h1 : estErr lo hi cs = 0
  · rw [if_pos h1] at hE ⊢
    by_cases h2 : ds.length = cs.length
    · rw [if_pos h2] at hE ⊢
      cases h3 : inB lo hi P
      · simp only [Bool.false_eq_true, if_false]
        exact truth_range lo hi A D cs B cap capD P ds w hm hcm hok hR hB h1 h2 h3
      · simp only [h3, if_true] at hE ⊢
        cases h4 : centsOk (cs.map c3) ds cs.length
        · simp only [Bool.false_eq_true, if_false]
          refine (truth_in lo hi A D cs B cap capD P ds w hm hcm hok hR hB h1 h2 h3 hD).mono ?_
          rintro e w' (⟨h, _⟩ | ⟨_, h⟩)
          · rw [h4] at h; cases h
          · exact h
        · rw [h4] at hE; simp at hE
    · rw [if_neg h2]
      exact truth_len lo hi A D cs B cap capD P ds w hm hcm hok hR hB h1 h2
  · rw [if_neg h1]
    exact truth_bad lo hi A D cs B cap capD P ds w hm hcm hok hR hB h1
theorem truth_yes (lo hi : Int) (A D : Option Addr) (cs : List Clm) (B cap capD : Nat) (P : Int) (ds : List Int) (w : World) (hm : cs.length ≤ cap) (hcm : cap ≤ maxLen) (hok : ClmsOk cs) (hR : RdN 4 encClm w B A cs) (hB : B ≤ w.heap.size) (hD : Rd1 iv w B D ds) (hE : truthE lo hi cs P ds = 0) :
    Calls Try.prog 73 #[.agg #[.int .i64 lo, .int .i64 hi, .slice A cs.length cap], .agg #[.int .i64 P, .slice D ds.length capD]] w (TruthYes cs ds w) := by
  obtain ⟨h, h3, h4⟩ := truthE_ok hE
  refine (truth_in lo hi A D cs B cap capD P ds w hm hcm hok hR hB h.est h.len h3 hD).mono ?_
  rintro e w' (⟨_, h⟩ | ⟨h, _⟩)
  · exact h
  · rw [h4] at h; cases h

def PaysYes (cs : List Clm) (P : Int) (ds : List Int) (w : World) (e : Ending) (w' : World) : Prop :=
  ∃ A cap, e = .returned (.tuple #[.slice A cs.length cap, iv (P - (pays (jl cs ds) P).sum), iv 0]) ∧ w'.ownsRow w.heap.size 3 1 (.slice A cs.length cap) cs.length ((pays (jl cs ds) P).map iv) ∧ Below w.heap.size w w'

set_option maxRecDepth 100000 in
set_option maxHeartbeats 1000000 in
theorem pays_no (lo hi : Int) (A D : Option Addr) (cs : List Clm) (B cap capD : Nat) (P : Int) (ds : List Int) (w : World) (hm : cs.length ≤ cap) (hcm : cap ≤ maxLen) (hok : ClmsOk cs) (hR : RdN 4 encClm w B A cs) (hB : B ≤ w.heap.size) (hD : Rd1 iv w B D ds) (hE : truthE lo hi cs P ds ≠ 0) :
    Calls Try.prog 28 #[.agg #[.int .i64 lo, .int .i64 hi, .slice A cs.length cap], .agg #[.int .i64 P, .slice D ds.length capD]] w fun e w' => e = .returned (.tuple #[.slice none 0 0, iv 0, iv (truthE lo hi cs P ds)]) ∧ Below w.heap.size w w' := by
  have hop := fun w (hR : RdN 4 encClm w B A cs) (hB : B ≤ w.heap.size) (hD : Rd1 iv w B D ds) => truth_no lo hi A D cs B cap capD P ds w hm hcm hok hR hB hD hE
  obtain ⟨E, hEE⟩ : ∃ E, truthE lo hi cs P ds = E := ⟨_, rfl⟩
  rw [hEE] at hE hop ⊢
  have hne : (E != 0) = true := by simpa using hE
  have HOP := Lib.hid hop
  clear hop hEE hE
  go_enter Try.func28, Try.ntmps28
  go_wp2_with fail
  have hb0 : Below w.heap.size w _ := belowA (belowA (belowR w) (.cells #[.int .i64 lo, .int .i64 hi, .slice A cs.length cap] 42)) (.cells #[.int .i64 P, .slice D ds.length capD] 44)
  refine (HOP.out _ (hR.below hb0 hB) (by simp; omega) (hD.below hb0 hB)).mono ?_
  rintro e w1 ⟨rfl, hb⟩
  have hB1 := belowT hb0 hb
  clear hb0 hb
  go_wp2
  go_ret3
  exact ⟨rfl, hB1⟩

set_option maxRecDepth 100000 in
set_option maxHeartbeats 1000000 in
theorem pays_yes (lo hi : Int) (A D : Option Addr) (cs : List Clm) (B cap capD : Nat) (P : Int) (ds : List Int) (w : World) (hm : cs.length ≤ cap) (hcm : cap ≤ maxLen) (hok : ClmsOk cs) (hR : RdN 4 encClm w B A cs) (hB : B ≤ w.heap.size) (hD : Rd1 iv w B D ds) (hE : truthE lo hi cs P ds = 0) :
    Calls Try.prog 28 #[.agg #[.int .i64 lo, .int .i64 hi, .slice A cs.length cap], .agg #[.int .i64 P, .slice D ds.length capD]] w (PaysYes cs P ds w) := by
  have hop := fun w (hR : RdN 4 encClm w B A cs) (hB : B ≤ w.heap.size) (hD : Rd1 iv w B D ds) => truth_yes lo hi A D cs B cap capD P ds w hm hcm hok hR hB hD hE
  obtain ⟨ht, _, _⟩ := truthE_ok hE
  have hest := est_ok ht.est
  have hok3 := ht.ok3
  have hp0 : 0 ≤ P := by have := hest.span; have := ht.pro; omega
  have hp9 : P ≤ 1000000000 := by have := hest.span; have := ht.pro; omega
  have hl9 : (jl cs ds).length ≤ 9 := by rw [jl_len]; have := hest.len; omega
  have hpy := fun w A capL (hR : RdN 3 encC3 w w.heap.size A (jl cs ds)) => pay_any A (jl cs ds) w.heap.size capL P w hl9 hp0 hp9 hok3 hR (Nat.le_refl _)
  unfold PayPost at hpy
  rw [jl_len] at hpy
  have HOP := Lib.hid hop
  have HPY := Lib.hid hpy
  clear hop hE ht hest hok3 hl9 hpy
  go_enter Try.func28, Try.ntmps28
  go_wp2_with fail
  have hb0 : Below w.heap.size w _ := belowA (belowA (belowR w) (.cells #[.int .i64 lo, .int .i64 hi, .slice A cs.length cap] 42)) (.cells #[.int .i64 P, .slice D ds.length capD] 44)
  refine (HOP.out _ (hR.below hb0 hB) (by simp; omega) (hD.below hb0 hB)).mono ?_
  rintro e w1 ⟨A1, cap1, rfl, hown, hb⟩
  have hB1 := belowT hb0 hb
  have q0 : w1.cell? ⟨w.heap.size + 1, 0, none⟩ = some (.int .i64 P) := keepC hb (by go_simp)
  have hrd : RdN 3 encC3 w1 w1.heap.size A1 (jl cs ds) := by
    have := hown
    rw [← jl_len cs ds] at this
    obtain ⟨A5, cap5, e5, hrd5, _⟩ := own_rdN enc3_len this
    injection e5 with e51 e52 e53
    subst e51
    exact hrd5
  have HRD := Lib.hid hrd
  clear hb0 hb hown hrd hR hD
  go_wp2_with fail
  refine (HPY.out _ _ _ HRD.out).mono ?_
  rintro e w2 ⟨A2, cap2, rfl, hown2, hb2⟩
  have hB2 := belowT hB1 hb2
  have hown3 := ownsRow_base2 hown2 hB1.size
  have HOWN := Lib.hid hown3
  clear hown2 hown3 hb2 q0
  go_wp2
  go_ret3
  exact ⟨A2, cap2, rfl, HOWN.out, hB2⟩
end Go.Proofs.Ytblbbhenmhkknaa
