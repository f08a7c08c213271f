/- The reference: Cost (F31) of a further claim that is told as it has to be. ClaimPays: the law, of any estate, truth and further claim. -/
import Derived.Test.YtblbbhenmhkknaaZc389e5
import Derived.Test.YtblbbhenmhkknaaYS4
import Derived.Test.YtblbbhenmhkknaaYS5
import Derived.Test.YtblbbhenmhkknaaYC8
namespace Go.Proofs.Ytblbbhenmhkknaa
open Go.RowKit

theorem srcs_rdN {α : Type} {k : Nat} (hk : 0 < k) {enc : α → List Value} (he : ∀ x, (enc x).length = k) {w : World} {B cap : Nat} {A : Option Addr} {xs : List α} (h0 : 0 < xs.length) (hR : RdN k enc w B A xs) (h1 : ∀ x, ∀ u ∈ enc x, u.oneCell' = true) : Srcs w k (.slice A xs.length cap) xs.length (xs.flatMap enc) := by
  obtain ⟨b, off, e, _, _⟩ := hR 0 _ (List.getElem?_eq_getElem h0)
  subst e
  refine .inr ⟨⟨b, off, none⟩, cap, rfl, flat_len he xs, ?_, ?_⟩
  · intro j u hu
    rw [add_off]
    exact flat_cells hk he hR j u hu
  · intro u hu
    obtain ⟨c, _, hc⟩ := List.mem_flatMap.1 hu
    exact h1 c u hc
theorem srcs_rd1 {α : Type} {enc : α → Value} {w : World} {B cap n : Nat} {A : Option Addr} {xs : List α} (hn : xs.length = n) (h0 : 0 < n) (hR : Rd1 enc w B A xs) (h1 : ∀ x, (enc x).oneCell' = true) : Srcs w 1 (.slice A n cap) n (xs.map enc) := by
  subst hn
  obtain ⟨b, off, e, _, _⟩ := hR 0 _ (List.getElem?_eq_getElem h0)
  subst e
  refine .inr ⟨⟨b, off, none⟩, cap, rfl, by simp, ?_, ?_⟩
  · intro j u hu
    rw [add_off]
    exact row_cells hR j u hu
  · intro u hu
    obtain ⟨c, _, rfl⟩ := List.mem_map.1 hu
    exact h1 c

def AfterR (V : World) (n : Nat) (L : List Int) (x _y : Value) (W' : World) : Prop := ∃ A4 cap4, x = .slice A4 n cap4 ∧ W'.ownsRow V.heap.size 3 1 x n (L.map iv) ∧ Below V.heap.size V W'

theorem cost_after {lo hi : Int} {cs : List Clm} {P : Int} {ds : List Int} {f : Clm} (hto : TruthOk lo hi cs P ds) (_h8 : cs.length ≠ 8) (hT : toldE cs f = 0) (hfl : f.lo = f.hi) {V W : World} {v39 v48 : Value} (hL : LiveB V W [some ⟨v39, 46, 4, 0 + cs.length + 1, [] ++ cs.flatMap encClm ++ [.string f.name, .int .i64 f.rank, .int .i64 f.lo, .int .i64 f.hi]⟩, none, some ⟨v48, 3, 1, 0 + cs.length + 1, [] ++ ds.map iv ++ [.int .i64 f.lo]⟩, none]) :
    Calls Try.prog 76 #[v39, v48, .int .i64 P] W fun e W' => ∃ x y, e = .returned (.tuple #[x, y]) ∧ AfterR V (cs.length + 1) (pays (jlF cs ds f) P) x y W' := by
  have hest := est_ok hto.est
  have h8' := hest.len.2
  have hsp := hest.span
  have hpro := hto.pro
  have h1 : W.ownsRow V.heap.size 46 4 v39 (0 + cs.length + 1) ([] ++ cs.flatMap encClm ++ [.string f.name, .int .i64 f.rank, .int .i64 f.lo, .int .i64 f.hi]) := live_own hL.2 (i := 0) rfl
  have h2 : W.ownsRow V.heap.size 3 1 v48 (0 + cs.length + 1) ([] ++ ds.map iv ++ [.int .i64 f.lo]) := live_own hL.2 (i := 2) rfl
  have e1 : [] ++ cs.flatMap encClm ++ [.string f.name, .int .i64 f.rank, .int .i64 f.lo, .int .i64 f.hi] = (cs ++ [f]).flatMap encClm := by simp [encClm]
  have e2 : 0 + cs.length + 1 = (cs ++ [f]).length := by simp
  have e3 : [] ++ ds.map iv ++ [.int .i64 f.lo] = (ds ++ [f.lo]).map iv := by simp
  have e4 : 0 + cs.length + 1 = (ds ++ [f.lo]).length := by simp [hto.len]
  rw [e1, e2] at h1
  rw [e3, e4] at h2
  obtain ⟨A1, cap1, rfl, hR1, _, _, _⟩ := own_rdN enc4_len h1
  obtain ⟨A2, cap2, rfl, hR2, _⟩ := own_rd1 h2
  have hll : (jlF cs ds f).length = (cs ++ [f]).length := by rw [jlF_len]; simp
  refine (refPaid_any A1 A2 (cs ++ [f]) (ds ++ [f.lo]) (jlF cs ds f) W.heap.size W.heap.size cap1 cap2 P W hll (by simp [hto.len]) (by simp; omega) (by omega) (by omega) (jlF_ok hto hT) (fun i c d hc hd => ?_) hR1 (Nat.le_refl _) hR2 (Nat.le_refl _)).mono ?_
  · rw [← jl_snoc hto.len hfl, jl_at hc, getD_at' hd]
  · rintro e W' ⟨A4, cap4, rfl, hown, hb⟩
    rw [jlF_len] at hown ⊢
    exact ⟨_, _, rfl, A4, cap4, rfl, ownsRow_base2 hown hL.1.size, belowT hL.1 hb⟩

set_option maxRecDepth 100000 in
set_option maxHeartbeats 4000000 in
theorem refCost_yes (lo hi : Int) (A D : Option Addr) (cs : List Clm) (B cap capD : Nat) (P : Int) (ds : List Int) (f : Clm) (w : World) (hm : cs.length ≤ cap) (hcm : cap ≤ maxLen) (hok : ClmsOk cs) (hfs : f.name.size ≤ maxLen) (hR : RdN 4 encClm w B A cs) (hB : B ≤ w.heap.size) (hD : Rd1 iv w B D ds) (hdm : ds.length ≤ maxLen) (hE : furtherE lo hi cs P ds f = 0) :
    Calls Try.prog 31 #[.agg #[.int .i64 lo, .int .i64 hi, .slice A cs.length cap], .agg #[.int .i64 P, .slice D ds.length capD], .agg #[.string f.name, .int .i64 f.rank, .int .i64 f.lo, .int .i64 f.hi]] w (RowC (costL cs P ds f) 0 w) := by
  obtain ⟨hE1, h8, hT, hfl⟩ := furtherE_ok hE
  have hto := (truthE_ok hE1).1
  have hest := est_ok hto.est
  have hge1 := hest.len.1
  have hl7 : cs.length ≤ 7 := by have := hest.len.2; omega
  obtain ⟨W1, hW1⟩ : ∃ W1, ((w.alloc (.cells #[.int .i64 lo, .int .i64 hi, .slice A cs.length cap] 42)).alloc (.cells #[.int .i64 P, .slice D ds.length capD] 44)).alloc (.cells #[.string f.name, .int .i64 f.rank, .int .i64 f.lo, .int .i64 f.hi] 46) = W1 := ⟨_, rfl⟩
  have hb0 : Below w.heap.size w W1 := by rw [← hW1]; exact belowA (belowA (belowA (belowR _) _) _) _
  have hop := refFurther_any lo hi A D cs B cap capD P ds f W1 hm hcm hok hfs (hR.below hb0 hB) (Nat.le_trans hB hb0.size) (hD.below hb0 hB) hdm
  have hpd := fun W (hR : RdN 4 encClm W B A cs) (hD : Rd1 iv W B D ds) (hB : B ≤ W.heap.size) => refPaid_any A D cs ds (jl cs ds) B B cap capD P W (jl_len cs ds) hto.len (by omega) (by have := hest.span; have := hto.pro; omega) (by have := hest.span; have := hto.pro; omega) hto.ok3 (fun i c d hc hd => by rw [jl_at hc, getD_at' hd]) hR hB hD hB
  unfold PaidPost at hpd
  rw [jl_len] at hpd
  rw [hE] at hop
  have hca := fun V W v39 v48 => @cost_after lo hi cs P ds f hto h8 hT hfl V W v39 v48
  rw [hto.len] at hop hpd hW1 ⊢
  have p0 : W1.cell? ⟨w.heap.size, 0, none⟩ = some (.int .i64 lo) := by rw [← hW1]; clear hW1; go_simp
  have p1 : W1.cell? ⟨w.heap.size, 1, none⟩ = some (.int .i64 hi) := by rw [← hW1]; clear hW1; go_simp
  have p2 : W1.cell? ⟨w.heap.size, 2, none⟩ = some (.slice A cs.length cap) := by rw [← hW1]; clear hW1; go_simp
  have q0 : W1.cell? ⟨w.heap.size + 1, 0, none⟩ = some (.int .i64 P) := by rw [← hW1]; clear hW1; go_simp
  have q1 : W1.cell? ⟨w.heap.size + 1, 1, none⟩ = some (.slice D cs.length capD) := by rw [← hW1]; clear hW1; go_simp
  have f0 : W1.cell? ⟨w.heap.size + 1 + 1, 0, none⟩ = some (.string f.name) := by rw [← hW1]; clear hW1; go_simp
  have f1 : W1.cell? ⟨w.heap.size + 1 + 1, 1, none⟩ = some (.int .i64 f.rank) := by rw [← hW1]; clear hW1; go_simp
  have f2 : W1.cell? ⟨w.heap.size + 1 + 1, 2, none⟩ = some (.int .i64 f.lo) := by rw [← hW1]; clear hW1; go_simp
  have f3 : W1.cell? ⟨w.heap.size + 1 + 1, 3, none⟩ = some (.int .i64 f.hi) := by rw [← hW1]; clear hW1; go_simp
  have hz1 : w.heap.size + 1 + 1 < W1.heap.size := lt_of_cell f0
  have HB0 := Lib.hid hb0
  have HOP := Lib.hid hop
  have HPD := Lib.hid hpd
  have HCA := Lib.hid hca
  have HR1 := Lib.hid (hR.below hb0 hB)
  have HD1 := Lib.hid (hD.below hb0 hB)
  have HTO := Lib.hid hto
  have HOK3 := Lib.hid hto.ok3
  have HOKF := Lib.hid (jlF_ok hto hT)
  have HLEN := Lib.hid hto.len
  have HF4 := Lib.hid (And.intro f0 (And.intro f1 (And.intro f2 f3)))
  have hrow : ∀ L : List Int, costL cs P ds f = L → L.length = cs.length := fun L h => by rw [← h]; exact costL_len _ _ _ _
  obtain ⟨L, hL⟩ : ∃ l, costL cs P ds f = l := ⟨_, rfl⟩
  rw [hL]
  have HLL := Lib.hid (hrow L hL)
  have HL := Lib.hid hL
  clear hop hpd hca hto hest hE hE1 hT hfl hb0 hR hD hL hrow h8
  go_enter Try.func31, Try.ntmps31
  go_wp2_with fail
  refine HOP.out.mono ?_
  rintro e w1 ⟨rfl, hb1⟩
  have p2 := keepC hb1 p2
  have q0 := keepC hb1 q0
  have q1 := keepC hb1 q1
  have hz2 := hb1.size
  have HB1 := Lib.hid hb1
  clear hb1 HOP hW1 p0 p1 f0 f1 f2 f3
  go_wp2_with fail
  refine (HPD.out _ (HR1.out.below HB1.out (by omega)) (HD1.out.below HB1.out (by omega)) (by omega)).mono ?_
  rintro e w2 ⟨A2, cap2, rfl, hown2, hb2⟩
  obtain ⟨g2, cap2', e2, hg2, hg2', _⟩ := own_form hown2 (by omega)
  injection e2 with e2 _ e2c
  subst e2
  clear e2c
  have p2 := keepC hb2 p2
  have q0 := keepC hb2 q0
  have q1 := keepC hb2 q1
  have hb12 := belowT HB1.out hb2
  have f0 := keepC hb12 HF4.out.1
  have f1 := keepC hb12 HF4.out.2.1
  have f2 := keepC hb12 HF4.out.2.2.1
  have f3 := keepC hb12 HF4.out.2.2.2
  have hC : Srcs w2 4 (.slice A cs.length cap) cs.length (cs.flatMap encClm) := srcs_rdN (by decide) enc4_len (by omega) (HR1.out.below hb12 (by omega)) (fun x u hu => by
    simp [encClm] at hu
    rcases hu with rfl | rfl | rfl | rfl <;> rfl)
  have hDs : Srcs w2 1 (.slice D cs.length capD) cs.length (ds.map iv) := srcs_rd1 HLEN.out (by omega) (HD1.out.below hb12 (by omega)) (fun _ => rfl)
  have HB2 := Lib.hid (belowT HB0.out hb12)
  have HO2 := Lib.hid hown2
  clear hown2 hb2 hb12
  go_upto_region 5 with fail
  refine reg31_5 (R := AfterR w2 (cs.length + 1) (pays (jlF cs ds f) P)) (by omega) hC hDs p2 q1 q0 f0 f1 f2 f3 (fun W v39 v48 => HCA.out w2 W v39 v48) (fun x y W' h => by obtain ⟨_, _, _, _, h⟩ := h; exact h) ?_
  rintro u32 u33 u34 u35 u36 u37 u38 u39 u40 u41 u42 u43 u44 u45 u46 u47 u48 u49 u50 u51 u52 u53 x y w3 ⟨A4, cap4, rfl, hown4, hb3⟩
  obtain ⟨g4, cap4', e4, hg4, hg4', _⟩ := own_form hown4 (by omega)
  injection e4 with e4 _ e4c
  subst e4
  clear e4c
  have HO3 := Lib.hid (own_below HO2.out hb3)
  have HO4 := Lib.hid hown4
  have HB3 := Lib.hid (belowT HB2.out hb3)
  have hz3 := hb3.size
  clear hown4 hb3 hC hDs p2 q0 q1 f0 f1 f2 f3 HO2
  go_wp2
  go_loopw [13, 14] (fun vx vk wr => ∃ (k : Nat) (vo : Value), k ≤ cs.length ∧ vk = .int .i64 k ∧ vo = vx ∧ Hid (wr.ownsRow w3.heap.size 3 1 vo k ((L.take k).map iv)) ∧ Hid (Below w3.heap.size w3 wr)) (fun _ vk _ => cs.length - (intOf vk).toNat)
  case atStart => exact ⟨0, _, Nat.zero_le _, rfl, rfl, Lib.hid (by rw [List.take_zero]; exact World.ownsRow_nil _ _ _ _), Lib.hid (belowR _)⟩
  case round =>
    obtain ⟨k, vo, hk, rfl, rfl, OWN, HBW⟩ := hrel
    by_cases hlt : k < cs.length
    · obtain ⟨x, hx, hx0, hx9⟩ := pays_at (P := P) HOK3.out (k := k) (by rw [jl_len]; exact hlt)
      obtain ⟨y, hy, hy0, hy9⟩ := pays_at (P := P) HOKF.out (k := k) (by rw [jlF_len]; omega)
      have hc1 := HO3.out.cellAt k (by omega)
      have hc2 := HO4.out.cellAt k (by omega)
      rw [List.getElem?_map, hx] at hc1
      rw [List.getElem?_map, hy] at hc2
      simp only [Option.map_some] at hc1 hc2
      have hLk : L[k]? = some (x - y) := by
        obtain ⟨c, hc⟩ : ∃ c, (jl cs ds)[k]? = some c := ⟨_, List.getElem?_eq_getElem (by rw [jl_len]; exact hlt)⟩
        have h1 := pays_get (P := P) hc
        have h2 := pays_get (P := P) (jlF_at (f := f) hc)
        rw [h1] at hx
        rw [h2] at hy
        rw [← HL.out, costL_at hc]
        injection hx with hx
        injection hy with hy
        rw [hx, hy]
      have hw : IntKind.i64.wrap (x - y) = x - y := by rw [IntKind.wrap_i64]; omega
      have hnx : (L.take (k + 1)).map iv = (L.take k).map iv ++ [.int .i64 (x - y)] := by
        rw [List.take_add_one, hLk]
        simp
      have HNX := Lib.hid hnx
      clear hnx hLk hx hy
      go_upto_region 10 with fail
      refine reg31_10 (a0 := w3) (base := w3.heap.size) hlt (by omega) hc1 hc2 hw OWN.out HBW.out (Nat.le_refl _) HBW.out.size ?_
      intro u60 u61 u62 u63 u64 u65 u66 u67 u68 u69 u70 u71 v13 wx hownx hbx hsx
      have HOX := Lib.hid hownx
      have HBX := Lib.hid hbx
      clear hownx hbx hc1 hc2 hw OWN HBW
      go_wp2
      go_roundw
      case rel => exact ⟨k + 1, _, by omega, by go_num, rfl, Lib.hid (by rw [HNX.out]; exact HOX.out), HBX⟩
      case measure => simp [intOf]; omega
    · obtain rfl : k = cs.length := by omega
      obtain ⟨A5, cap5, e5, hrd5⟩ : ∃ A cap, vo = .slice A cs.length cap ∧ Rd1 iv wr wr.heap.size A L := by
        have := OWN.out
        rw [List.take_of_length_le (by rw [HLL.out]; exact Nat.le_refl _)] at this
        rw [← HLL.out] at this ⊢
        obtain ⟨A5, cap5, e5, h5, _⟩ := own_rd1 this
        exact ⟨A5, cap5, e5, h5⟩
      subst e5
      have HRD := Lib.hid hrd5
      clear hrd5
      go_wp2
      refine bodyPost_ret (results_tmp2 rfl _ _ _) rfl ?_
      exact ⟨A5, cap5, by rw [HLL.out]; rfl, HRD.out, belowT HB3.out HBW.out⟩

end Go.Proofs.Ytblbbhenmhkknaa

namespace Go.Proofs.Ytblbbhenmhkknaa
open Go.RowKit

theorem paysLaw_any (lo hi : Int) (A D : Option Addr) (cs : List Clm) (B cap capD : Nat) (P : Int) (ds : List Int) (f : Clm) (w : World) (hm : cs.length ≤ cap) (hcm : cap ≤ maxLen) (hok : ClmsOk cs) (hfs : f.name.size ≤ maxLen) (hR : RdN 4 encClm w B A cs) (hB : B ≤ w.heap.size) (hD : Rd1 iv w B D ds) (hdl : ds.length ≤ capD) (hdc : capD ≤ maxLen) :
    Calls Try.prog 4 #[.agg #[.int .i64 lo, .int .i64 hi, .slice A cs.length cap], .agg #[.int .i64 P, .slice D ds.length capD], .agg #[.string f.name, .int .i64 f.rank, .int .i64 f.lo, .int .i64 f.hi]] w fun e w' => e = .returned (.bool true) ∧ Below w.heap.size w w' := by
  have hdm : ds.length ≤ maxLen := Nat.le_trans hdl hdc
  by_cases hE : furtherE lo hi cs P ds f = 0
  · obtain ⟨hE1, h8, hT, hfl⟩ := furtherE_ok hE
    have hest := est_ok (truthE_ok hE1).1.est
    exact paysLaw_walk lo hi A D cs B cap capD P ds f w hm hcm hok hR hB hD hdm ⟨costL cs P ds f, 0, by rw [costL_len]; have := hest.len.2; omega,
      fun w hR hB hD => cost_row lo hi A D cs B cap capD P ds f w hm hcm hok hfs hR hB hD hE1 h8 hT hfl (costL_len _ _ _ _),
      fun w hR hB hD => refCost_yes lo hi A D cs B cap capD P ds f w hm hcm hok hfs hR hB hD hdm hE⟩
  · exact paysLaw_bad lo hi A D cs B cap capD P ds f w hm hcm hok hfs hR hB hD hdm hE
end Go.Proofs.Ytblbbhenmhkknaa
