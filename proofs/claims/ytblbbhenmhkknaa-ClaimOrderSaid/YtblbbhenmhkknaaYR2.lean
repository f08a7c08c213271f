/- ANY truth of an estate, by turns. -/
import Derived.Deep.RegionHeld3
import Derived.Deep.RegionWith
import Derived.Deep.RegionLaw
import Derived.Deep.AppendLies
import Derived.Deep.DeepCutAuto
import Derived.Deep.DrawnRows
import Derived.Test.YtblbbhenmhkknaaZ6bda3e
import Derived.Test.YtblbbhenmhkknaaYW29
namespace Go.Proofs.Ytblbbhenmhkknaa
open Go.RowKit
attribute [local go_sem ↓] Go.wp_at_zero Go.wp_at_succ

/-- The proceeds and the cents of ANY truth. -/
def anyP (lo hi : Int) (us : List Int) : Int := amongI lo hi (turnI us 0)
def anyD (cs : List Clm) (us : List Int) (k : Nat) : List Int := (List.range k).map fun i => match cs[i]? with | some c => amongI c.lo c.hi (turnI us (i + 1)) | none => 0
theorem anyD_succ {cs : List Clm} {us : List Int} {k : Nat} {c : Clm} (h : cs[k]? = some c) : anyD cs us (k + 1) = anyD cs us k ++ [amongI c.lo c.hi (turnI us (k + 1))] := by
  unfold anyD; rw [List.range_succ, List.map_append]; simp [h]
theorem anyD_len (cs : List Clm) (us : List Int) (k : Nat) : (anyD cs us k).length = k := by simp [anyD]

theorem keepS {w : World} {b o g k : Nat} {v u : Value} (h : w.cell? ⟨b, o, none⟩ = some v) (hne : b ≠ g) : (w.setCell ⟨g, k, none⟩ u).cell? ⟨b, o, none⟩ = some v :=
  (World.cell?_of_block (w := w) (a := ⟨b, o, none⟩) (Below.heap_setCell w ⟨g, k, none⟩ u b hne)).trans h
structure AnyInv (g base : Nat) (W1 wr : World) (P : Int) (v : Value) (k : Nat) (xs : List Value) : Prop where
  c0 : wr.cell? ⟨g, 0, none⟩ = some (.int .i64 P)
  c1 : wr.cell? ⟨g, 1, none⟩ = some v
  fz : ∀ o, wr.frozen? ⟨g, o, none⟩ = false
  own : wr.ownsRow base 3 1 v k xs
  size : base ≤ wr.heap.size
  glt : g < base
  below : Below W1.heap.size W1 wr
def AnyPost (lo hi : Int) (cs : List Clm) (us : List Int) (w : World) (e : Ending) (w' : World) : Prop :=
  ∃ A cap, e = .returned (.agg #[iv (anyP lo hi us), .slice A cs.length cap]) ∧ w'.ownsRow w.heap.size 3 1 (.slice A cs.length cap) cs.length ((anyD cs us cs.length).map iv) ∧ Below w.heap.size w w'

set_option maxRecDepth 100000 in
set_option maxHeartbeats 4000000 in
theorem any_any (lo hi : Int) (A U : Option Addr) (cs : List Clm) (us : List Int) (B cap capU : Nat) (w : World) (hR : RdN 4 encClm w B A cs) (hB : B ≤ w.heap.size) (hU : Rd1 uv w B U us) (hul : us.length ≤ maxLen) (hub : ∀ x ∈ us, 0 ≤ x ∧ x ≤ 4294967295) (hE : estErr lo hi cs = 0) :
    Calls Try.prog 48 #[.agg #[.int .i64 lo, .int .i64 hi, .slice A cs.length cap], .slice U us.length capU] w (AnyPost lo hi cs us w) := by
  obtain ⟨i3, hi3, hz30, hz31, hz32⟩ := info_parts Try.info3
  have hest := est_ok hE
  have hle8 := hest.len.2
  have hsp := hest.span
  have heach := hest.each
  have HEACH := Lib.hid heach
  have HUB := Lib.hid hub
  have ht0 := turnI_bd us 0 hub
  obtain ⟨T0, hT0⟩ : ∃ T0, turnI us 0 = T0 := ⟨_, rfl⟩
  rw [hT0] at ht0
  have ht00 := ht0.1
  have ht01 := ht0.2
  have hsp0 := hsp.1
  have hsp1 := hsp.2.1
  have hsp2 := hsp.2.2
  obtain ⟨W1, hW1⟩ : ∃ W1, (w.alloc (.cells #[.int .i64 lo, .int .i64 hi, .slice A cs.length cap] 42)).alloc (.cells #[.int .i64 0, .slice none 0 0] 44) = W1 := ⟨_, rfl⟩
  have hb0 : Below w.heap.size w W1 := by rw [← hW1]; exact belowA (belowA (belowR _) _) _
  have p0 : W1.cell? ⟨w.heap.size, 0, none⟩ = some (.int .i64 lo) := by rw [← hW1]; clear hW1; go_simp
  have p1 : W1.cell? ⟨w.heap.size, 1, none⟩ = some (.int .i64 hi) := by rw [← hW1]; clear hW1; go_simp
  have p2 : W1.cell? ⟨w.heap.size, 2, none⟩ = some (.slice A cs.length cap) := by rw [← hW1]; clear hW1; go_simp
  have q0 : W1.cell? ⟨w.heap.size + 1, 0, none⟩ = some (.int .i64 0) := by rw [← hW1]; clear hW1; go_simp
  have q1 : W1.cell? ⟨w.heap.size + 1, 1, none⟩ = some (.slice none 0 0) := by rw [← hW1]; clear hW1; go_simp
  have fz : ∀ o, W1.frozen? ⟨w.heap.size + 1, o, none⟩ = false := fun o => by rw [← hW1]; clear hW1; go_simp
  have HT1 : Hid (Calls Try.prog 49 #[.slice U us.length capU, .int .i64 0] W1.drew fun e w' => e = .returned (iv T0) ∧ W1.drew = w') := Lib.hid (by rw [← hT0]; exact turn_any U us B capU 0 W1.drew hul ((hU.below hb0 hB).keep (fun _ _ => rfl)) hub (by omega))
  have HT2 : Hid (Calls Try.prog 49 #[.slice U us.length capU, .int .i64 0] (W1.alloc (.cells #[.int .i64 0, .slice none 0 0] 44)).drew fun e w' => e = .returned (iv T0) ∧ (W1.alloc (.cells #[.int .i64 0, .slice none 0 0] 44)).drew = w') := Lib.hid (by rw [← hT0]; exact turn_any U us B capU 0 (W1.alloc (.cells #[.int .i64 0, .slice none 0 0] 44)).drew hul (((hU.below hb0 hB).alloc (Nat.le_trans hB hb0.size) (.cells #[.int .i64 0, .slice none 0 0] 44)).keep (fun _ _ => rfl)) hub (by omega))
  have HP : Hid (anyP lo hi us = amongI lo hi T0) := Lib.hid (by unfold anyP; rw [hT0])
  have HFZ := Lib.hid fz
  have HB0 := Lib.hid hb0
  have HR1 := Lib.hid (hR.below hb0 hB)
  have HU1 := Lib.hid (hU.below hb0 hB)
  have HQ : Hid (W1.cell? ⟨w.heap.size, 2, none⟩ = some (.slice A cs.length cap) ∧ W1.cell? ⟨w.heap.size + 1, 0, none⟩ = some (.int .i64 0) ∧ W1.cell? ⟨w.heap.size + 1, 1, none⟩ = some (.slice none 0 0)) := Lib.hid ⟨p2, q0, q1⟩
  have hz1 : w.heap.size + 1 < W1.heap.size := lt_of_cell q0
  clear hE hest heach hub ht0 hsp fz hb0 hT0 hU hR p2 q0 q1
  go_enter Try.func48, Try.ntmps48
  go_wp2
  clear hW1
  go_upto_region 1 with fail
  go_cut [5] (fun s5 wx => ∃ g : Nat, s5 = .pointer (some ⟨g, 0, none⟩) ∧ W1.heap.size ≤ g ∧ wx.cell? ⟨g, 0, none⟩ = some (.int .i64 (anyP lo hi us)) ∧ wx.cell? ⟨g, 1, none⟩ = some (.slice none 0 0) ∧ (∀ o, wx.frozen? ⟨g, o, none⟩ = false) ∧ Below W1.heap.size W1 wx)
  case first =>
    have hne1 : w.heap.size ≠ W1.heap.size := by omega
    have X0 : (W1.alloc (.cells #[.int .i64 0, .slice none 0 0] 44)).drew.cell? ⟨W1.heap.size, 0, none⟩ = some (.int .i64 0) := by go_simp
    have X1 : (W1.alloc (.cells #[.int .i64 0, .slice none 0 0] 44)).drew.cell? ⟨W1.heap.size, 1, none⟩ = some (.slice none 0 0) := by go_simp
    have XF : ∀ o, (W1.alloc (.cells #[.int .i64 0, .slice none 0 0] 44)).drew.frozen? ⟨W1.heap.size, o, none⟩ = false := fun o => by go_simp
    have HM1 := Lib.hid (among_any lo hi T0 W1.drew hsp0 hsp1 hsp2 ht00 ht01)
    have HM2 := Lib.hid (among_any lo hi T0 (W1.alloc (.cells #[.int .i64 0, .slice none 0 0] 44)).drew hsp0 hsp1 hsp2 ht00 ht01)
    go_region_held3 (fun w' => w'.cell? ⟨w.heap.size, 0, none⟩ = some (.int .i64 lo) ∧ w'.cell? ⟨w.heap.size, 1, none⟩ = some (.int .i64 hi)) (first | exact ⟨p0, p1⟩ | exact ⟨keepA p0 _, keepA p1 _⟩ | exact ⟨keepC hb3 p0, keepC hb3 p1⟩ | exact ⟨keepC hb3 (keepA p0 _), keepC hb3 (keepA p1 _)⟩ | exact ⟨keepA (keepC hb3 p0) _, keepA (keepC hb3 p1) _⟩ | exact ⟨keepS (keepS (keepC hb3 (keepA p0 _)) hne1) hne1, keepS (keepS (keepC hb3 (keepA p1 _)) hne1) hne1⟩ | go_keep) (first | (go_at_call 49; ((with_reducible refine HT1.out.mono ?_); rintro e w2 ⟨rfl, rfl⟩)) | (go_at_call 49; ((with_reducible refine HT2.out.mono ?_); rintro e w2 ⟨rfl, rfl⟩)) | (go_at_call 53; ((with_reducible refine HM1.out.mono ?_); rintro e w3 ⟨rfl, hb3⟩)) | (go_at_call 53; ((with_reducible refine HM2.out.mono ?_); rintro e w3 ⟨rfl, hb3⟩; have s0 : w3.cell? ⟨W1.heap.size, 0, none⟩ = some (.int .i64 0) := keepC hb3 X0; have s1 : w3.cell? ⟨W1.heap.size, 1, none⟩ = some (.slice none 0 0) := keepC hb3 X1; have s2 : w3.frozen? ⟨W1.heap.size, 0, none⟩ = false := (keepF hb3 X0).trans (XF 0); have s3 : w3.frozen? ⟨W1.heap.size, 1, none⟩ = false := (keepF hb3 X1).trans (XF 1))))
    all_goals go_wp2_with fail
    all_goals go_meet
    all_goals first
      | exact ⟨w3.heap.size, rfl, (undrew0 hb3).size, by rw [HP.out]; go_simp, by go_simp, fun o => by go_simp, belowA (undrew0 hb3) _⟩
      | exact ⟨W1.heap.size, rfl, Nat.le_refl _, by rw [HP.out]; go_simp, by go_simp, fun o => by rw [World.frozen?_setCell, World.frozen?_setCell]; exact (hb3.frozen (p := ⟨W1.heap.size, o, none⟩) (by simp)).trans (XF o), belowS (belowS (belowT (belowA (belowR _) (.cells #[.int .i64 0, .slice none 0 0] 44)) (undrew0 hb3)) (by simp) _) (by simp) _⟩
  case rest =>
    obtain ⟨g, rfl, hg0, c0, c1, cf, hbx⟩ := hcut
    obtain ⟨wx, rfl⟩ : ∃ W, W = wc := ⟨_, rfl⟩
    clear HT1 HT2
    have hinv : AnyInv g wx.heap.size W1 wx (anyP lo hi us) (.slice none 0 0) 0 ((anyD cs us 0).map iv) := ⟨c0, c1, cf, World.ownsRow_nil _ _ _ _, Nat.le_refl _, lt_of_cell c0, hbx⟩
    have HINV := Lib.hid hinv
    clear hinv c0 c1 cf hbx p0 p1
    go_wp2
    go_loopw [6] (fun vi wr => ∃ (k : Nat) (v : Value), k ≤ cs.length ∧ vi = .int .i64 k ∧ Hid (AnyInv g wx.heap.size W1 wr (anyP lo hi us) v k ((anyD cs us k).map iv))) (fun vi _ => cs.length - (intOf vi).toNat)
    case atStart => exact ⟨0, _, Nat.zero_le _, rfl, HINV⟩
    case round =>
      clear HINV
      obtain ⟨k, v, hk, rfl, HI⟩ := hrel
      obtain ⟨c0, c1, cf, own, hsz, hgl, hbw⟩ := HI.out
      have a2 := keepC hbw HQ.out.1
      have OWN := Lib.hid own
      have CF := Lib.hid cf
      have HBW := Lib.hid hbw
      have hzb := hbw.size
      clear own cf
      by_cases hlt : k < cs.length
      · obtain ⟨c, hx⟩ : ∃ x, cs[k]? = some x := ⟨_, List.getElem?_eq_getElem hlt⟩
        have hRr := (HR1.out.below hbw (by omega))
        have hUr := (HU1.out.below hbw (by omega))
        have hsn := anyD_succ (us := us) hx
        have hcb := HEACH.out c (List.mem_of_getElem? hx)
        have htb := turnI_bd us (k + 1) HUB.out
        obtain ⟨b, off, rfl, _, e0, e1, e2, e3⟩ := clmAt hRr hx
        obtain ⟨name, rank, clo, chi⟩ := c
        simp only at e0 e1 e2 e3 hcb hsn
        have HT : Hid (Calls Try.prog 49 #[.slice U us.length capU, .int .i64 ((k : Int) + 1)] wr.drew fun e w' => e = .returned (iv (turnI us (k + 1))) ∧ wr.drew = w') := Lib.hid (by
          have := turn_any U us B capU (k + 1) wr.drew hul (hUr.keep (fun _ _ => rfl)) HUB.out (by omega)
          rwa [show ((k + 1 : Nat) : Int) = (k : Int) + 1 from by omega] at this)
        obtain ⟨T, hT⟩ : ∃ T, turnI us (k + 1) = T := ⟨_, rfl⟩
        rw [hT] at HT hsn htb
        have ht0 := htb.1
        have ht1 := htb.2
        have hc0 := hcb.2.2.2.1
        have hc1 := hcb.2.2.2.2.1
        have hc2 := hcb.2.2.2.2.2
        have HM := Lib.hid (among_any clo chi T wr.drew hc0 hc1 hc2 ht0 ht1)
        obtain ⟨X, hX⟩ : ∃ X, amongI clo chi T = X := ⟨_, rfl⟩
        rw [hX] at HM hsn
        have HSN := Lib.hid hsn
        have hkz : (k : Int) < (cs.length : Int) := by omega
        have hk0 : (0 : Int) ≤ (k : Int) := by omega
        have hwr : IntKind.i64.wrap ((k : Int) + 1) = (k : Int) + 1 := by rw [IntKind.wrap_i64]; omega
        have hk9 : k + 1 ≤ maxLen := by unfold maxLen; omega
        have hk8 : (k + 1) * 8 ≤ 140737488355328 := by omega
        clear hRr hUr hx hsn hcb htb hT hX hbw e0 e1
        go_upto_region 5 with fail
        go_region_law (first | (have z3 := keepC hb3 c1; have hownA := (own_below OWN.out (undrew0 hb3)).alloc (.cells #[.int .i64 X] 3); refine step_append_lies _ (by rfl) _ _ _ (by rfl) wx.heap.size 3 i3 _ 1 8 Try.underlying32 hi3 hz30 hz31 hz32 rfl (by omega) _ k _ (by rfl) hownA ⟨w3.heap.size, 0, none⟩ 1 1 [.int .i64 X] (by rfl) (by rfl) (World.news_of_block (cs := #[.int .i64 X]) (t := 3) (fr := (0, 0)) (heap_alloc_new w3 _)) (by simp [Value.oneCell']) (by omega) hk9 hk8 (Nat.le_trans hsz (Nat.le_trans (undrew0 hb3).size (Nat.le_of_lt (by simp)))) (w3.heap.size + 1) (by simp) ?_; intro gg cap9 w5 hown5 hgrow hat hlt5; have y1 : w5.cell? ⟨g, 1, none⟩ = some v := grownC hownA hgrow hgl (keepA z3 _); have y2 : w5.frozen? ⟨g, 1, none⟩ = false := ((grownF hownA hgrow hgl (keepA z3 _)).trans (keepAF (lt_of_cell z3) 1 _)).trans ((keepF (undrew0 hb3) c1).trans (CF.out 1))) | (go_simp; go_at_call 49; ((with_reducible refine HT.out.mono ?_); rintro e w2 ⟨rfl, rfl⟩)) | (go_simp; go_at_call 53; ((with_reducible refine HM.out.mono ?_); rintro e w3 ⟨rfl, hb3⟩; have z1 : w3.cell? ⟨g, 1, none⟩ = some v := keepC hb3 c1; have z2 := fun ob => keepA z1 ob)))
        all_goals
          have hB5 : Below W1.heap.size W1 w5 := grownB (a := W1) hownA hgrow (by omega) (belowA (belowT HBW.out (undrew0 hb3)) _)
          have y3 : w5.cell? ⟨g, 0, none⟩ = some (.int .i64 (anyP lo hi us)) := grownC hownA hgrow hgl (keepA (keepC hb3 c0) _)
          have y4 : ∀ o, w5.frozen? ⟨g, o, none⟩ = false := fun o => (grownFz hownA hgrow o hgl (by have := lt_of_cell z3; simp; omega)).trans ((keepAF (lt_of_cell z3) o _).trans ((World.frozen?_of_block (w := wr) (a := ⟨g, o, none⟩) ((undrew0 hb3).block g (lt_of_cell c1))).trans (CF.out o)))
          have hinv : AnyInv g wx.heap.size W1 (w5.setCell ⟨g, 1, none⟩ (.slice (some ⟨gg, 0, none⟩) (k + 1) cap9)) (anyP lo hi us) (.slice (some ⟨gg, 0, none⟩) (k + 1) cap9) (k + 1) ((anyD cs us (k + 1)).map iv) := by
            refine ⟨by go_simp, by go_simp, fun o => by rw [World.frozen?_setCell]; exact y4 o, ?_, by simp only [World.size_setCell]; have := hgrow.size; have := hb3.size; simp at *; omega, hgl, belowS hB5 hg0 _⟩
            rw [HSN.out, List.map_append]
            exact ownsRow_setCell_below hown5 (a := ⟨g, 1, none⟩) hgl _
          have HINV := Lib.hid hinv
          clear hinv hown5 hgrow hownA y1 y2 y3 y4 hB5 hb3 z1 z2 z3 hat hlt5
          go_wp2
          go_roundw
          case rel => exact ⟨k + 1, _, by omega, by go_num, HINV⟩
          case measure => simp [intOf]; omega
      · obtain rfl : k = cs.length := by omega
        obtain ⟨A2, cap2, rfl, _⟩ := own_rd1 (xs := anyD cs us cs.length) (enc := iv) (by rw [anyD_len]; exact OWN.out)
        rw [anyD_len] at c1 OWN
        have d0 : wr.cell? ⟨w.heap.size + 1, 0, none⟩ = some (.int .i64 0) := keepC HBW.out HQ.out.2.1
        have d1 : wr.cell? ⟨w.heap.size + 1, 1, none⟩ = some (.slice none 0 0) := keepC HBW.out HQ.out.2.2
        have df : ∀ o, wr.frozen? ⟨w.heap.size + 1, o, none⟩ = false := fun o => (World.frozen?_of_block (w := W1) (a := ⟨w.heap.size + 1, o, none⟩) (HBW.out.block _ hz1)).trans (HFZ.out o)
        have f0 := df 0
        have f1 := df 1
        have hown2 := ownsRow_setCell_below (ownsRow_setCell_below OWN.out (a := ⟨w.heap.size + 1, 0, none⟩) (by simp; omega) (.int .i64 (anyP lo hi us))) (a := ⟨w.heap.size + 1, 1, none⟩) (by simp; omega) (.slice A2 cs.length cap2)
        have HOWN := Lib.hid (ownsRow_base2 hown2 (show w.heap.size ≤ wx.heap.size by omega))
        clear df hown2
        go_wp2
        have r0 : ((wr.setCell ⟨w.heap.size + 1, 0, none⟩ (.int .i64 (anyP lo hi us))).setCell ⟨w.heap.size + 1, 1, none⟩ (.slice A2 cs.length cap2)).cell? ⟨w.heap.size + 1, 0, none⟩ = some (.int .i64 (anyP lo hi us)) := by go_simp
        have r1 : ((wr.setCell ⟨w.heap.size + 1, 0, none⟩ (.int .i64 (anyP lo hi us))).setCell ⟨w.heap.size + 1, 1, none⟩ (.slice A2 cs.length cap2)).cell? ⟨w.heap.size + 1, 1, none⟩ = some (.slice A2 cs.length cap2) := by go_simp
        exact bodyPost_ret (v := .agg #[iv (anyP lo hi us), .slice A2 cs.length cap2]) (by simp [results, Try.results48, go_sem, r0, r1]) rfl ⟨A2, cap2, rfl, HOWN.out, belowS (belowS (belowT HB0.out HBW.out) (by simp) _) (by simp) _⟩
end Go.Proofs.Ytblbbhenmhkknaa
