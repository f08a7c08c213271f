/- claim.summed: the sums of the claims of each rank. claim.summed, of the most cents. -/
import Derived.Deep.RegionWith
import Derived.Test.YtblbbhenmhkknaaZ6bda3e
namespace Go.Proofs.Ytblbbhenmhkknaa
open Go.RowKit

/-- The sum of something over the claims of a rank. -/
def sumR (f : Cl3 → Int) (l : List Cl3) (r : Int) : Int := (l.map fun c => if c.rank = r then f c else 0).sum
theorem sumR_snoc (f : Cl3 → Int) (l : List Cl3) (k : Nat) (c : Cl3) (h : l[k]? = some c) (r : Int) : sumR f (l.take (k + 1)) r = sumR f (l.take k) r + if c.rank = r then f c else 0 := by
  unfold sumR
  obtain ⟨hk, rfl⟩ := List.getElem?_eq_some_iff.1 h
  rw [List.take_succ_eq_append_getElem hk, List.map_append, List.sum_append]; simp
theorem sumR_bound {f : Cl3 → Int} : ∀ (l : List Cl3) (r : Int), (∀ x ∈ l, 0 ≤ f x ∧ f x ≤ 1000000000) → 0 ≤ sumR f l r ∧ sumR f l r ≤ l.length * 1000000000 := by
  intro l r
  induction l with
  | nil => intro _; simp [sumR]
  | cons x l ih =>
    intro h
    have h1 := ih fun y hy => h y (by simp [hy])
    have h2 := h x (by simp)
    unfold sumR at *
    simp only [List.map_cons, List.sum_cons, List.length_cons]
    split <;> omega
/-- Claims of a rank from 1 to 5, of cents within their bounds. -/
def C3Ok (l : List Cl3) : Prop := ∀ c ∈ l, 1 ≤ c.rank ∧ c.rank ≤ 5 ∧ 0 ≤ c.lo ∧ c.lo ≤ 1000000000 ∧ 0 ≤ c.hi ∧ c.hi ≤ 1000000000
def sums (f : Int → Int) : Value := .agg #[iv (f 0), iv (f 1), iv (f 2), iv (f 3), iv (f 4), iv (f 5)]
structure SumInv (h : Nat) (w wr : World) (f : Int → Int) : Prop where
  cell : ∀ r : Nat, r < 6 → wr.cell? ⟨h, r, none⟩ = some (.int .i64 (f r))
  fz : ∀ r : Nat, wr.frozen? ⟨h, r, none⟩ = false
  below : Below w.heap.size w wr
  size : h < wr.heap.size
theorem belowDr {B : Nat} {a w : World} (h : Below B a w) : Below B a w.drew := ⟨h.os, h.tape, h.output, h.size, h.block⟩
theorem SumInv.step {h : Nat} {w wr w4 : World} {f g : Int → Int} (hI : SumInv h w wr f) (hb : Below wr.heap.size wr w4) (hh : w.heap.size ≤ h) (r : Nat) (hr : r < 6) (v : Int) (hv : v = g r) (hg : ∀ q : Nat, q ≠ r → g q = f q) : SumInv h w (w4.setCell ⟨h, r, none⟩ (.int .i64 v)) g := by
  have hs := hI.size
  have hbw := hI.below
  have hz := hb.size
  refine ⟨fun q hq => ?_, fun q => ?_, (hbw.trans (hb.mono hbw.size)).setCell (by simpa using hh) _, by simp [World.setCell]; omega⟩
  · by_cases e : q = r
    · subst e
      have hc := keepC hb (hI.cell q hq)
      have := World.cell?_setCell_same' w4 ⟨h, q, none⟩ (.int .i64 v) (by rw [hc]; rfl)
      rw [this, hv]
    · have hc := keepC hb (hI.cell q hq)
      rw [hg q e]
      have := World.cell?_setCell_other w4 (⟨h, r, none⟩ : Addr) ⟨h, q, none⟩ (.int .i64 v) (by intro e2; injection e2 with _ e3; exact e e3.symm)
      rw [this]; exact hc
  · have := (keepF hb (hI.cell r hr))
    rw [World.frozen?_setCell]
    have h0 : w4.frozen? ⟨h, q, none⟩ = wr.frozen? ⟨h, q, none⟩ := World.frozen?_of_block (a := ⟨h, q, none⟩) (hb.block _ hs)
    rw [h0]; exact hI.fz q

set_option maxRecDepth 100000 in
set_option maxHeartbeats 4000000 in
theorem summed_lo (A : Option Addr) (l : List Cl3) (B cap : Nat) (w : World) (hm : l.length ≤ 9) (hok : C3Ok l) (hR : RdN 3 encC3 w B A l) (hB : B ≤ w.heap.size) :
    Calls Try.prog 106 #[.slice A l.length cap, .func (.func 107) #[] #[], .func (.func 83) #[] #[]] w fun e w' => e = .returned (sums (sumR Cl3.lo l)) ∧ Below w.heap.size w w' := by
  go_enter Try.func106, Try.ntmps106
  go_wp2
  obtain ⟨W0, hW0⟩ : ∃ W0, w.alloc (.cells #[.int .i64 0, .int .i64 0, .int .i64 0, .int .i64 0, .int .i64 0, .int .i64 0] 154) = W0 := ⟨_, rfl⟩
  have hI0 : SumInv w.heap.size w W0 (sumR Cl3.lo (l.take 0)) := by
    rw [← hW0]
    clear hW0
    simp only [List.take_zero]
    refine ⟨fun r hr => ?_, fun r => by go_simp, belowA (belowR _) _, by simp⟩
    match r, hr with
    | 0, _ => go_simp; rfl
    | 1, _ => go_simp; rfl
    | 2, _ => go_simp; rfl
    | 3, _ => go_simp; rfl
    | 4, _ => go_simp; rfl
    | 5, _ => go_simp; rfl
  rw [hW0]
  have HI0 := Lib.hid hI0
  clear hW0 hI0
  go_loopw [11] (fun i wr => ∃ k : Nat, k ≤ l.length ∧ i = .int .i64 k ∧ Hid (SumInv w.heap.size w wr (sumR Cl3.lo (l.take k)))) (fun i _ => l.length - (intOf i).toNat)
  case atStart => exact ⟨0, Nat.zero_le _, rfl, HI0⟩
  case round =>
    clear HI0 W0
    obtain ⟨k, hk, rfl, HI⟩ := hrel
    have hbw := HI.out.below
    have hzl := HI.out.size
    by_cases hlt : k < l.length
    · obtain ⟨c, hx⟩ : ∃ x, l[k]? = some x := ⟨_, List.getElem?_eq_getElem hlt⟩
      obtain ⟨b, off, rfl, hbB, e0, e1, e2⟩ := c3At (hR.below hbw hB) hx
      obtain ⟨hr1, hr5, hl0, hl9, hh0, hh9⟩ := hok c (List.mem_of_getElem? hx)
      have hsn := fun r => sumR_snoc Cl3.lo l k c hx r
      have hs0 := sumR_bound (f := Cl3.lo) (l.take k) c.rank (fun x hx => by have := hok x (List.mem_of_mem_take hx); exact ⟨this.2.2.1, this.2.2.2.1⟩)
      have hlk : (l.take k).length ≤ 9 := by rw [List.length_take]; omega
      obtain ⟨rank, lo, hi⟩ := c
      simp only at e0 e1 e2 hr1 hr5 hl0 hl9 hh0 hh9 hs0 hsn
      obtain ⟨r, rfl⟩ : ∃ r : Nat, rank = r := ⟨rank.toNat, by omega⟩
      obtain ⟨S, hS⟩ : ∃ S, sumR Cl3.lo (l.take k) (r : Int) = S := ⟨_, rfl⟩
      have hc : wr.cell? ⟨w.heap.size, r, none⟩ = some (.int .i64 S) := by rw [← hS]; exact HI.out.cell r (by omega)
      have hz := HI.out.fz r
      rw [hS] at hs0
      have hS2 : S ≤ 9000000000 := by have := hs0.2; omega
      have hS1 := hs0.1
      have HS := Lib.hid hS
      have HSN := Lib.hid hsn
      clear hs0 hS hsn hx hok
      have hgd : (decide ((0 : Int) ≤ (r : Int)) && decide ((r : Int) < 6)) = true := by simp; omega
      have hn1 : (r : Int) < 6 := by omega
      have hw0 : 0 ≤ (r : Int) := by omega
      have a0 : (wr.alloc (.cells #[.int .i64 r, .int .i64 lo, .int .i64 hi] 125)).drew.cell? ⟨w.heap.size, r, none⟩ = some (.int .i64 S) := keepA hc _
      have a1 : (wr.alloc (.cells #[.int .i64 r, .int .i64 lo, .int .i64 hi] 125)).drew.cell? ⟨wr.heap.size, 0, none⟩ = some (.int .i64 r) := by go_simp
      have a2 : (wr.alloc (.cells #[.int .i64 r, .int .i64 lo, .int .i64 hi] 125)).drew.cell? ⟨wr.heap.size, 1, none⟩ = some (.int .i64 lo) := by go_simp
      have a3 : (wr.alloc (.cells #[.int .i64 r, .int .i64 lo, .int .i64 hi] 125)).drew.cell? ⟨wr.heap.size, 2, none⟩ = some (.int .i64 hi) := by go_simp
      have az : (wr.alloc (.cells #[.int .i64 r, .int .i64 lo, .int .i64 hi] 125)).drew.frozen? ⟨w.heap.size, r, none⟩ = false := (keepAF hzl r _).trans hz
      have hwr : IntKind.i64.wrap (S + lo) = S + lo := by rw [IntKind.wrap_i64]; omega
      have HWR := Lib.hid hwr
      clear hwr
      go_wp2
      go_region_with (first | (go_at_call 107; refine (ranked1_any r lo hi _).mono ?_; rintro e w3 ⟨rfl, hb3⟩; have d0 := keepC hb3 a0; have d1 := keepC hb3 a1; have d2 := keepC hb3 a2; have d3 := keepC hb3 a3; have dz := (keepF hb3 a0).trans az) | (go_at_call 83; refine (least1_any r lo hi _).mono ?_; rintro e w4 ⟨rfl, hb4⟩; have k0 := keepC hb4 d0; have kz := (keepF hb4 d0).trans dz))
      all_goals
        have hB4 : Below wr.heap.size wr w4 := belowT (belowT (belowDr (belowA (belowR _) _)) hb3) hb4
        have hst := HI.out.step (g := sumR Cl3.lo (l.take (k + 1))) hB4 (Nat.le_refl _) r (by omega) (S + lo) (by rw [HSN.out, HS.out]; simp) (fun q hq => by rw [HSN.out, if_neg (by omega)]; simp)
        have HST := Lib.hid hst
        clear hst hB4 k0 kz d0 d1 d2 d3 dz hb3 hb4 a0 a1 a2 a3 az
        rw [HWR.out]
        go_wp2
        go_roundw
        case rel => exact ⟨k + 1, by omega, by go_num, HST⟩
        case measure => simp [intOf]; omega
    · obtain rfl : k = l.length := by omega
      have b0 := HI.out.cell 0 (by omega)
      have b1 := HI.out.cell 1 (by omega)
      have b2 := HI.out.cell 2 (by omega)
      have b3 := HI.out.cell 3 (by omega)
      have b4 := HI.out.cell 4 (by omega)
      have b5 := HI.out.cell 5 (by omega)
      have y0 := HI.out.fz 0
      have y1 := HI.out.fz 1
      have y2 := HI.out.fz 2
      have y3 := HI.out.fz 3
      have y4 := HI.out.fz 4
      have y5 := HI.out.fz 5
      rw [List.take_length] at b0 b1 b2 b3 b4 b5
      clear HI
      go_wp2
      exact bodyPost_ret (v := sums (sumR Cl3.lo l)) (by simp [results, Try.results106, go_sem, b0, b1, b2, b3, b4, b5, sums]) rfl ⟨rfl, belowS (belowS (belowS (belowS (belowS (belowS hbw (by simp) _) (by simp) _) (by simp) _) (by simp) _) (by simp) _) (by simp) _⟩
end Go.Proofs.Ytblbbhenmhkknaa

namespace Go.Proofs.Ytblbbhenmhkknaa
open Go.RowKit

set_option maxRecDepth 100000 in
set_option maxHeartbeats 4000000 in
theorem summed_hi (A : Option Addr) (l : List Cl3) (B cap : Nat) (w : World) (hm : l.length ≤ 9) (hok : C3Ok l) (hR : RdN 3 encC3 w B A l) (hB : B ≤ w.heap.size) :
    Calls Try.prog 106 #[.slice A l.length cap, .func (.func 107) #[] #[], .func (.func 84) #[] #[]] w fun e w' => e = .returned (sums (sumR Cl3.hi l)) ∧ Below w.heap.size w w' := by
  go_enter Try.func106, Try.ntmps106
  go_wp2
  obtain ⟨W0, hW0⟩ : ∃ W0, w.alloc (.cells #[.int .i64 0, .int .i64 0, .int .i64 0, .int .i64 0, .int .i64 0, .int .i64 0] 154) = W0 := ⟨_, rfl⟩
  have hI0 : SumInv w.heap.size w W0 (sumR Cl3.hi (l.take 0)) := by
    rw [← hW0]
    clear hW0
    simp only [List.take_zero]
    refine ⟨fun r hr => ?_, fun r => by go_simp, belowA (belowR _) _, by simp⟩
    match r, hr with
    | 0, _ => go_simp; rfl
    | 1, _ => go_simp; rfl
    | 2, _ => go_simp; rfl
    | 3, _ => go_simp; rfl
    | 4, _ => go_simp; rfl
    | 5, _ => go_simp; rfl
  rw [hW0]
  have HI0 := Lib.hid hI0
  clear hW0 hI0
  go_loopw [11] (fun i wr => ∃ k : Nat, k ≤ l.length ∧ i = .int .i64 k ∧ Hid (SumInv w.heap.size w wr (sumR Cl3.hi (l.take k)))) (fun i _ => l.length - (intOf i).toNat)
  case atStart => exact ⟨0, Nat.zero_le _, rfl, HI0⟩
  case round =>
    clear HI0 W0
    obtain ⟨k, hk, rfl, HI⟩ := hrel
    have hbw := HI.out.below
    have hzl := HI.out.size
    by_cases hlt : k < l.length
    · obtain ⟨c, hx⟩ : ∃ x, l[k]? = some x := ⟨_, List.getElem?_eq_getElem hlt⟩
      obtain ⟨b, off, rfl, hbB, e0, e1, e2⟩ := c3At (hR.below hbw hB) hx
      obtain ⟨hr1, hr5, hl0, hl9, hh0, hh9⟩ := hok c (List.mem_of_getElem? hx)
      have hsn := fun r => sumR_snoc Cl3.hi l k c hx r
      have hs0 := sumR_bound (f := Cl3.hi) (l.take k) c.rank (fun x hx => by have := hok x (List.mem_of_mem_take hx); exact ⟨this.2.2.2.2.1, this.2.2.2.2.2⟩)
      have hlk : (l.take k).length ≤ 9 := by rw [List.length_take]; omega
      obtain ⟨rank, lo, hi⟩ := c
      simp only at e0 e1 e2 hr1 hr5 hl0 hl9 hh0 hh9 hs0 hsn
      obtain ⟨r, rfl⟩ : ∃ r : Nat, rank = r := ⟨rank.toNat, by omega⟩
      obtain ⟨S, hS⟩ : ∃ S, sumR Cl3.hi (l.take k) (r : Int) = S := ⟨_, rfl⟩
      have hc : wr.cell? ⟨w.heap.size, r, none⟩ = some (.int .i64 S) := by rw [← hS]; exact HI.out.cell r (by omega)
      have hz := HI.out.fz r
      rw [hS] at hs0
      have hS2 : S ≤ 9000000000 := by have := hs0.2; omega
      have hS1 := hs0.1
      have HS := Lib.hid hS
      have HSN := Lib.hid hsn
      clear hs0 hS hsn hx hok
      have hgd : (decide ((0 : Int) ≤ (r : Int)) && decide ((r : Int) < 6)) = true := by simp; omega
      have hn1 : (r : Int) < 6 := by omega
      have hw0 : 0 ≤ (r : Int) := by omega
      have a0 : (wr.alloc (.cells #[.int .i64 r, .int .i64 lo, .int .i64 hi] 125)).drew.cell? ⟨w.heap.size, r, none⟩ = some (.int .i64 S) := keepA hc _
      have a1 : (wr.alloc (.cells #[.int .i64 r, .int .i64 lo, .int .i64 hi] 125)).drew.cell? ⟨wr.heap.size, 0, none⟩ = some (.int .i64 r) := by go_simp
      have a2 : (wr.alloc (.cells #[.int .i64 r, .int .i64 lo, .int .i64 hi] 125)).drew.cell? ⟨wr.heap.size, 1, none⟩ = some (.int .i64 lo) := by go_simp
      have a3 : (wr.alloc (.cells #[.int .i64 r, .int .i64 lo, .int .i64 hi] 125)).drew.cell? ⟨wr.heap.size, 2, none⟩ = some (.int .i64 hi) := by go_simp
      have az : (wr.alloc (.cells #[.int .i64 r, .int .i64 lo, .int .i64 hi] 125)).drew.frozen? ⟨w.heap.size, r, none⟩ = false := (keepAF hzl r _).trans hz
      have hwr : IntKind.i64.wrap (S + hi) = S + hi := by rw [IntKind.wrap_i64]; omega
      have HWR := Lib.hid hwr
      clear hwr
      go_wp2
      go_region_with (first | (go_at_call 107; refine (ranked1_any r lo hi _).mono ?_; rintro e w3 ⟨rfl, hb3⟩; have d0 := keepC hb3 a0; have d1 := keepC hb3 a1; have d2 := keepC hb3 a2; have d3 := keepC hb3 a3; have dz := (keepF hb3 a0).trans az) | (go_at_call 84; refine (most1_any r lo hi _).mono ?_; rintro e w4 ⟨rfl, hb4⟩; have k0 := keepC hb4 d0; have kz := (keepF hb4 d0).trans dz))
      all_goals
        have hB4 : Below wr.heap.size wr w4 := belowT (belowT (belowDr (belowA (belowR _) _)) hb3) hb4
        have hst := HI.out.step (g := sumR Cl3.hi (l.take (k + 1))) hB4 (Nat.le_refl _) r (by omega) (S + hi) (by rw [HSN.out, HS.out]; simp) (fun q hq => by rw [HSN.out, if_neg (by omega)]; simp)
        have HST := Lib.hid hst
        clear hst hB4 k0 kz d0 d1 d2 d3 dz hb3 hb4 a0 a1 a2 a3 az
        rw [HWR.out]
        go_wp2
        go_roundw
        case rel => exact ⟨k + 1, by omega, by go_num, HST⟩
        case measure => simp [intOf]; omega
    · obtain rfl : k = l.length := by omega
      have b0 := HI.out.cell 0 (by omega)
      have b1 := HI.out.cell 1 (by omega)
      have b2 := HI.out.cell 2 (by omega)
      have b3 := HI.out.cell 3 (by omega)
      have b4 := HI.out.cell 4 (by omega)
      have b5 := HI.out.cell 5 (by omega)
      have y0 := HI.out.fz 0
      have y1 := HI.out.fz 1
      have y2 := HI.out.fz 2
      have y3 := HI.out.fz 3
      have y4 := HI.out.fz 4
      have y5 := HI.out.fz 5
      rw [List.take_length] at b0 b1 b2 b3 b4 b5
      clear HI
      go_wp2
      exact bodyPost_ret (v := sums (sumR Cl3.hi l)) (by simp [results, Try.results106, go_sem, b0, b1, b2, b3, b4, b5, sums]) rfl ⟨rfl, belowS (belowS (belowS (belowS (belowS (belowS hbw (by simp) _) (by simp) _) (by simp) _) (by simp) _) (by simp) _) (by simp) _⟩
end Go.Proofs.Ytblbbhenmhkknaa
