/- (claim.estate).just. -/
import Derived.Test.YtblbbhenmhkknaaW18
namespace Go.Proofs.Ytblbbhenmhkknaa
open Go.RowKit

theorem own_below {w w' : World} {base : Nat} {e : TypeId} {size : Nat} {v : Value} {n : Nat} {xs : List Value} (h : w.ownsRow base e size v n xs) (hb : Below w.heap.size w w') : w'.ownsRow base e size v n xs := by
  obtain ⟨h1, h2⟩ := h
  refine ⟨h1, ?_⟩
  rcases h2 with h2 | ⟨g, cap, cur, hv, hg, hh, r⟩
  · exact .inl h2
  · refine .inr ⟨g, cap, cur, hv, hg, ?_, r⟩
    have hlt : g < w.heap.size := by
      rcases Nat.lt_or_ge g w.heap.size with hlt | hge
      · exact hlt
      · rw [Array.getElem?_eq_none hge] at hh; cases hh
    rw [hb.block g hlt]; exact hh

theorem ownsRow_base2 {w : World} {base base' : Nat} {e : TypeId} {size n : Nat} {v : Value} {xs : List Value} (h : w.ownsRow base e size v n xs) (hb : base' ≤ base) : w.ownsRow base' e size v n xs := by
  obtain ⟨h1, h2⟩ := h
  refine ⟨h1, h2.imp id ?_⟩
  rintro ⟨g, cap, cur, h3, h4, r⟩
  exact ⟨g, cap, cur, h3, by omega, r⟩
/-- The first k claims are of just so many cents. -/
def justTo (l : List Cl3) (d : Nat → Int) (k : Nat) : List Cl3 := l.mapIdx fun i c => if i < k then ⟨c.rank, d i, d i⟩ else c
/-- All are. -/
def justL (l : List Cl3) (d : Nat → Int) : List Cl3 := l.mapIdx fun i c => ⟨c.rank, d i, d i⟩
theorem justTo_zero (l : List Cl3) (d : Nat → Int) : justTo l d 0 = l := by
  unfold justTo
  apply List.ext_getElem? 
  intro i
  simp [List.getElem?_mapIdx]
theorem justTo_len (l : List Cl3) (d : Nat → Int) (k : Nat) : (justTo l d k).length = l.length := by simp [justTo]
theorem justTo_all (l : List Cl3) (d : Nat → Int) : justTo l d l.length = justL l d := by
  unfold justTo justL
  apply List.ext_getElem?
  intro i
  simp only [List.getElem?_mapIdx]
  rcases Nat.lt_or_ge i l.length with h | h
  · rw [List.getElem?_eq_getElem h]; simp [h]
  · rw [List.getElem?_eq_none h]; rfl
theorem justTo_at {l : List Cl3} {d : Nat → Int} {k : Nat} {c : Cl3} (h : l[k]? = some c) : (justTo l d k)[k]? = some c := by
  simp [justTo, List.getElem?_mapIdx, h]
theorem justTo_succ {l : List Cl3} {d : Nat → Int} {k : Nat} {c : Cl3} (h : l[k]? = some c) : justTo l d (k + 1) = (justTo l d k).set k ⟨c.rank, d k, d k⟩ := by
  apply List.ext_getElem?
  intro i
  have hk := (List.getElem?_eq_some_iff.1 h).1
  by_cases e : k = i
  · subst e
    rw [List.getElem?_set_self (by rw [justTo_len]; exact hk)]
    simp [justTo, List.getElem?_mapIdx, h]
  · rw [List.getElem?_set_ne e]
    simp only [justTo, List.getElem?_mapIdx]
    cases l[i]? with
    | none => rfl
    | some x =>
      simp only [Option.map_some]
      by_cases h2 : i < k
      · rw [if_pos h2, if_pos (by omega)]
      · rw [if_neg h2, if_neg (by omega)]
theorem flat3_set (l : List Cl3) (k : Nat) (c : Cl3) (x : Int) (h : l[k]? = some c) : ((l.flatMap encC3).set (k * 3 + 1) (iv x)).set (k * 3 + 1 + 1) (iv x) = (l.set k ⟨c.rank, x, x⟩).flatMap encC3 := by
  induction l generalizing k with
  | nil => simp at h
  | cons y l ih =>
    cases k with
    | zero =>
      simp only [List.getElem?_cons_zero, Option.some.injEq] at h
      subst h
      simp [encC3]
    | succ k =>
      simp only [List.getElem?_cons_succ] at h
      have := ih k h
      rw [List.set_cons_succ, List.flatMap_cons, List.flatMap_cons, ← this]
      rw [show (k + 1) * 3 + 1 = (k * 3 + 1) + 3 from by omega, show (k * 3 + 1) + 3 + 1 = (k * 3 + 1 + 1) + 3 from by omega]
      simp [encC3]

def JustPost (l : List Cl3) (d : Nat → Int) (w : World) (e : Ending) (w' : World) : Prop :=
  ∃ A cap, e = .returned (.slice A l.length cap) ∧ w'.ownsRow w.heap.size 125 3 (.slice A l.length cap) l.length ((justL l d).flatMap encC3) ∧ Below w.heap.size w w'

set_option maxRecDepth 100000 in
set_option maxHeartbeats 4000000 in
theorem just_any (lo hi : Int) (A A3 : Option Addr) (n cap cap3 : Nat) (l : List Cl3) (B fnum : Nat) (caps : Array Value) (d : Nat → Int) (w : World) (hfn : fnum = 82 ∨ fnum = 105) (h0 : 0 < l.length) (hm : l.length ≤ 1000) (hR : RdN 3 encC3 w B A3 l) (hB : B ≤ w.heap.size)
    (hclo : ∀ (i : Nat) (c : Cl3) (w1 : World), l[i]? = some c → Below w.heap.size w w1 → Calls Try.prog fnum (#[.int .i64 i, .agg #[.int .i64 c.rank, .int .i64 c.lo, .int .i64 c.hi]] ++ caps) w1 fun e w2 => e = .returned (.int .i64 (d i)) ∧ Below w1.heap.size w1 w2) :
    Calls Try.prog 81 #[.agg #[.int .i64 lo, .int .i64 hi, .slice A n cap, .slice A3 l.length cap3], .func (.func fnum) #[] caps] w (JustPost l d w) := by
  have HCLO := Lib.hid hclo
  clear hclo
  rcases hfn with rfl | rfl
  · go_enter Try.func81, Try.ntmps81
    go_wp2_with fail
    refine (clone3_any A3 l B cap3 _ h0 hm (by exact hR.below (B' := w.heap.size) (belowA (belowR _) _) hB)).mono ?_
    rintro e w1 ⟨v1, rfl, hown, hb⟩
    obtain ⟨g, cap1, rfl, hg1, hg2, hg3⟩ := own_form hown h0
    have hB1 := belowT (belowA (belowR _) _) hb
    have z1l : w.heap.size < w1.heap.size := (by have := hb.size; simp only [World.size_alloc] at this; omega)
    simp only [World.size_alloc] at hg1 hown
    have HOWN : Hid (w1.ownsRow (w.heap.size + 1) 125 3 (.slice (some ⟨g, 0, none⟩) l.length cap1) l.length ((justTo l d 0).flatMap encC3)) := Lib.hid (by rw [justTo_zero]; exact hown)
    clear hown hb
    go_wp2
    go_loopw [13] (fun i wr => ∃ k : Nat, k ≤ l.length ∧ i = .int .i64 k ∧ Hid (wr.ownsRow (w.heap.size + 1) 125 3 (.slice (some ⟨g, 0, none⟩) l.length cap1) l.length ((justTo l d k).flatMap encC3)) ∧ Below w.heap.size w wr ∧ g < wr.heap.size) (fun i _ => l.length - (intOf i).toNat)
    case atStart => exact ⟨0, Nat.zero_le _, rfl, HOWN, hB1, hg2⟩
    case round =>
      clear HOWN hB1 hg2
      obtain ⟨k, hk, rfl, HOWN, hbw, hgr⟩ := hrel
      have hzw := hbw.size
      by_cases hlt : k < l.length
      · obtain ⟨c, hx⟩ : ∃ x, l[k]? = some x := ⟨_, List.getElem?_eq_getElem hlt⟩
        have hrd : RdN 3 encC3 wr wr.heap.size (some ⟨g, 0, none⟩) (justTo l d k) := by
          have := HOWN.out
          rw [← justTo_len l d k] at this
          obtain ⟨A5, cap5, e5, hrd5, _⟩ := own_rdN enc3_len this
          injection e5 with e51 e52 e53
          subst e51
          exact hrd5
        obtain ⟨b', off', eA, _, c0, c1, c2⟩ := c3At hrd (justTo_at hx)
        injection eA with eA
        injection eA with e1 e2
        subst e1 e2
        simp only [Nat.zero_add] at c0 c1 c2
        have hset := flat3_set (justTo l d k) k c (d k) (justTo_at hx)
        rw [← justTo_succ hx] at hset
        have hcl := fun w1 hb => HCLO.out k c w1 hx hb
        have HCL := Lib.hid hcl
        obtain ⟨rank, clo, chi⟩ := c
        simp only at c0 c1 c2
        have HSET := Lib.hid hset
        clear hset hcl hx hrd
        have hz := (Nat.le_refl w.heap.size)
        go_wp2_with fail
        refine (HCL.out _ (belowA hbw _)).mono ?_
        rintro e w3 ⟨rfl, hb3⟩
        have z3 : wr.heap.size < w3.heap.size := by have := hb3.size; simp only [World.size_alloc] at this; omega
        have hB3 := belowT (belowA hbw _) hb3
        go_wp2_with fail
        refine (one_any (d k) _).mono ?_
        rintro e w4 ⟨rfl, hb4⟩
        have hB4 := belowT hB3 hb4
        have z4 : wr.heap.size < w4.heap.size := by have := hb4.size; omega
        have own4 := own_below (own_below ((HOWN.out).alloc (.cells #[.int .i64 rank, .int .i64 clo, .int .i64 chi] 125)) hb3) hb4
        have f1 := own4.frozenAt (k * 3 + 1)
        have f2 := own4.frozenAt (k * 3 + 1 + 1)
        have q1 : w4.cell? ⟨g, k * 3 + 1, none⟩ = some (.int .i64 clo) := keepC hb4 (keepC hb3 (keepA c1 _))
        have q2 : w4.cell? ⟨g, k * 3 + 1 + 1, none⟩ = some (.int .i64 chi) := keepC hb4 (keepC hb3 (keepA c2 _))
        have own5 := ((own4.stored (k * 3 + 1) (.int .i64 (d k))).1.stored (k * 3 + 1 + 1) (.int .i64 (d k))).1
        rw [HSET.out] at own5
        have OWN5 := Lib.hid own5
        clear own4 own5 c0 c1 c2 hb3 hb4 HCL
        go_wp2
        go_roundw
        case rel => exact ⟨k + 1, by omega, by go_num, OWN5, belowS (belowS hB4 (by simp; omega) _) (by simp; omega) _, by simp [World.setCell]; omega⟩
        case measure => simp [intOf]; omega
      · go_wp2
        go_ret
        obtain rfl : k = l.length := by omega
        rw [justTo_all] at HOWN
        exact ⟨_, _, rfl, ownsRow_base2 HOWN.out (by omega), hbw⟩
  · go_enter Try.func81, Try.ntmps81
    go_wp2_with fail
    refine (clone3_any A3 l B cap3 _ h0 hm (by exact hR.below (B' := w.heap.size) (belowA (belowR _) _) hB)).mono ?_
    rintro e w1 ⟨v1, rfl, hown, hb⟩
    obtain ⟨g, cap1, rfl, hg1, hg2, hg3⟩ := own_form hown h0
    have hB1 := belowT (belowA (belowR _) _) hb
    have z1l : w.heap.size < w1.heap.size := (by have := hb.size; simp only [World.size_alloc] at this; omega)
    simp only [World.size_alloc] at hg1 hown
    have HOWN : Hid (w1.ownsRow (w.heap.size + 1) 125 3 (.slice (some ⟨g, 0, none⟩) l.length cap1) l.length ((justTo l d 0).flatMap encC3)) := Lib.hid (by rw [justTo_zero]; exact hown)
    clear hown hb
    go_wp2
    go_loopw [13] (fun i wr => ∃ k : Nat, k ≤ l.length ∧ i = .int .i64 k ∧ Hid (wr.ownsRow (w.heap.size + 1) 125 3 (.slice (some ⟨g, 0, none⟩) l.length cap1) l.length ((justTo l d k).flatMap encC3)) ∧ Below w.heap.size w wr ∧ g < wr.heap.size) (fun i _ => l.length - (intOf i).toNat)
    case atStart => exact ⟨0, Nat.zero_le _, rfl, HOWN, hB1, hg2⟩
    case round =>
      clear HOWN hB1 hg2
      obtain ⟨k, hk, rfl, HOWN, hbw, hgr⟩ := hrel
      have hzw := hbw.size
      by_cases hlt : k < l.length
      · obtain ⟨c, hx⟩ : ∃ x, l[k]? = some x := ⟨_, List.getElem?_eq_getElem hlt⟩
        have hrd : RdN 3 encC3 wr wr.heap.size (some ⟨g, 0, none⟩) (justTo l d k) := by
          have := HOWN.out
          rw [← justTo_len l d k] at this
          obtain ⟨A5, cap5, e5, hrd5, _⟩ := own_rdN enc3_len this
          injection e5 with e51 e52 e53
          subst e51
          exact hrd5
        obtain ⟨b', off', eA, _, c0, c1, c2⟩ := c3At hrd (justTo_at hx)
        injection eA with eA
        injection eA with e1 e2
        subst e1 e2
        simp only [Nat.zero_add] at c0 c1 c2
        have hset := flat3_set (justTo l d k) k c (d k) (justTo_at hx)
        rw [← justTo_succ hx] at hset
        have hcl := fun w1 hb => HCLO.out k c w1 hx hb
        have HCL := Lib.hid hcl
        obtain ⟨rank, clo, chi⟩ := c
        simp only at c0 c1 c2
        have HSET := Lib.hid hset
        clear hset hcl hx hrd
        have hz := (Nat.le_refl w.heap.size)
        go_wp2_with fail
        refine (HCL.out _ (belowA hbw _)).mono ?_
        rintro e w3 ⟨rfl, hb3⟩
        have z3 : wr.heap.size < w3.heap.size := by have := hb3.size; simp only [World.size_alloc] at this; omega
        have hB3 := belowT (belowA hbw _) hb3
        go_wp2_with fail
        refine (one_any (d k) _).mono ?_
        rintro e w4 ⟨rfl, hb4⟩
        have hB4 := belowT hB3 hb4
        have z4 : wr.heap.size < w4.heap.size := by have := hb4.size; omega
        have own4 := own_below (own_below ((HOWN.out).alloc (.cells #[.int .i64 rank, .int .i64 clo, .int .i64 chi] 125)) hb3) hb4
        have f1 := own4.frozenAt (k * 3 + 1)
        have f2 := own4.frozenAt (k * 3 + 1 + 1)
        have q1 : w4.cell? ⟨g, k * 3 + 1, none⟩ = some (.int .i64 clo) := keepC hb4 (keepC hb3 (keepA c1 _))
        have q2 : w4.cell? ⟨g, k * 3 + 1 + 1, none⟩ = some (.int .i64 chi) := keepC hb4 (keepC hb3 (keepA c2 _))
        have own5 := ((own4.stored (k * 3 + 1) (.int .i64 (d k))).1.stored (k * 3 + 1 + 1) (.int .i64 (d k))).1
        rw [HSET.out] at own5
        have OWN5 := Lib.hid own5
        clear own4 own5 c0 c1 c2 hb3 hb4 HCL
        go_wp2
        go_roundw
        case rel => exact ⟨k + 1, by omega, by go_num, OWN5, belowS (belowS hB4 (by simp; omega) _) (by simp; omega) _, by simp [World.setCell]; omega⟩
        case measure => simp [intOf]; omega
      · go_wp2
        go_ret
        obtain rfl : k = l.length := by omega
        rw [justTo_all] at HOWN
        exact ⟨_, _, rfl, ownsRow_base2 HOWN.out (by omega), hbw⟩
end Go.Proofs.Ytblbbhenmhkknaa
