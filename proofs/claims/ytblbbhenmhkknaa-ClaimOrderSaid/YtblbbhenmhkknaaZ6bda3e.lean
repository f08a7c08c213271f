/- The copies of claims. (claim.estate).just. The reference's side of an estate: claim, Check; right. -/
import Derived.Test.YtblbbhenmhkknaaYShelf
import Derived.Test.YtblbbhenmhkknaaYW17
namespace Go.Proofs.Ytblbbhenmhkknaa
open Go.RowKit Go.Shelf

def Try.laysC108_ren : Go.Shelf.Ren := ⟨fun | 41 => 108 | n => n, fun | 22 => 115 | 23 => 125 | 4 => 4 | n => n, fun | n => n⟩
theorem Try.laysC108 : Go.Proofs.SlLaysE0.n41 Try.prog Try.laysC108_ren := {
  mixed := by kernel_rfl
  f41 := ⟨Try.f108.name, by decide, Try.func108.trans (congrArg some (by kernel_rfl))⟩
  t4 := Try.underlying4
  a4 := Try.isAgg4
  z4 := Try.sizeOf4
  v4 := Try.zeroValue4
  t22 := Try.underlying115
  a22 := Try.isAgg115
  z22 := Try.sizeOf115
  v22 := Try.zeroValue115 }
def Try.laysC77_ren : Go.Shelf.Ren := ⟨fun | 41 => 77 | n => n, fun | 22 => 40 | 23 => 46 | 4 => 4 | n => n, fun | n => n⟩
theorem Try.laysC77 : Go.Proofs.SlLaysE0.n41 Try.prog Try.laysC77_ren := {
  mixed := by kernel_rfl
  f41 := ⟨Try.f77.name, by decide, Try.func77.trans (congrArg some (by kernel_rfl))⟩
  t4 := Try.underlying4
  a4 := Try.isAgg4
  z4 := Try.sizeOf4
  v4 := Try.zeroValue4
  t22 := Try.underlying40
  a22 := Try.isAgg40
  z22 := Try.sizeOf40
  v22 := Try.zeroValue40 }

theorem Try.info46 : (Try.prog.info? 46).map (fun i => (i.zero, i.size, i.bytes)) = some (some (.agg #[.string ⟨#[]⟩, .int .i64 0, .int .i64 0, .int .i64 0]), 4, 40) := by kernel_rfl
theorem enc4_len (c : Clm) : (encClm c).length = 4 := rfl

theorem flat_cells {α : Type} {k : Nat} (hk : 0 < k) {encs : α → List Value} (he : ∀ x, (encs x).length = k) {w : World} {B b off : Nat} {xs : List α} (hR : RdN k encs w B (some ⟨b, off, none⟩) xs) : ∀ j u, (xs.flatMap encs)[j]? = some u → w.cell? ⟨b, off + j, none⟩ = some u := by
  intro j u hu
  have hj : j < xs.length * k := by rw [← flat_len he]; exact (List.getElem?_eq_some_iff.1 hu).1
  have hi : j / k < xs.length := Nat.div_lt_of_lt_mul (by rw [Nat.mul_comm]; exact hj)
  have hr : j % k < k := Nat.mod_lt _ hk
  obtain ⟨x, hx⟩ : ∃ x, xs[j / k]? = some x := ⟨_, List.getElem?_eq_getElem hi⟩
  obtain ⟨v, hv⟩ : ∃ v, (encs x)[j % k]? = some v := ⟨_, List.getElem?_eq_getElem (by rw [he]; exact hr)⟩
  have hf := flat_get he xs _ x hx _ v hv
  have e : j / k * k + j % k = j := by rw [Nat.mul_comm]; exact Nat.div_add_mod j k
  rw [e, hu] at hf
  injection hf with hf
  subst hf
  obtain ⟨b', off', eA, _, hc⟩ := hR _ x hx
  injection eA with eA
  injection eA with e1 e2
  subst e1 e2
  have := hc _ _ hv
  rwa [Nat.add_assoc, e] at this

theorem clone3_any (A : Option Addr) (l : List Cl3) (B cap : Nat) (w : World) (h0 : 0 < l.length) (hm : l.length ≤ 1000) (hR : RdN 3 encC3 w B A l) :
    Calls Try.prog 108 #[.slice A l.length cap] w fun e w' => ∃ v', e = .returned v' ∧ w'.ownsRow w.heap.size 125 3 v' l.length (l.flatMap encC3) ∧ Below w.heap.size w w' := by
  obtain ⟨i0, hi, hz0, hz1, hz2⟩ := info_parts Try.info125
  obtain ⟨b, off, rfl, _, _⟩ := hR 0 _ (List.getElem?_eq_getElem h0)
  refine (AnyE.slices_Clone Try.laysC108 i0 _ 3 24 hi hz0 hz1 hz2 rfl (by decide) Try.sizeOf125 b off l.length cap (l.flatMap encC3) w (flat_len enc3_len l) (by unfold maxLen; omega) (by omega) (flat_cells (by decide) enc3_len hR) ?_).mono ?_
  · intro u hu
    obtain ⟨c, _, hc⟩ := List.mem_flatMap.1 hu
    simp [encC3] at hc
    rcases hc with rfl | rfl | rfl <;> rfl
  · rintro e w' ⟨v', rfl, h1, _, h3⟩
    exact ⟨v', rfl, h1, h3⟩
theorem clone4_any (A : Option Addr) (l : List Clm) (B cap : Nat) (w : World) (h0 : 0 < l.length) (hm : l.length ≤ 1000) (hR : RdN 4 encClm w B A l) :
    Calls Try.prog 77 #[.slice A l.length cap] w fun e w' => ∃ v', e = .returned v' ∧ w'.ownsRow w.heap.size 46 4 v' l.length (l.flatMap encClm) ∧ Below w.heap.size w w' := by
  obtain ⟨i0, hi, hz0, hz1, hz2⟩ := info_parts Try.info46
  obtain ⟨b, off, rfl, _, _⟩ := hR 0 _ (List.getElem?_eq_getElem h0)
  refine (AnyE.slices_Clone Try.laysC77 i0 _ 4 40 hi hz0 hz1 hz2 rfl (by decide) Try.sizeOf46 b off l.length cap (l.flatMap encClm) w (flat_len enc4_len l) (by unfold maxLen; omega) (by omega) (flat_cells (by decide) enc4_len hR) ?_).mono ?_
  · intro u hu
    obtain ⟨c, _, hc⟩ := List.mem_flatMap.1 hu
    simp [encClm] at hc
    rcases hc with rfl | rfl | rfl | rfl <;> rfl
  · rintro e w' ⟨v', rfl, h1, _, h3⟩
    exact ⟨v', rfl, h1, h3⟩
end Go.Proofs.Ytblbbhenmhkknaa

namespace Go.Proofs.Ytblbbhenmhkknaa
open Go.RowKit

theorem own_below {w w' : World} {base : Nat} {e : TypeId} {size : Nat} {v : Value} {n : Nat} {xs : List Value} (h : w.ownsRow base e size v n xs) (hb : Below w.heap.size w w') : w'.ownsRow base e size v n xs := by
  obtain ⟨h1, h2⟩ := h
  refine ⟨h1, ?_⟩
  rcases h2 with h2 | ⟨g, cap, cur, hv, hg, hh, r⟩
  · exact .inl h2
  · refine .inr ⟨g, cap, cur, hv, hg, ?_, r⟩
    have hlt : g < w.heap.size := by
      rcases Nat.lt_or_ge g w.heap.size with hlt | hge
      · exact hlt
      · rw [Array.getElem?_eq_none hge] at hh; cases hh
    rw [hb.block g hlt]; exact hh

theorem ownsRow_base2 {w : World} {base base' : Nat} {e : TypeId} {size n : Nat} {v : Value} {xs : List Value} (h : w.ownsRow base e size v n xs) (hb : base' ≤ base) : w.ownsRow base' e size v n xs := by
  obtain ⟨h1, h2⟩ := h
  refine ⟨h1, h2.imp id ?_⟩
  rintro ⟨g, cap, cur, h3, h4, r⟩
  exact ⟨g, cap, cur, h3, by omega, r⟩
/-- The first k claims are of just so many cents. -/
def justTo (l : List Cl3) (d : Nat → Int) (k : Nat) : List Cl3 := l.mapIdx fun i c => if i < k then ⟨c.rank, d i, d i⟩ else c
/-- All are. -/
def justL (l : List Cl3) (d : Nat → Int) : List Cl3 := l.mapIdx fun i c => ⟨c.rank, d i, d i⟩
theorem justTo_zero (l : List Cl3) (d : Nat → Int) : justTo l d 0 = l := by
  unfold justTo
  apply List.ext_getElem? 
  intro i
  simp [List.getElem?_mapIdx]
theorem justTo_len (l : List Cl3) (d : Nat → Int) (k : Nat) : (justTo l d k).length = l.length := by simp [justTo]
theorem justTo_all (l : List Cl3) (d : Nat → Int) : justTo l d l.length = justL l d := by
  unfold justTo justL
  apply List.ext_getElem?
  intro i
  simp only [List.getElem?_mapIdx]
  rcases Nat.lt_or_ge i l.length with h | h
  · rw [List.getElem?_eq_getElem h]; simp [h]
  · rw [List.getElem?_eq_none h]; rfl
theorem justTo_at {l : List Cl3} {d : Nat → Int} {k : Nat} {c : Cl3} (h : l[k]? = some c) : (justTo l d k)[k]? = some c := by
  simp [justTo, List.getElem?_mapIdx, h]
theorem justTo_succ {l : List Cl3} {d : Nat → Int} {k : Nat} {c : Cl3} (h : l[k]? = some c) : justTo l d (k + 1) = (justTo l d k).set k ⟨c.rank, d k, d k⟩ := by
  apply List.ext_getElem?
  intro i
  have hk := (List.getElem?_eq_some_iff.1 h).1
  by_cases e : k = i
  · subst e
    rw [List.getElem?_set_self (by rw [justTo_len]; exact hk)]
    simp [justTo, List.getElem?_mapIdx, h]
  · rw [List.getElem?_set_ne e]
    simp only [justTo, List.getElem?_mapIdx]
    cases l[i]? with
    | none => rfl
    | some x =>
      simp only [Option.map_some]
      by_cases h2 : i < k
      · rw [if_pos h2, if_pos (by omega)]
      · rw [if_neg h2, if_neg (by omega)]
theorem flat3_set (l : List Cl3) (k : Nat) (c : Cl3) (x : Int) (h : l[k]? = some c) : ((l.flatMap encC3).set (k * 3 + 1) (iv x)).set (k * 3 + 1 + 1) (iv x) = (l.set k ⟨c.rank, x, x⟩).flatMap encC3 := by
  induction l generalizing k with
  | nil => simp at h
  | cons y l ih =>
    cases k with
    | zero =>
      simp only [List.getElem?_cons_zero, Option.some.injEq] at h
      subst h
      simp [encC3]
    | succ k =>
      simp only [List.getElem?_cons_succ] at h
      have := ih k h
      rw [List.set_cons_succ, List.flatMap_cons, List.flatMap_cons, ← this]
      rw [show (k + 1) * 3 + 1 = (k * 3 + 1) + 3 from by omega, show (k * 3 + 1) + 3 + 1 = (k * 3 + 1 + 1) + 3 from by omega]
      simp [encC3]

def JustPost (l : List Cl3) (d : Nat → Int) (w : World) (e : Ending) (w' : World) : Prop :=
  ∃ A cap, e = .returned (.slice A l.length cap) ∧ w'.ownsRow w.heap.size 125 3 (.slice A l.length cap) l.length ((justL l d).flatMap encC3) ∧ Below w.heap.size w w'

set_option maxRecDepth 100000 in
set_option maxHeartbeats 4000000 in
theorem just_any (lo hi : Int) (A A3 : Option Addr) (n cap cap3 : Nat) (l : List Cl3) (B fnum : Nat) (caps : Array Value) (d : Nat → Int) (w : World) (hfn : fnum = 82 ∨ fnum = 105) (h0 : 0 < l.length) (hm : l.length ≤ 1000) (hR : RdN 3 encC3 w B A3 l) (hB : B ≤ w.heap.size)
    (hclo : ∀ (i : Nat) (c : Cl3) (w1 : World), l[i]? = some c → Below w.heap.size w w1 → Calls Try.prog fnum (#[.int .i64 i, .agg #[.int .i64 c.rank, .int .i64 c.lo, .int .i64 c.hi]] ++ caps) w1 fun e w2 => e = .returned (.int .i64 (d i)) ∧ Below w1.heap.size w1 w2) :
    Calls Try.prog 81 #[.agg #[.int .i64 lo, .int .i64 hi, .slice A n cap, .slice A3 l.length cap3], .func (.func fnum) #[] caps] w (JustPost l d w) := by
  have HCLO := Lib.hid hclo
  clear hclo
  rcases hfn with rfl | rfl
  · go_enter Try.func81, Try.ntmps81
    go_wp2_with fail
    refine (clone3_any A3 l B cap3 _ h0 hm (by exact hR.below (B' := w.heap.size) (belowA (belowR _) _) hB)).mono ?_
    rintro e w1 ⟨v1, rfl, hown, hb⟩
    obtain ⟨g, cap1, rfl, hg1, hg2, hg3⟩ := own_form hown h0
    have hB1 := belowT (belowA (belowR _) _) hb
    have z1l : w.heap.size < w1.heap.size := (by have := hb.size; simp only [World.size_alloc] at this; omega)
    simp only [World.size_alloc] at hg1 hown
    have HOWN : Hid (w1.ownsRow (w.heap.size + 1) 125 3 (.slice (some ⟨g, 0, none⟩) l.length cap1) l.length ((justTo l d 0).flatMap encC3)) := Lib.hid (by rw [justTo_zero]; exact hown)
    clear hown hb
    go_wp2
    go_loopw [13] (fun i wr => ∃ k : Nat, k ≤ l.length ∧ i = .int .i64 k ∧ Hid (wr.ownsRow (w.heap.size + 1) 125 3 (.slice (some ⟨g, 0, none⟩) l.length cap1) l.length ((justTo l d k).flatMap encC3)) ∧ Below w.heap.size w wr ∧ g < wr.heap.size) (fun i _ => l.length - (intOf i).toNat)
    case atStart => exact ⟨0, Nat.zero_le _, rfl, HOWN, hB1, hg2⟩
    case round =>
      clear HOWN hB1 hg2
      obtain ⟨k, hk, rfl, HOWN, hbw, hgr⟩ := hrel
      have hzw := hbw.size
      by_cases hlt : k < l.length
      · obtain ⟨c, hx⟩ : ∃ x, l[k]? = some x := ⟨_, List.getElem?_eq_getElem hlt⟩
        have hrd : RdN 3 encC3 wr wr.heap.size (some ⟨g, 0, none⟩) (justTo l d k) := by
          have := HOWN.out
          rw [← justTo_len l d k] at this
          obtain ⟨A5, cap5, e5, hrd5, _⟩ := own_rdN enc3_len this
          injection e5 with e51 e52 e53
          subst e51
          exact hrd5
        obtain ⟨b', off', eA, _, c0, c1, c2⟩ := c3At hrd (justTo_at hx)
        injection eA with eA
        injection eA with e1 e2
        subst e1 e2
        simp only [Nat.zero_add] at c0 c1 c2
        have hset := flat3_set (justTo l d k) k c (d k) (justTo_at hx)
        rw [← justTo_succ hx] at hset
        have hcl := fun w1 hb => HCLO.out k c w1 hx hb
        have HCL := Lib.hid hcl
        obtain ⟨rank, clo, chi⟩ := c
        simp only at c0 c1 c2
        have HSET := Lib.hid hset
        clear hset hcl hx hrd
        have hz := (Nat.le_refl w.heap.size)
        go_wp2_with fail
        refine (HCL.out _ (belowA hbw _)).mono ?_
        rintro e w3 ⟨rfl, hb3⟩
        have z3 : wr.heap.size < w3.heap.size := by have := hb3.size; simp only [World.size_alloc] at this; omega
        have hB3 := belowT (belowA hbw _) hb3
        go_wp2_with fail
        refine (one_any (d k) _).mono ?_
        rintro e w4 ⟨rfl, hb4⟩
        have hB4 := belowT hB3 hb4
        have z4 : wr.heap.size < w4.heap.size := by have := hb4.size; omega
        have own4 := own_below (own_below ((HOWN.out).alloc (.cells #[.int .i64 rank, .int .i64 clo, .int .i64 chi] 125)) hb3) hb4
        have f1 := own4.frozenAt (k * 3 + 1)
        have f2 := own4.frozenAt (k * 3 + 1 + 1)
        have q1 : w4.cell? ⟨g, k * 3 + 1, none⟩ = some (.int .i64 clo) := keepC hb4 (keepC hb3 (keepA c1 _))
        have q2 : w4.cell? ⟨g, k * 3 + 1 + 1, none⟩ = some (.int .i64 chi) := keepC hb4 (keepC hb3 (keepA c2 _))
        have own5 := ((own4.stored (k * 3 + 1) (.int .i64 (d k))).1.stored (k * 3 + 1 + 1) (.int .i64 (d k))).1
        rw [HSET.out] at own5
        have OWN5 := Lib.hid own5
        clear own4 own5 c0 c1 c2 hb3 hb4 HCL
        go_wp2
        go_roundw
        case rel => exact ⟨k + 1, by omega, by go_num, OWN5, belowS (belowS hB4 (by simp; omega) _) (by simp; omega) _, by simp [World.setCell]; omega⟩
        case measure => simp [intOf]; omega
      · go_wp2
        go_ret
        obtain rfl : k = l.length := by omega
        rw [justTo_all] at HOWN
        exact ⟨_, _, rfl, ownsRow_base2 HOWN.out (by omega), hbw⟩
  · go_enter Try.func81, Try.ntmps81
    go_wp2_with fail
    refine (clone3_any A3 l B cap3 _ h0 hm (by exact hR.below (B' := w.heap.size) (belowA (belowR _) _) hB)).mono ?_
    rintro e w1 ⟨v1, rfl, hown, hb⟩
    obtain ⟨g, cap1, rfl, hg1, hg2, hg3⟩ := own_form hown h0
    have hB1 := belowT (belowA (belowR _) _) hb
    have z1l : w.heap.size < w1.heap.size := (by have := hb.size; simp only [World.size_alloc] at this; omega)
    simp only [World.size_alloc] at hg1 hown
    have HOWN : Hid (w1.ownsRow (w.heap.size + 1) 125 3 (.slice (some ⟨g, 0, none⟩) l.length cap1) l.length ((justTo l d 0).flatMap encC3)) := Lib.hid (by rw [justTo_zero]; exact hown)
    clear hown hb
    go_wp2
    go_loopw [13] (fun i wr => ∃ k : Nat, k ≤ l.length ∧ i = .int .i64 k ∧ Hid (wr.ownsRow (w.heap.size + 1) 125 3 (.slice (some ⟨g, 0, none⟩) l.length cap1) l.length ((justTo l d k).flatMap encC3)) ∧ Below w.heap.size w wr ∧ g < wr.heap.size) (fun i _ => l.length - (intOf i).toNat)
    case atStart => exact ⟨0, Nat.zero_le _, rfl, HOWN, hB1, hg2⟩
    case round =>
      clear HOWN hB1 hg2
      obtain ⟨k, hk, rfl, HOWN, hbw, hgr⟩ := hrel
      have hzw := hbw.size
      by_cases hlt : k < l.length
      · obtain ⟨c, hx⟩ : ∃ x, l[k]? = some x := ⟨_, List.getElem?_eq_getElem hlt⟩
        have hrd : RdN 3 encC3 wr wr.heap.size (some ⟨g, 0, none⟩) (justTo l d k) := by
          have := HOWN.out
          rw [← justTo_len l d k] at this
          obtain ⟨A5, cap5, e5, hrd5, _⟩ := own_rdN enc3_len this
          injection e5 with e51 e52 e53
          subst e51
          exact hrd5
        obtain ⟨b', off', eA, _, c0, c1, c2⟩ := c3At hrd (justTo_at hx)
        injection eA with eA
        injection eA with e1 e2
        subst e1 e2
        simp only [Nat.zero_add] at c0 c1 c2
        have hset := flat3_set (justTo l d k) k c (d k) (justTo_at hx)
        rw [← justTo_succ hx] at hset
        have hcl := fun w1 hb => HCLO.out k c w1 hx hb
        have HCL := Lib.hid hcl
        obtain ⟨rank, clo, chi⟩ := c
        simp only at c0 c1 c2
        have HSET := Lib.hid hset
        clear hset hcl hx hrd
        have hz := (Nat.le_refl w.heap.size)
        go_wp2_with fail
        refine (HCL.out _ (belowA hbw _)).mono ?_
        rintro e w3 ⟨rfl, hb3⟩
        have z3 : wr.heap.size < w3.heap.size := by have := hb3.size; simp only [World.size_alloc] at this; omega
        have hB3 := belowT (belowA hbw _) hb3
        go_wp2_with fail
        refine (one_any (d k) _).mono ?_
        rintro e w4 ⟨rfl, hb4⟩
        have hB4 := belowT hB3 hb4
        have z4 : wr.heap.size < w4.heap.size := by have := hb4.size; omega
        have own4 := own_below (own_below ((HOWN.out).alloc (.cells #[.int .i64 rank, .int .i64 clo, .int .i64 chi] 125)) hb3) hb4
        have f1 := own4.frozenAt (k * 3 + 1)
        have f2 := own4.frozenAt (k * 3 + 1 + 1)
        have q1 : w4.cell? ⟨g, k * 3 + 1, none⟩ = some (.int .i64 clo) := keepC hb4 (keepC hb3 (keepA c1 _))
        have q2 : w4.cell? ⟨g, k * 3 + 1 + 1, none⟩ = some (.int .i64 chi) := keepC hb4 (keepC hb3 (keepA c2 _))
        have own5 := ((own4.stored (k * 3 + 1) (.int .i64 (d k))).1.stored (k * 3 + 1 + 1) (.int .i64 (d k))).1
        rw [HSET.out] at own5
        have OWN5 := Lib.hid own5
        clear own4 own5 c0 c1 c2 hb3 hb4 HCL
        go_wp2
        go_roundw
        case rel => exact ⟨k + 1, by omega, by go_num, OWN5, belowS (belowS hB4 (by simp; omega) _) (by simp; omega) _, by simp [World.setCell]; omega⟩
        case measure => simp [intOf]; omega
      · go_wp2
        go_ret
        obtain rfl : k = l.length := by omega
        rw [justTo_all] at HOWN
        exact ⟨_, _, rfl, ownsRow_base2 HOWN.out (by omega), hbw⟩
end Go.Proofs.Ytblbbhenmhkknaa

namespace Go.Proofs.Ytblbbhenmhkknaa
open Go.RowKit

theorem taken_names (l : List Clm) (s : ByteArray) : taken l s = oneOf (l.map Clm.name) s := by
  unfold taken oneOf
  rw [List.any_map]
  rfl
theorem toldE_names (l : List Clm) (c : Clm) : toldE l c = if freshE (l.map Clm.name) c.name = 0 then (if inB 1 5 c.rank then rangeE 0 1000000000 c.lo c.hi else 7) else freshE (l.map Clm.name) c.name := by
  unfold toldE freshE
  rw [taken_names]
  cases nameB c.name
  · simp
  · cases oneOf (l.map Clm.name) c.name
    · simp
    · simp

set_option maxRecDepth 100000 in
set_option maxHeartbeats 1000000 in
theorem refClaim_any (A : Option Addr) (l : List Clm) (B cap : Nat) (c : Clm) (w : World) (hs : c.name.size ≤ maxLen) (hm : l.length ≤ maxLen) (hR : Rd1 Value.string w B A (l.map Clm.name)) (hB : B ≤ w.heap.size) :
    Calls Try.prog 72 #[.agg #[.string c.name, .int .i64 c.rank, .int .i64 c.lo, .int .i64 c.hi], .slice A l.length cap] w fun e w' => e = .returned (iv (toldE l c)) ∧ Below w.heap.size w w' := by
  obtain ⟨name, rank, lo, hi⟩ := c
  simp only at hs ⊢
  have ht := toldE_names l ⟨name, rank, lo, hi⟩
  simp only at ht
  have hb0 : Below w.heap.size w _ := belowA (belowR w) (.cells #[.string name, .int .i64 rank, .int .i64 lo, .int .i64 hi] 46)
  have hf := fresh_any A (l.map Clm.name) B cap name (w.alloc (.cells #[.string name, .int .i64 rank, .int .i64 lo, .int .i64 hi] 46)) hs (by simpa using hm) (hR.below hb0 hB) (Nat.le_trans hB hb0.size)
  rw [List.length_map] at hf
  obtain ⟨F, hF⟩ : ∃ F, freshE (l.map Clm.name) name = F := ⟨_, rfl⟩
  rw [hF] at ht hf
  have HF := Lib.hid hf
  clear hF hf
  by_cases h0 : F = 0
  case neg =>
    have hne : (F == 0) = false := beq_eq_false_iff_ne.2 h0
    rw [if_neg h0] at ht
    have HT := Lib.hid ht
    clear ht h0
    go_enter Try.func72, Try.ntmps72
    go_wp2_with fail
    refine HF.out.mono ?_
    rintro e w1 ⟨rfl, hb⟩
    have hB1 := belowT hb0 hb
    clear hb hb0
    go_wp2
    go_ret
    exact ⟨by rw [HT.out]; rfl, hB1⟩
  subst h0
  rw [if_pos rfl] at ht
  cases h3 : inB 1 5 rank
  · rw [h3] at ht
    have HT := Lib.hid ht
    have H3 := Lib.hid h3
    clear ht h3
    go_enter Try.func72, Try.ntmps72
    go_wp2_with fail
    refine HF.out.mono ?_
    rintro e w1 ⟨rfl, hb⟩
    have hB1 := belowT hb0 hb
    have q1 : w1.cell? ⟨w.heap.size, 1, none⟩ = some (.int .i64 rank) := keepC hb (by go_simp)
    clear hb hb0
    go_wp2_with fail
    refine (in_any rank 1 5 _).mono ?_
    rintro e w2 ⟨he, rfl⟩
    rw [H3.out] at he
    subst he
    go_wp2
    go_ret
    exact ⟨by rw [HT.out]; rfl, hB1⟩
  · rw [h3] at ht
    have HT := Lib.hid ht
    have H3 := Lib.hid h3
    clear ht h3
    go_enter Try.func72, Try.ntmps72
    go_wp2_with fail
    refine HF.out.mono ?_
    rintro e w1 ⟨rfl, hb⟩
    have hB1 := belowT hb0 hb
    have q1 : w1.cell? ⟨w.heap.size, 1, none⟩ = some (.int .i64 rank) := keepC hb (by go_simp)
    have q2 : w1.cell? ⟨w.heap.size, 2, none⟩ = some (.int .i64 lo) := keepC hb (by go_simp)
    have q3 : w1.cell? ⟨w.heap.size, 3, none⟩ = some (.int .i64 hi) := keepC hb (by go_simp)
    clear hb hb0
    go_wp2_with fail
    refine (in_any rank 1 5 _).mono ?_
    rintro e w2 ⟨he, rfl⟩
    rw [H3.out] at he
    subst he
    go_wp2_with fail
    refine (range_any 0 1000000000 lo hi _).mono ?_
    rintro e w3 ⟨rfl, hb3⟩
    have hB3 := belowT hB1 hb3
    go_wp2
    go_ret
    exact ⟨by rw [HT.out]; rfl, hB3⟩

theorem Try.info9s : (Try.prog.info? 9).map (fun i => (i.zero, i.size, i.bytes)) = some (some (.string ⟨#[]⟩), 1, 16) := by kernel_rfl

set_option maxRecDepth 100000 in
set_option maxHeartbeats 4000000 in
theorem refCheck_any (lo hi : Int) (A : Option Addr) (cs : List Clm) (B cap : Nat) (w : World) (_hm : cs.length ≤ cap) (hcm : cap ≤ maxLen) (hok : ClmsOk cs) (hR : RdN 4 encClm w B A cs) (hB : B ≤ w.heap.size) :
    Calls Try.prog 27 #[.agg #[.int .i64 lo, .int .i64 hi, .slice A cs.length cap]] w fun e w' => e = .returned (ret3 (estE lo hi cs)) ∧ Below w.heap.size w w' := by
  obtain ⟨i0, hi0, hz0, hz1, hz2⟩ := info_parts Try.info9s
  have hcm' := hcm
  unfold maxLen at hcm'
  obtain ⟨E, hE⟩ : ∃ E, rangeE 0 1000000000 lo hi = E := ⟨_, rfl⟩
  have HE := Lib.hid hE
  by_cases h1 : E = 0
  case neg =>
    have hr : estE lo hi cs = (1, 0, E) := by simp [estE, hE, h1]
    have hne : (E != 0) = true := by simpa using h1
    have HR := Lib.hid hr
    clear hr hE h1
    go_enter Try.func27, Try.ntmps27
    go_wp2_with fail
    refine (range_any 0 1000000000 lo hi _).mono ?_
    rintro e w1 ⟨he, hb⟩
    rw [HE.out] at he
    subst he
    have hB1 := belowT (belowA (belowR _) _) hb
    clear hb
    go_wp2
    go_ret3
    exact ⟨by rw [HR.out]; rfl, hB1⟩
  subst h1
  cases h2 : inB 1 8 (cs.length : Int)
  · have hr : estE lo hi cs = (1, 0, 3) := by simp [estE, hE, h2]
    have HR := Lib.hid hr
    have H2 := Lib.hid h2
    clear hr hE h2
    go_enter Try.func27, Try.ntmps27
    go_wp2_with fail
    refine (range_any 0 1000000000 lo hi _).mono ?_
    rintro e w1 ⟨he, hb⟩
    rw [HE.out] at he
    subst he
    have hB1 := belowT (belowA (belowR _) _) hb
    have q2 : w1.cell? ⟨w.heap.size, 2, none⟩ = some (.slice A cs.length cap) := keepC hb (by go_simp)
    clear hb
    go_wp2_with fail
    refine (in_any (cs.length : Int) 1 8 _).mono ?_
    rintro e w2 ⟨he, rfl⟩
    rw [H2.out] at he
    subst he
    go_wp2
    go_ret3
    exact ⟨by rw [HR.out]; rfl, hB1⟩
  · have hr : estE lo hi cs = (match firstBad (toldAt cs) cs.length with | none => (0, 0, 0) | some (i, e) => (2, i, e)) := by simp only [estE, hE, h2, if_true] <;> rfl
    have hcs8 : cs.length ≤ 8 := by have := inB_t h2; omega
    have HR := Lib.hid hr
    have H2 := Lib.hid h2
    clear hr hE h2
    go_enter Try.func27, Try.ntmps27
    go_wp2_with fail
    refine (range_any 0 1000000000 lo hi _).mono ?_
    rintro e w1 ⟨he, hb⟩
    rw [HE.out] at he
    subst he
    have hB1 := belowT (belowA (belowR _) _) hb
    have q2 : w1.cell? ⟨w.heap.size, 2, none⟩ = some (.slice A cs.length cap) := keepC hb (by go_simp)
    have z1 : w.heap.size < w1.heap.size := lt_of_cell q2
    clear hb
    go_wp2_with fail
    refine (in_any (cs.length : Int) 1 8 _).mono ?_
    rintro e w2 ⟨he, rfl⟩
    rw [H2.out] at he
    subst he
    have HB1 := Lib.hid hB1
    clear hB1
    go_wp2
    go_loopw [7, 6] (fun vi vn wr => ∃ (k : Nat) (v : Value), k ≤ cs.length ∧ vi = .int .i64 k ∧ vn = v ∧ Hid (wr.ownsRow w1.heap.size 9 1 v k (((cs.take k).map Clm.name).map Value.string)) ∧ Below w1.heap.size w1 wr ∧ Hid (firstBad (toldAt cs) k = none)) (fun vi _ _ => cs.length - (intOf vi).toNat)
    case atStart => exact ⟨0, _, Nat.zero_le _, rfl, rfl, Lib.hid (World.ownsRow_nil _ _ _ _), belowR _, Lib.hid rfl⟩
    case round =>
      obtain ⟨k, v, hk, rfl, rfl, OWN, hbw, HN⟩ := hrel
      have hzr := hbw.size
      have p2 := keepC hbw q2
      by_cases hlt : k < cs.length
      · obtain ⟨c, hx⟩ : ∃ x, cs[k]? = some x := ⟨_, List.getElem?_eq_getElem hlt⟩
        have hsn := hok c (List.mem_of_getElem? hx)
        have hRr := (hR.below HB1.out hB).below hbw (Nat.le_trans hB HB1.out.size)
        have htk : (cs.take k).length = k := by rw [List.length_take]; omega
        have htk1 : cs.take (k + 1) = cs.take k ++ [c] := by
          obtain ⟨h, rfl⟩ := List.getElem?_eq_some_iff.1 hx
          rw [List.take_succ_eq_append_getElem h]
        obtain ⟨A2, cap2, rfl, hrd, _⟩ := own_rd1 (xs := (cs.take k).map Clm.name) (enc := Value.string) (by rw [List.length_map, htk]; exact OWN.out)
        rw [List.length_map, htk] at OWN ⊢
        have ht := refClaim_any A2 (cs.take k) wr.heap.size cap2 c wr hsn (by rw [htk]; unfold maxLen; omega) hrd (Nat.le_refl _)
        rw [htk] at ht
        have he : toldAt cs k = toldE (cs.take k) c := by simp [toldAt, hx]
        obtain ⟨T, hT⟩ : ∃ T, toldE (cs.take k) c = T := ⟨_, rfl⟩
        rw [hT] at he ht
        obtain ⟨b, off, rfl, _, e0, e1, e2, e3⟩ := clmAt hRr hx
        obtain ⟨name, rank, clo, chi⟩ := c
        simp only at e0 e1 e2 e3 ht hsn
        have HT := Lib.hid ht
        have HE2 := Lib.hid he
        have HTK := Lib.hid htk1
        have hkz : (k : Int) < (cs.length : Int) := by omega
        have hk0 : (0 : Int) ≤ (k : Int) := by omega
        have HBW := Lib.hid hbw
        clear hRr htk htk1 hrd ht he hT hx hbw
        go_wp2_with fail
        refine HT.out.mono ?_
        rintro e w3 ⟨rfl, hb3⟩
        have p3 : w3.cell? ⟨w.heap.size, 2, none⟩ = some (.slice (some ⟨b, off, none⟩) cs.length cap) := keepC hb3 p2
        have d0 := keepC hb3 e0
        have hz3 := hb3.size
        have OWN3 := Lib.hid (own_below OWN.out hb3)
        have HB3 := Lib.hid (belowT HBW.out hb3)
        have hnew : ∀ j u, [Value.string name][j]? = some u → (w3.alloc (.cells #[.string name] 9)).cell? ((⟨w3.heap.size, 0, none⟩ : Addr).add j) = some u := one_new _ _ _
        have HNW := Lib.hid hnew
        clear hb3 hnew e0 e1 e2 e3 p2 OWN
        go_wp2_with (at_builtin; refine wpList_append_own _ rfl _ _ 28 rfl w1.heap.size 9 i0 (.string ⟨#[]⟩) 1 16 Try.underlying28 hi0 hz0 hz1 hz2 rfl (by decide) _ _ _ rfl (OWN3.out.alloc _) ⟨w3.heap.size, 0, none⟩ 1 1 [.string name] rfl rfl ?c1 ?c2 ?c3 ?c4 ?c5 ?_)
        case c1 => exact HNW.out
        case c2 => simp [Value.oneCell']
        case c3 => unfold maxLen; omega
        case c4 => omega
        case c5 => simp; omega
        intro v' w4 hown' hgrow _
        have hB4 : Below w1.heap.size w1 w4 := grownB (OWN3.out.alloc _) hgrow (Nat.le_refl _) (belowA HB3.out _)
        have HO' := Lib.hid hown'
        clear hgrow hown' p3 d0
        by_cases hT0 : T = 0
        · subst hT0
          go_wp2
          go_roundw
          case rel => exact ⟨k + 1, v', by omega, by go_num, rfl, Lib.hid (by have h := HO'.out; rw [HTK.out]; simpa using h), hB4, Lib.hid (firstBad_succ HN.out HE2.out)⟩
          case measure => simp [intOf]; omega
        · have hne : (T != 0) = true := by simpa using hT0
          have HT0 := Lib.hid hT0
          clear hT0
          go_wp2
          go_ret3
          exact ⟨by rw [HR.out, firstBad_at HN.out (by rw [HE2.out]; exact HT0.out) hlt, HE2.out]; rfl, belowT HB1.out hB4⟩
      · obtain rfl : k = cs.length := by omega
        go_wp2
        go_ret3
        exact ⟨by rw [HR.out, HN.out]; rfl, belowT HB1.out hbw⟩

/-- Whether an estate is right. -/
def rightB (lo hi : Int) (cs : List Clm) : Bool := estErr lo hi cs == 0
set_option maxRecDepth 100000 in
theorem right_any (lo hi : Int) (A : Option Addr) (cs : List Clm) (B cap : Nat) (w : World) (hm : cs.length ≤ cap) (hcm : cap ≤ maxLen) (hok : ClmsOk cs) (hR : RdN 4 encClm w B A cs) (hB : B ≤ w.heap.size) :
    Calls Try.prog 47 #[.agg #[.int .i64 lo, .int .i64 hi, .slice A cs.length cap]] w fun e w' => e = .returned (.bool (rightB lo hi cs)) ∧ Below w.heap.size w w' := by
  have hb0 : Below w.heap.size w _ := belowA (belowR w) (.cells #[.int .i64 lo, .int .i64 hi, .slice A cs.length cap] 42)
  have hc := refCheck_any lo hi A cs B cap (w.alloc (.cells #[.int .i64 lo, .int .i64 hi, .slice A cs.length cap] 42)) hm hcm hok (hR.below hb0 hB) (Nat.le_trans hB hb0.size)
  obtain ⟨r, hr⟩ : ∃ r, estE lo hi cs = r := ⟨_, rfl⟩
  have hb : rightB lo hi cs = (r.2.2 == 0) := by unfold rightB estErr; rw [hr]
  rw [hr] at hc
  rw [hb]
  obtain ⟨r1, r2, r3⟩ := r
  simp only [ret3] at hc ⊢
  have HC := Lib.hid hc
  clear hc hr hb
  cases h : (r3 == 0)
  · go_enter Try.func47, Try.ntmps47
    go_wp2_with fail
    refine HC.out.mono ?_
    rintro e w1 ⟨rfl, hb⟩
    have hB1 := belowT hb0 hb
    clear hb hb0
    go_wp2
    go_ret
    exact ⟨rfl, hB1⟩
  · go_enter Try.func47, Try.ntmps47
    go_wp2_with fail
    refine HC.out.mono ?_
    rintro e w1 ⟨rfl, hb⟩
    have hB1 := belowT hb0 hb
    clear hb hb0
    go_wp2
    go_ret
    exact ⟨rfl, hB1⟩
end Go.Proofs.Ytblbbhenmhkknaa
