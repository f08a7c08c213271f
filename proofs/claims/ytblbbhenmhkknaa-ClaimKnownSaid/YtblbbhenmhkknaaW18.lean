/- The copies of claims. -/
import Derived.Test.YtblbbhenmhkknaaShelf
import Derived.Test.YtblbbhenmhkknaaW17
namespace Go.Proofs.Ytblbbhenmhkknaa
open Go.RowKit Go.Shelf

def Try.laysC108_ren : Go.Shelf.Ren := ⟨fun | 41 => 108 | n => n, fun | 22 => 115 | 23 => 125 | 4 => 4 | n => n, fun | n => n⟩
theorem Try.laysC108 : Go.Proofs.SlLaysE0.n41 Try.prog Try.laysC108_ren := {
  mixed := by kernel_rfl
  f41 := ⟨Try.f108.name, by decide, Try.func108.trans (congrArg some (by kernel_rfl))⟩
  t4 := Try.underlying4
  a4 := Try.isAgg4
  z4 := Try.sizeOf4
  v4 := Try.zeroValue4
  t22 := Try.underlying115
  a22 := Try.isAgg115
  z22 := Try.sizeOf115
  v22 := Try.zeroValue115 }
def Try.laysC77_ren : Go.Shelf.Ren := ⟨fun | 41 => 77 | n => n, fun | 22 => 40 | 23 => 46 | 4 => 4 | n => n, fun | n => n⟩
theorem Try.laysC77 : Go.Proofs.SlLaysE0.n41 Try.prog Try.laysC77_ren := {
  mixed := by kernel_rfl
  f41 := ⟨Try.f77.name, by decide, Try.func77.trans (congrArg some (by kernel_rfl))⟩
  t4 := Try.underlying4
  a4 := Try.isAgg4
  z4 := Try.sizeOf4
  v4 := Try.zeroValue4
  t22 := Try.underlying40
  a22 := Try.isAgg40
  z22 := Try.sizeOf40
  v22 := Try.zeroValue40 }

theorem Try.info46 : (Try.prog.info? 46).map (fun i => (i.zero, i.size, i.bytes)) = some (some (.agg #[.string ⟨#[]⟩, .int .i64 0, .int .i64 0, .int .i64 0]), 4, 40) := by kernel_rfl
theorem enc4_len (c : Clm) : (encClm c).length = 4 := rfl

theorem flat_cells {α : Type} {k : Nat} (hk : 0 < k) {encs : α → List Value} (he : ∀ x, (encs x).length = k) {w : World} {B b off : Nat} {xs : List α} (hR : RdN k encs w B (some ⟨b, off, none⟩) xs) : ∀ j u, (xs.flatMap encs)[j]? = some u → w.cell? ⟨b, off + j, none⟩ = some u := by
  intro j u hu
  have hj : j < xs.length * k := by rw [← flat_len he]; exact (List.getElem?_eq_some_iff.1 hu).1
  have hi : j / k < xs.length := Nat.div_lt_of_lt_mul (by rw [Nat.mul_comm]; exact hj)
  have hr : j % k < k := Nat.mod_lt _ hk
  obtain ⟨x, hx⟩ : ∃ x, xs[j / k]? = some x := ⟨_, List.getElem?_eq_getElem hi⟩
  obtain ⟨v, hv⟩ : ∃ v, (encs x)[j % k]? = some v := ⟨_, List.getElem?_eq_getElem (by rw [he]; exact hr)⟩
  have hf := flat_get he xs _ x hx _ v hv
  have e : j / k * k + j % k = j := by rw [Nat.mul_comm]; exact Nat.div_add_mod j k
  rw [e, hu] at hf
  injection hf with hf
  subst hf
  obtain ⟨b', off', eA, _, hc⟩ := hR _ x hx
  injection eA with eA
  injection eA with e1 e2
  subst e1 e2
  have := hc _ _ hv
  rwa [Nat.add_assoc, e] at this

theorem clone3_any (A : Option Addr) (l : List Cl3) (B cap : Nat) (w : World) (h0 : 0 < l.length) (hm : l.length ≤ 1000) (hR : RdN 3 encC3 w B A l) :
    Calls Try.prog 108 #[.slice A l.length cap] w fun e w' => ∃ v', e = .returned v' ∧ w'.ownsRow w.heap.size 125 3 v' l.length (l.flatMap encC3) ∧ Below w.heap.size w w' := by
  obtain ⟨i0, hi, hz0, hz1, hz2⟩ := info_parts Try.info125
  obtain ⟨b, off, rfl, _, _⟩ := hR 0 _ (List.getElem?_eq_getElem h0)
  refine (AnyE.slices_Clone Try.laysC108 i0 _ 3 24 hi hz0 hz1 hz2 rfl (by decide) Try.sizeOf125 b off l.length cap (l.flatMap encC3) w (flat_len enc3_len l) (by unfold maxLen; omega) (by omega) (flat_cells (by decide) enc3_len hR) ?_).mono ?_
  · intro u hu
    obtain ⟨c, _, hc⟩ := List.mem_flatMap.1 hu
    simp [encC3] at hc
    rcases hc with rfl | rfl | rfl <;> rfl
  · rintro e w' ⟨v', rfl, h1, _, h3⟩
    exact ⟨v', rfl, h1, h3⟩
theorem clone4_any (A : Option Addr) (l : List Clm) (B cap : Nat) (w : World) (h0 : 0 < l.length) (hm : l.length ≤ 1000) (hR : RdN 4 encClm w B A l) :
    Calls Try.prog 77 #[.slice A l.length cap] w fun e w' => ∃ v', e = .returned v' ∧ w'.ownsRow w.heap.size 46 4 v' l.length (l.flatMap encClm) ∧ Below w.heap.size w w' := by
  obtain ⟨i0, hi, hz0, hz1, hz2⟩ := info_parts Try.info46
  obtain ⟨b, off, rfl, _, _⟩ := hR 0 _ (List.getElem?_eq_getElem h0)
  refine (AnyE.slices_Clone Try.laysC77 i0 _ 4 40 hi hz0 hz1 hz2 rfl (by decide) Try.sizeOf46 b off l.length cap (l.flatMap encClm) w (flat_len enc4_len l) (by unfold maxLen; omega) (by omega) (flat_cells (by decide) enc4_len hR) ?_).mono ?_
  · intro u hu
    obtain ⟨c, _, hc⟩ := List.mem_flatMap.1 hu
    simp [encClm] at hc
    rcases hc with rfl | rfl | rfl | rfl <;> rfl
  · rintro e w' ⟨v', rfl, h1, _, h3⟩
    exact ⟨v', rfl, h1, h3⟩
end Go.Proofs.Ytblbbhenmhkknaa
