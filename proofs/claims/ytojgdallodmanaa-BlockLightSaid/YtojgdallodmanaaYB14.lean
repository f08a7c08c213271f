/- The copy of weighings. -/
import Derived.Shelf.SlicesE.Clone
import Derived.Test.YtojgdallodmanaaZ244535
import Derived.Test.YtojgdallodmanaaYB13
namespace Go.Proofs.Ytojgdallodmanaa
open Go.RowKit Go.Shelf

def Try.laysC122_ren : Go.Shelf.Ren := ⟨fun | 41 => 122 | n => n, fun | 22 => 28 | 23 => 82 | 4 => 4 | n => n, fun | n => n⟩
theorem Try.laysC122 : Go.Proofs.SlLaysE0.n41 Try.prog Try.laysC122_ren := {
  mixed := by kernel_rfl
  f41 := ⟨Try.f122.name, by decide, Try.func122.trans (congrArg some (by kernel_rfl))⟩
  t4 := Try.underlying4
  a4 := Try.isAgg4
  z4 := Try.sizeOf4
  v4 := Try.zeroValue4
  t22 := Try.underlying28
  a22 := Try.isAgg28
  z22 := Try.sizeOf28
  v22 := Try.zeroValue28 }

theorem Try.info82 : (Try.prog.info? 82).map (fun i => (i.zero, i.size, i.bytes)) = some (some (.agg #[.int .i64 0, .int .i64 0, .int .i64 0]), 3, 24) := by kernel_rfl
theorem Try.info153 : (Try.prog.info? 102).map (fun i => (i.zero, i.size, i.bytes)) = some (some (.pointer none), 1, 8) := by kernel_rfl
theorem encWgh_len (c : Wgh) : (encWgh c).length = 3 := rfl
theorem info_parts {t : TypeId} {z : Option Value} {s b : Nat} (h : (Try.prog.info? t).map (fun i => (i.zero, i.size, i.bytes)) = some (z, s, b)) : ∃ i0, Try.prog.info? t = some i0 ∧ i0.zero = z ∧ i0.size = s ∧ i0.bytes = b := by
  rcases hi : Try.prog.info? t with _ | i0
  · rw [hi] at h; cases h
  · rw [hi] at h
    simp only [Option.map_some, Option.some.injEq, Prod.mk.injEq] at h
    exact ⟨i0, rfl, h.1, h.2.1, h.2.2⟩

theorem flat_cells {α : Type} {k : Nat} (hk : 0 < k) {encs : α → List Value} (he : ∀ x, (encs x).length = k) {w : World} {B b off : Nat} {xs : List α} (hR : RdN k encs w B (some ⟨b, off, none⟩) xs) : ∀ j u, (xs.flatMap encs)[j]? = some u → w.cell? ⟨b, off + j, none⟩ = some u := by
  intro j u hu
  have hj : j < xs.length * k := by rw [← flat_len he]; exact (List.getElem?_eq_some_iff.1 hu).1
  have hi : j / k < xs.length := Nat.div_lt_of_lt_mul (by rw [Nat.mul_comm]; exact hj)
  have hr : j % k < k := Nat.mod_lt _ hk
  obtain ⟨x, hx⟩ : ∃ x, xs[j / k]? = some x := ⟨_, List.getElem?_eq_getElem hi⟩
  obtain ⟨v, hv⟩ : ∃ v, (encs x)[j % k]? = some v := ⟨_, List.getElem?_eq_getElem (by rw [he]; exact hr)⟩
  have hf := flat_get he xs _ x hx _ v hv
  have e : j / k * k + j % k = j := by rw [Nat.mul_comm]; exact Nat.div_add_mod j k
  rw [e, hu] at hf
  injection hf with hf
  subst hf
  obtain ⟨b', off', eA, _, hc⟩ := hR _ x hx
  injection eA with eA
  injection eA with e1 e2
  subst e1 e2
  have := hc _ _ hv
  rwa [Nat.add_assoc, e] at this

set_option maxRecDepth 100000 in
theorem clone0_any (ad : Addr) (cap : Nat) (w : World) :
    Calls Try.prog 122 #[.slice (some ad) 0 cap] w fun e w' => ∃ v', e = .returned v' ∧ w'.ownsRow w.heap.size 82 3 v' 0 [] ∧ Below w.heap.size w w' := by
  obtain ⟨i0, hi, hz0, hz1, hz2⟩ := info_parts Try.info82
  have hlit := World.ownsRow_lit (e := 82) (size := 3) (base := w.heap.size) w #[] 0 (Nat.le_refl _) (by decide) (by simp)
  have HL := Lib.hid hlit
  clear hlit
  have q28 : ∀ (w : World) (a : Option Addr) (n c n' c' : Nat), (binOp .eql 28 (.slice a n c) (.slice none n' c')).run Try.prog w = .ok (.bool a.isNone) w := fun w a n c n' c' => Lib.run_eql_slice_nil w _ _ a n c n' c' Try.underlying28
  go_enter Try.func122, Try.ntmps122
  go_wp2_with (at_builtin; refine wpList_append_own _ rfl _ _ 28 rfl w.heap.size 82 i0 (.agg #[.int .i64 0, .int .i64 0, .int .i64 0]) 3 24 Try.underlying28 hi hz0 hz1 hz2 rfl (by decide) _ _ _ rfl HL.out ad 0 cap [] rfl rfl ?d1 ?d2 ?d3 ?d4 ?d5 ?_)
  intro v' w3 hown hg _
  have hb := grownB HL.out hg (Nat.le_refl _) (belowA (belowR w) _)
  have HO := Lib.hid hown
  have HB := Lib.hid hb
  clear hown hg hb HL
  go_wp2
  go_ret
  exact ⟨v', rfl, HO.out, HB.out⟩
theorem cloneWgh_any (A : Option Addr) (l : List Wgh) (B cap : Nat) (w : World) (hm : l.length ≤ 6) (hR : RdN 3 encWgh w B A l) :
    Calls Try.prog 122 #[.slice A l.length cap] w fun e w' => ∃ v', e = .returned v' ∧ w'.ownsRow w.heap.size 82 3 v' l.length (l.flatMap encWgh) ∧ Below w.heap.size w w' := by
  rcases Nat.eq_zero_or_pos l.length with h0 | h0
  · have : l = [] := List.length_eq_zero_iff.1 h0
    subst this
    cases A with
    | none =>
      refine (AnyE.slices_Clone_nil Try.laysC122 0 cap w).mono ?_
      rintro e w' ⟨rfl, rfl⟩
      exact ⟨_, rfl, World.ownsRow_nil _ _ _ _, belowR _⟩
    | some ad => exact clone0_any ad cap w
  · obtain ⟨i0, hi, hz0, hz1, hz2⟩ := info_parts Try.info82
    obtain ⟨b, off, rfl, _, _⟩ := hR 0 _ (List.getElem?_eq_getElem h0)
    refine (AnyE.slices_Clone Try.laysC122 i0 _ 3 24 hi hz0 hz1 hz2 rfl (by decide) Try.sizeOf82 b off l.length cap (l.flatMap encWgh) w (flat_len encWgh_len l) (by unfold maxLen; omega) (by omega) (flat_cells (by decide) encWgh_len hR) ?_).mono ?_
    · intro u hu
      obtain ⟨c, _, hc⟩ := List.mem_flatMap.1 hu
      simp [encWgh] at hc
      rcases hc with rfl | rfl | rfl <;> rfl
    · rintro e w' ⟨v', rfl, h1, _, h3⟩
      exact ⟨v', rfl, h1, h3⟩
end Go.Proofs.Ytojgdallodmanaa
