/- ClaimAny: in any truth the owner is one of Owners; the papers of Forged are the fewest: the law returns true. No condition. (The frame of this text follows the kit's proof-skeleton.mjs.) -/
import Derived.Test.YtblbbhenmhkknaaRows
import Derived.Test.YtblbbhenmhkknaaYAnyL
import Derived.Test.YtblbbhenmhkknaaZ540077
namespace Go.Proofs.Ytblbbhenmhkknaa.claimAny
open Go.ChangeShapes Go.WideShapes Go.ChangeAt Go.RowKit
set_option linter.unusedVariables false

theorem own : ownKnob Try.prog.godebug = none := by kernel_rfl

set_option maxRecDepth 100000 in
theorem lifted (os : Os) (started : os.Started) (H : Type) (enc : TypeId × Value → H) :
    ReturnsInHanded {} Try.checked os 7 .any (Rows.claimAnySpec.pre6 enc Try.prog Try.f7 Rows.claimAnyRow.domain false) (Rows.claimAnySpec.post enc Try.prog Try.f7 false true false false) := by
  refine returnsInHanded_of_change (C := Try.checked) own started (by kernel_rfl) Try.func7
    (ChangeSpec.witness6 (enc := enc) (C := Try.checked) false ⟨#[], #[.agg #[.string ⟨#[]⟩, .slice none 0 0, .int .i64 0], .agg #[.int .u8 0, .int .u8 0, .int .u16 0]], []⟩ 8 (by kernel_rfl) (by kernel_rfl) (by kernel_rfl) (by kernel_rfl)) ?_
  intro W base args ds gs before hval0 hW hcnd _
  have hval : ∀ (j : Nat) t v, Try.f7.params[j]? = some t → args[j]? = some v → Value.okWide Try.prog W .any base t v := hval0
  have hW' := hW
  obtain ⟨p, q, hA0, hV, rfl, hfz, hnd⟩ := hW
  have hA : DataW.TrodAll enc Try.prog W 0 (fun _ => true) true Try.f7.params.toList args.toList ds p := hA0
  rw [Try.params7] at hA hval
  obtain ⟨v0, v1, d0, d1, p0, p1, rfl, rfl, rfl, h0, h1⟩ := trodAll_two hA
  obtain ⟨rfl, rfl⟩ := trodVars_none hV
  clear hA0 hval0
  simp only [List.append_nil] at hW'
  have g0 := h0
  have g1 := h1
  obtain ⟨first, A, ps, cap, forged, rfl, hf, hm, hcm, hok, hR, hAn⟩ := open_ship (hval 0 24 v0 rfl rfl) h0
  obtain ⟨xa1, xb1, xc1, rfl, hxa1, hxb1, hxc1⟩ := open_which (hval 1 64 v1 rfl rfl) h1
  refine (Ytblbbhenmhkknaa.anyLaw_any first A ps W.heap.size cap forged xa1 xb1 xc1 W hf hm hcm hok hR (Nat.le_refl _) hAn hxa1 hxb1 hxc1).mono fun e W' ⟨he, hb⟩ => ?_
  subst he
  exact ⟨_, rfl, ⟨_, _, _, [], _, [], hW', trodAll_cons_mk (shut_bool Try.underlying4 _) trodAll_mk0, trodAll_mk2 (Below.trod Try.laidOut (by kernel_rfl) (of_decide_eq_true (by kernel_rfl)) g0 hb (fun x hx => hW'.lt x (by simp [hx]))) (Below.trod Try.laidOut (by kernel_rfl) (of_decide_eq_true (by kernel_rfl)) g1 hb (fun x hx => hW'.lt x (by simp [hx]))), rfl, hb.frame _, fun h => by cases h⟩⟩

theorem over : Rows.claimAnyRow.holds Try.pinned (OpenSpec.ofChange Rows.claimAnySpec) :=
  OpenClaim.holds_of_wide 7 Try.f7 rfl rfl rfl rfl rfl rfl rfl ⟨rfl, rfl, rfl, rfl, rfl⟩ rfl rfl rfl rfl rfl (by kernel_rfl) Try.func7 (by kernel_rfl)
    (of_decide_eq_true (by kernel_rfl)) (by unfold Func.isWrapper; first | (rw [if_pos (by decide +kernel)]; kernel_rfl) | (rw [if_neg (by decide +kernel)]; exact ⟨rfl, rfl⟩))
    (fun os started H enc _ => lifted os started H enc)

theorem proved : Rows.ClaimAnySaid :=
  over
#print axioms proved
end Go.Proofs.Ytblbbhenmhkknaa.claimAny
