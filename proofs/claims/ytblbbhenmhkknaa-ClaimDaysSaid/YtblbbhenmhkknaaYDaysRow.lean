/- ClaimDays: papers of later days change nothing, with no paper forged there is just one owner, with more forged papers all who could be the owner still can: the law returns true. No condition. (The frame of this text follows the kit's proof-skeleton.mjs.) -/
import Derived.Test.YtblbbhenmhkknaaRows
import Derived.Test.YtblbbhenmhkknaaYDays
import Derived.Test.YtblbbhenmhkknaaZ540077
namespace Go.Proofs.Ytblbbhenmhkknaa.claimDays
open Go.ChangeShapes Go.WideShapes Go.ChangeAt Go.RowKit
set_option linter.unusedVariables false

theorem own : ownKnob Try.prog.godebug = none := by kernel_rfl

set_option maxRecDepth 100000 in
theorem lifted (os : Os) (started : os.Started) (H : Type) (enc : TypeId × Value → H) :
    ReturnsInHanded {} Try.checked os 8 .any (Rows.claimDaysSpec.pre6 enc Try.prog Try.f8 Rows.claimDaysRow.domain false) (Rows.claimDaysSpec.post enc Try.prog Try.f8 false true false false) := by
  refine returnsInHanded_of_change (C := Try.checked) own started (by kernel_rfl) Try.func8
    (ChangeSpec.witness6 (enc := enc) (C := Try.checked) false ⟨#[], #[.agg #[.string ⟨#[]⟩, .slice none 0 0, .int .i64 0], .agg #[.int .i64 0, .string ⟨#[]⟩, .string ⟨#[]⟩], .agg #[.int .u8 0, .int .u8 0, .int .u16 0]], []⟩ 8 (by kernel_rfl) (by kernel_rfl) (by kernel_rfl) (by kernel_rfl)) ?_
  intro W base args ds gs before hval0 hW hcnd _
  have hval : ∀ (j : Nat) t v, Try.f8.params[j]? = some t → args[j]? = some v → Value.okWide Try.prog W .any base t v := hval0
  have hW' := hW
  obtain ⟨p, q, hA0, hV, rfl, hfz, hnd⟩ := hW
  have hA : DataW.TrodAll enc Try.prog W 0 (fun _ => true) true Try.f8.params.toList args.toList ds p := hA0
  rw [Try.params8] at hA hval
  obtain ⟨v0, v1, v2, d0, d1, d2, p0, p1, p2, rfl, rfl, rfl, h0, h1, h2⟩ := trodAll_three hA
  obtain ⟨rfl, rfl⟩ := trodVars_none hV
  clear hA0 hval0
  simp only [List.append_nil] at hW'
  have g0 := h0
  have g1 := h1
  have g2 := h2
  obtain ⟨first, A, ps, cap, forged, rfl, hf, hm, hcm, hok, hR, hAn⟩ := open_ship (hval 0 24 v0 rfl rfl) h0
  obtain ⟨p1, rfl, hps1, hpd1⟩ := open_papV (hval 1 72 v1 rfl rfl) h1
  obtain ⟨xa2, xb2, xc2, rfl, hxa2, hxb2, hxc2⟩ := open_which (hval 2 64 v2 rfl rfl) h2
  refine (Ytblbbhenmhkknaa.daysLaw_any first A ps W.heap.size cap forged p1 xa2 xb2 xc2 W hf hm hcm hok hps1 hpd1 hR (Nat.le_refl _) hAn hxa2 hxb2 hxc2).mono fun e W' ⟨he, hb⟩ => ?_
  subst he
  exact ⟨_, rfl, ⟨_, _, _, [], _, [], hW', trodAll_cons_mk (shut_bool Try.underlying4 _) trodAll_mk0, trodAll_mk3 (Below.trod Try.laidOut (by kernel_rfl) (of_decide_eq_true (by kernel_rfl)) g0 hb (fun x hx => hW'.lt x (by simp [hx]))) (Below.trod Try.laidOut (by kernel_rfl) (of_decide_eq_true (by kernel_rfl)) g1 hb (fun x hx => hW'.lt x (by simp [hx]))) (Below.trod Try.laidOut (by kernel_rfl) (of_decide_eq_true (by kernel_rfl)) g2 hb (fun x hx => hW'.lt x (by simp [hx]))), rfl, hb.frame _, fun h => by cases h⟩⟩

theorem over : Rows.claimDaysRow.holds Try.pinned (OpenSpec.ofChange Rows.claimDaysSpec) :=
  OpenClaim.holds_of_wide 8 Try.f8 rfl rfl rfl rfl rfl rfl rfl ⟨rfl, rfl, rfl, rfl, rfl⟩ rfl rfl rfl rfl rfl (by kernel_rfl) Try.func8 (by kernel_rfl)
    (of_decide_eq_true (by kernel_rfl)) (by unfold Func.isWrapper; first | (rw [if_pos (by decide +kernel)]; kernel_rfl) | (rw [if_neg (by decide +kernel)]; exact ⟨rfl, rfl⟩))
    (fun os started H enc _ => lifted os started H enc)

theorem proved : Rows.ClaimDaysSaid :=
  over
#print axioms proved
end Go.Proofs.Ytblbbhenmhkknaa.claimDays
