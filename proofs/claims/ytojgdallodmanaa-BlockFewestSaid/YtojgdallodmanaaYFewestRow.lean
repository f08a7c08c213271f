/- BlockFewest: no good cut has fewer blocks than that of Fewest, a finer cut of a good one is good just if its blocks hang together, with a further joint a good cut stays good: the law returns true. No condition. (The frame of this text follows the kit's proof-skeleton.mjs.) -/
import Derived.Test.YtojgdallodmanaaRows
import Derived.Test.YtojgdallodmanaaZ0771ae
import Derived.Test.YtojgdallodmanaaYOpen3
import Derived.Test.YtojgdallodmanaaYFewestLaw
namespace Go.Proofs.Ytojgdallodmanaa.blockFewest
open Go.ChangeShapes Go.WideShapes Go.ChangeAt Go.RowKit
set_option linter.unusedVariables false

theorem own : ownKnob Try.prog.godebug = none := by kernel_rfl

set_option maxRecDepth 100000 in
theorem lifted (os : Os) (started : os.Started) (H : Type) (enc : TypeId × Value → H) :
    ReturnsInHanded {} Try.checked os 12 .any (Rows.blockFewestSpec.pre6 enc Try.prog Try.f12 Rows.blockFewestRow.domain false) (Rows.blockFewestSpec.post enc Try.prog Try.f12 false true false false) := by
  refine returnsInHanded_of_change (C := Try.checked) own started (by kernel_rfl) Try.func12
    (ChangeSpec.witness6 (enc := enc) (C := Try.checked) false ⟨#[], #[.agg #[.slice none 0 0, .slice none 0 0, .int .i64 0, .int .i64 0, .int .i64 0], .slice none 0 0, .agg #[.slice none 0 0, .slice none 0 0, .int .u8 0, .int .u8 0]], []⟩ 8 (by kernel_rfl) (by kernel_rfl) (by kernel_rfl) (by kernel_rfl)) ?_
  intro W base args ds gs before hval0 hW hcnd _
  have hval : ∀ (j : Nat) t v, Try.f12.params[j]? = some t → args[j]? = some v → Value.okWide Try.prog W .any base t v := hval0
  have hW' := hW
  obtain ⟨p, q, hA0, hV, rfl, hfz, hnd⟩ := hW
  have hA : DataW.TrodAll enc Try.prog W 0 (fun _ => true) true Try.f12.params.toList args.toList ds p := hA0
  rw [Try.params12] at hA hval
  obtain ⟨v0, v1, v2, d0, d1, d2, p0, p1, p2, rfl, rfl, rfl, h0, h1, h2⟩ := trodAll_three hA
  obtain ⟨rfl, rfl⟩ := trodVars_none hV
  clear hA0 hval0
  simp only [List.append_nil] at hW'
  have g0 := h0
  have g1 := h1
  have g2 := h2
  obtain ⟨H0, A0, cap0, J0, capJ0, rfl, hH0, hJ0⟩ := open_hul2 (hval 0 27 v0 rfl rfl) h0
  obtain ⟨AL1, l1, capL1, rfl, hlc1, hcm1, hL1⟩ := open_wghs (hval 1 28 v1 rfl rfl) h1
  obtain ⟨AO2, os2, capO2, AT2, ts2, capT2, ja2, jb2, rfl, ol2, ob2, oR2, tl2, tb2, tR2, ja82, jb82⟩ := open_cuts (hval 2 76 v2 rfl rfl) h2
  refine (Ytojgdallodmanaa.fewestLaw_any H0 A0 J0 cap0 capJ0 AL1 l1 capL1 AO2 AT2 os2 ts2 capO2 capT2 ja2 jb2 W.heap.size W hH0 hL1 hlc1 hcm1 oR2 tR2 ol2 tl2 ob2 tb2 ja82 jb82 hJ0 (Nat.le_refl _)).mono fun e W' ⟨he, hb⟩ => ?_
  subst he
  exact ⟨_, rfl, ⟨_, _, _, [], _, [], hW', trodAll_cons_mk (shut_bool Try.underlying4 _) trodAll_mk0, trodAll_mk3 (Below.trod Try.laidOut (by kernel_rfl) (of_decide_eq_true (by kernel_rfl)) g0 hb (fun x hx => hW'.lt x (by simp [hx]))) (Below.trod Try.laidOut (by kernel_rfl) (of_decide_eq_true (by kernel_rfl)) g1 hb (fun x hx => hW'.lt x (by simp [hx]))) (Below.trod Try.laidOut (by kernel_rfl) (of_decide_eq_true (by kernel_rfl)) g2 hb (fun x hx => hW'.lt x (by simp [hx]))), rfl, hb.frame _, fun h => by cases h⟩⟩

theorem over : Rows.blockFewestRow.holds Try.pinned (OpenSpec.ofChange Rows.blockFewestSpec) :=
  OpenClaim.holds_of_wide 12 Try.f12 rfl rfl rfl rfl rfl rfl rfl ⟨rfl, rfl, rfl, rfl, rfl⟩ rfl rfl rfl rfl rfl (by kernel_rfl) Try.func12 (by kernel_rfl)
    (of_decide_eq_true (by kernel_rfl)) (by unfold Func.isWrapper; first | (rw [if_pos (by decide +kernel)]; kernel_rfl) | (rw [if_neg (by decide +kernel)]; exact ⟨rfl, rfl⟩))
    (fun os started H enc _ => lifted os started H enc)

theorem proved : Rows.BlockFewestSaid :=
  over
#print axioms proved
end Go.Proofs.Ytojgdallodmanaa.blockFewest
