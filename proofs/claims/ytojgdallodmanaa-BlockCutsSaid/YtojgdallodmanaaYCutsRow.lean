/- BlockCuts: Bad and Fewest return what the reference says: the law returns true. No condition. (The frame of this text follows the kit's proof-skeleton.mjs.) -/
import Derived.Test.YtojgdallodmanaaRows
import Derived.Test.YtojgdallodmanaaZ36391f
import Derived.Test.YtojgdallodmanaaZ0771ae
namespace Go.Proofs.Ytojgdallodmanaa.blockCuts
open Go.ChangeShapes Go.WideShapes Go.ChangeAt Go.RowKit
set_option linter.unusedVariables false

theorem own : ownKnob Try.prog.godebug = none := by kernel_rfl

set_option maxRecDepth 100000 in
theorem lifted (os : Os) (started : os.Started) (H : Type) (enc : TypeId × Value → H) :
    ReturnsInHanded {} Try.checked os 5 .any (Rows.blockCutsSpec.pre6 enc Try.prog Try.f5 Rows.blockCutsRow.domain false) (Rows.blockCutsSpec.post enc Try.prog Try.f5 false true false false) := by
  refine returnsInHanded_of_change (C := Try.checked) own started (by kernel_rfl) Try.func5
    (ChangeSpec.witness6 (enc := enc) (C := Try.checked) false ⟨#[], #[.agg #[.slice none 0 0, .slice none 0 0, .int .i64 0, .int .i64 0, .int .i64 0], .slice none 0 0, .slice none 0 0], []⟩ 8 (by kernel_rfl) (by kernel_rfl) (by kernel_rfl) (by kernel_rfl)) ?_
  intro W base args ds gs before hval0 hW hcnd _
  have hval : ∀ (j : Nat) t v, Try.f5.params[j]? = some t → args[j]? = some v → Value.okWide Try.prog W .any base t v := hval0
  have hW' := hW
  obtain ⟨p, q, hA0, hV, rfl, hfz, hnd⟩ := hW
  have hA : DataW.TrodAll enc Try.prog W 0 (fun _ => true) true Try.f5.params.toList args.toList ds p := hA0
  rw [Try.params5] at hA hval
  obtain ⟨v0, v1, v2, d0, d1, d2, p0, p1, p2, rfl, rfl, rfl, h0, h1, h2⟩ := trodAll_three hA
  obtain ⟨rfl, rfl⟩ := trodVars_none hV
  clear hA0 hval0
  simp only [List.append_nil] at hW'
  have g0 := h0
  have g1 := h1
  have g2 := h2
  obtain ⟨H0, A0, cap0, J0, capJ0, rfl, hH0⟩ := open_hul (hval 0 27 v0 rfl rfl) h0
  obtain ⟨AL1, l1, capL1, rfl, hlc1, hcm1, hL1⟩ := open_wghs (hval 1 28 v1 rfl rfl) h1
  obtain ⟨AN2, ns2, capN2, rfl, hnc2, hncm2, hN2⟩ := open_ints40 (hval 2 40 v2 rfl rfl) h2
  refine (Ytojgdallodmanaa.cutsLaw_any H0 A0 J0 cap0 capJ0 AL1 l1 capL1 AN2 ns2 capN2 W.heap.size W hH0 hL1 hlc1 hcm1 hnc2 hncm2 hN2 (Nat.le_refl _)).mono fun e W' ⟨he, hb⟩ => ?_
  subst he
  exact ⟨_, rfl, ⟨_, _, _, [], _, [], hW', trodAll_cons_mk (shut_bool Try.underlying4 _) trodAll_mk0, trodAll_mk3 (Below.trod Try.laidOut (by kernel_rfl) (of_decide_eq_true (by kernel_rfl)) g0 hb (fun x hx => hW'.lt x (by simp [hx]))) (Below.trod Try.laidOut (by kernel_rfl) (of_decide_eq_true (by kernel_rfl)) g1 hb (fun x hx => hW'.lt x (by simp [hx]))) (Below.trod Try.laidOut (by kernel_rfl) (of_decide_eq_true (by kernel_rfl)) g2 hb (fun x hx => hW'.lt x (by simp [hx]))), rfl, hb.frame _, fun h => by cases h⟩⟩

theorem over : Rows.blockCutsRow.holds Try.pinned (OpenSpec.ofChange Rows.blockCutsSpec) :=
  OpenClaim.holds_of_wide 5 Try.f5 rfl rfl rfl rfl rfl rfl rfl ⟨rfl, rfl, rfl, rfl, rfl⟩ rfl rfl rfl rfl rfl (by kernel_rfl) Try.func5 (by kernel_rfl)
    (of_decide_eq_true (by kernel_rfl)) (by unfold Func.isWrapper; first | (rw [if_pos (by decide +kernel)]; kernel_rfl) | (rw [if_neg (by decide +kernel)]; exact ⟨rfl, rfl⟩))
    (fun os started H enc _ => lifted os started H enc)

theorem proved : Rows.BlockCutsSaid :=
  over
#print axioms proved
end Go.Proofs.Ytojgdallodmanaa.blockCuts
