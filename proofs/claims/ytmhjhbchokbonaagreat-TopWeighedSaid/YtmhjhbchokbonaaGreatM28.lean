/- TopWeighed: what is weighed in blocks is put in the place of what a hull's parts can weigh: the truth still is one of it, no number of the least balance is less, what surely stood still does, and in that truth it stands: the law returns true. No condition. (The frame of this text follows the kit's proof-skeleton.mjs.) -/
import Derived.Test.YtmhjhbchokbonaaGreatRows
import Derived.Test.YtmhjhbchokbonaaGreatM0
import Derived.Test.YtmhjhbchokbonaaGreatM27
set_option maxRecDepth 1000000
set_option maxHeartbeats 16000000
namespace Go.Proofs.YtmhjhbchokbonaaGreat.topWeighed
open Go.ChangeShapes Go.WideShapes Go.ChangeAt Go.RowKit
set_option linter.unusedVariables false
theorem own : ownKnob Tryz.prog.godebug = none := by kernel_rfl
theorem lifted (os : Os) (started : os.Started) (H : Type) (enc : TypeId × Value → H) :
  ReturnsInHanded {} Tryz.checked os 3 .any (Rows.topWeighedSpec.pre6 enc Tryz.prog Tryz.f3 Rows.topWeighedRow.domain false) (Rows.topWeighedSpec.post enc Tryz.prog Tryz.f3 false true false false) := by
 refine returnsInHanded_of_change (C := Tryz.checked) own started (by kernel_rfl) Tryz.func3
  (ChangeSpec.witness6 (enc := enc) (C := Tryz.checked) false ⟨#[], #[.agg #[.slice none 0 0, iv 0, iv 0], .agg #[.slice none 0 0, .slice none 0 0, .slice none 0 0, .int .u16 0, .int .u16 0, .int .u16 0]], []⟩ 8 (by kernel_rfl) (by kernel_rfl) (by kernel_rfl) (by kernel_rfl)) ?_
 intro W base args ds gs before hval0 hW hcnd _
 have hval : ∀ (j : Nat) t v, Tryz.f3.params[j]? = some t → args[j]? = some v → Value.okWide Tryz.prog W .any base t v := hval0
 have hW' := hW
 obtain ⟨p, q, hA0, hV, rfl, hfz, hnd⟩ := hW
 have hA : DataW.TrodAll enc Tryz.prog W 0 (fun _ => true) true Tryz.f3.params.toList args.toList ds p := hA0
 rw [Tryz.params3] at hA hval
 obtain ⟨v0, v1, d0, d1, p0, p1, rfl, rfl, rfl, h0, h1⟩ := trodAll_two hA
 obtain ⟨rfl, rfl⟩ := trodVars_none hV
 clear hA0 hval0
 simp only [List.append_nil] at hW'
 have g0 := h0
 have g1 := h1
 obtain ⟨h5, A0, cap0, rfl, hH0⟩ := open_sth (hval 0 24 v0 rfl rfl) h0
 obtain ⟨AB, bl, cB, AT, us, cT, AR, ar, cR, ta, tb, wa, rfl, ⟨b1, b2, b3⟩, ⟨t1, t2⟩, ⟨r1, r2⟩, hta, htb, hwa⟩ := open_weighed (hval 1 30 v1 rfl rfl) h1
 refine (YtmhjhbchokbonaaGreat.topLaw_any h5 A0 AB AT AR bl us ar cap0 cB cT cR ta tb wa W hH0 b1 b2 b3 t1 t2 r1 r2 hta htb hwa).mono fun e W' ⟨he, hb⟩ => ?_
 subst he
 exact ⟨_, rfl, ⟨_, _, _, [], _, [], hW', trodAll_cons_mk (shut_bool Tryz.underlying4 _) trodAll_mk0, trodAll_mk2 (Below.trod Tryz.laidOut (by kernel_rfl) (of_decide_eq_true (by kernel_rfl)) g0 hb (fun x hx => hW'.lt x (by simp [hx]))) (Below.trod Tryz.laidOut (by kernel_rfl) (of_decide_eq_true (by kernel_rfl)) g1 hb (fun x hx => hW'.lt x (by simp [hx]))), rfl, hb.frame _, fun h => by cases h⟩⟩
theorem over : Rows.topWeighedRow.holds Tryz.pinned (OpenSpec.ofChange Rows.topWeighedSpec) :=
 OpenClaim.holds_of_wide 3 Tryz.f3 rfl rfl rfl rfl rfl rfl rfl ⟨rfl, rfl, rfl, rfl, rfl⟩ rfl rfl rfl rfl rfl (by kernel_rfl) Tryz.func3 (by kernel_rfl)
  (of_decide_eq_true (by kernel_rfl)) (by unfold Func.isWrapper; first | (rw [if_pos (by decide +kernel)]; kernel_rfl) | (rw [if_neg (by decide +kernel)]; exact ⟨rfl, rfl⟩))
  (fun os started H enc _ => lifted os started H enc)
theorem proved : Rows.TopWeighedSaid :=
 over
#print axioms proved
end Go.Proofs.YtmhjhbchokbonaaGreat.topWeighed
