/- BlockMore: with a further weighing no range of Weights or Pull is wider, and no more blocks are needed: the law returns true. No condition. (The frame of this text follows the kit's proof-skeleton.mjs.) -/
import Derived.Test.YtojgdallodmanaaRows
import Derived.Test.YtojgdallodmanaaZ0771ae
import Derived.Test.YtojgdallodmanaaYOpen3
import Derived.Test.YtojgdallodmanaaYMoreLaw
import Derived.Test.YtojgdallodmanaaYMore0
namespace Go.Proofs.Ytojgdallodmanaa.blockMore
open Go.ChangeShapes Go.WideShapes Go.ChangeAt Go.RowKit
set_option linter.unusedVariables false

theorem own : ownKnob Try.prog.godebug = none := by kernel_rfl

set_option maxRecDepth 100000 in
theorem lifted (os : Os) (started : os.Started) (H : Type) (enc : TypeId × Value → H) :
    ReturnsInHanded {} Try.checked os 13 .any (Rows.blockMoreSpec.pre6 enc Try.prog Try.f13 Rows.blockMoreRow.domain false) (Rows.blockMoreSpec.post enc Try.prog Try.f13 false true false false) := by
  refine returnsInHanded_of_change_sized (C := Try.checked) own started (by kernel_rfl) Try.func13
    (ChangeSpec.witness6 (enc := enc) (C := Try.checked) false ⟨#[], #[.agg #[.slice none 0 0, .slice none 0 0, .int .i64 0, .int .i64 0, .int .i64 0], .slice none 0 0, .agg #[.int .i64 0, .int .i64 0, .int .i64 0, .int .u8 0]], []⟩ 8 (by kernel_rfl) (by kernel_rfl) (by kernel_rfl) (by kernel_rfl)) ?_
  intro W base args ds gs before hval0 hW hcnd hsz _
  have hval : ∀ (j : Nat) t v, Try.f13.params[j]? = some t → args[j]? = some v → Value.okWide Try.prog W .any base t v := hval0
  have hW' := hW
  obtain ⟨p, q, hA0, hV, rfl, hfz, hnd⟩ := hW
  have hA : DataW.TrodAll enc Try.prog W 0 (fun _ => true) true Try.f13.params.toList args.toList ds p := hA0
  rw [Try.params13] at hA hval
  obtain ⟨v0, v1, v2, d0, d1, d2, p0, p1, p2, rfl, rfl, rfl, h0, h1, h2⟩ := trodAll_three hA
  obtain ⟨rfl, rfl⟩ := trodVars_none hV
  clear hA0 hval0
  simp only [List.append_nil] at hW'
  have g0 := h0
  have g1 := h1
  have g2 := h2
  obtain ⟨H0, A0, cap0, J0, capJ0, rfl, hH0⟩ := open_hul (hval 0 27 v0 rfl rfl) h0
  obtain ⟨AL1, l1, capL1, rfl, hlc1, hcm1, hL1, hl01⟩ := open_wghs2 (hval 1 28 v1 rfl rfl) h1
  obtain ⟨x2, blk2, rfl, hb2⟩ := open_further (hval 2 84 v2 rfl rfl) h2
  have hmb : (l1.length + 1) * 24 ≤ 140737488355328 := by
    rcases Ytojgdallodmanaa.wghs_read g1 with h0 | ⟨es, sp, rfl, hel⟩
    · omega
    · have hx : (es.length + sp.length) * Try.prog.bytesOf 82 ≤ reachBytes := sized_slice (j := 1) (t := 28) hsz rfl rfl Try.underlying28
      rw [Ytojgdallodmanaa.bytes82, hel] at hx
      have := reachBytes_lt
      have e47 : reachBytes + 24 ≤ 140737488355328 := by decide
      have : l1.length * 24 ≤ (l1.length + sp.length) * 24 := Nat.mul_le_mul_right _ (by omega)
      omega
  have hm1 : l1.length + 1 ≤ maxLen := by unfold maxLen; omega
  refine (Ytojgdallodmanaa.moreLaw_any H0 A0 J0 cap0 capJ0 AL1 l1 capL1 x2 blk2 W.heap.size W hH0 hL1 hlc1 hcm1 hl01 hm1 hmb hb2 (Nat.le_refl _)).mono fun e W' ⟨he, hb⟩ => ?_
  subst he
  exact ⟨_, rfl, ⟨_, _, _, [], _, [], hW', trodAll_cons_mk (shut_bool Try.underlying4 _) trodAll_mk0, trodAll_mk3 (Below.trod Try.laidOut (by kernel_rfl) (of_decide_eq_true (by kernel_rfl)) g0 hb (fun x hx => hW'.lt x (by simp [hx]))) (Below.trod Try.laidOut (by kernel_rfl) (of_decide_eq_true (by kernel_rfl)) g1 hb (fun x hx => hW'.lt x (by simp [hx]))) (Below.trod Try.laidOut (by kernel_rfl) (of_decide_eq_true (by kernel_rfl)) g2 hb (fun x hx => hW'.lt x (by simp [hx]))), rfl, hb.frame _, fun h => by cases h⟩⟩

theorem over : Rows.blockMoreRow.holds Try.pinned (OpenSpec.ofChange Rows.blockMoreSpec) :=
  OpenClaim.holds_of_wide 13 Try.f13 rfl rfl rfl rfl rfl rfl rfl ⟨rfl, rfl, rfl, rfl, rfl⟩ rfl rfl rfl rfl rfl (by kernel_rfl) Try.func13 (by kernel_rfl)
    (of_decide_eq_true (by kernel_rfl)) (by unfold Func.isWrapper; first | (rw [if_pos (by decide +kernel)]; kernel_rfl) | (rw [if_neg (by decide +kernel)]; exact ⟨rfl, rfl⟩))
    (fun os started H enc _ => lifted os started H enc)

theorem proved : Rows.BlockMoreSaid :=
  over
#print axioms proved
end Go.Proofs.Ytojgdallodmanaa.blockMore
