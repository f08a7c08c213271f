/-
  No cell of these rows narrows 'for every input' (looked for: loops, veiled, ifaces, maps, wideKeys, modest, calm, conditions, laid).
  DERIVED. THE GIVEN ROWS OF THIS SEAT. 14 by the template 'for every input the law returns true; each argument reads behind the call as it read before'; 0 by the template 'total and deterministic' (their statements: YtojgdallodmanaaTotals.lean).
  GIVEN WITH THE SEED: the statements are not yours to turn. If you find one false, say at which input.
  Laid BY PROGRAM, IN A SANDBOX (cutbox-rows.mjs): the forced cells as the released guide's own fill.sh prints them over the translation c01635126fe9f955… (all of the seat's roots in one cut). By AI agents, Wed Nov 11 2026. No macro, syntax, notation, axiom, sorry.
-/
import Derived.Test.YtojgdallodmanaaChecked
import GoSem.Claim
import GoSem.ClaimJoined
import GoSem.ClaimMapViews
import Derived.JoinedTies
import Derived.KernelRfl
namespace Go.Proofs.Ytojgdallodmanaa
/- THE CELL 'sum', in the pinned program and in every row, IS THE sha256 OF THE DUMP (.gsa) THAT YtojgdallodmanaaProg.lean LOADS. Nothing in Lean hashes anything: it is a label: what it is worth is what the hold of that sum in a sandbox is worth. -/
noncomputable def Try.pinned : Pinned := { name := "ytojgdallodmanaa", sum := "c01635126fe9f955af92a1b51c84ea30e8c685b984a6b8d62d6c414bddcad9ec", checked := Try.checked }
namespace Rows
def none {H : Type} : Left H := { results := [], args := [] }

/-- 'orloplaw07.BlockWeights': WHATEVER THE INPUT: true; the input reads as it did. -/
def blockWeightsSpec : ChangeSpec := { name := "blockWeights", fn := fun _ => fun
  | [d1, d2, d3] => { results := [.lit (.bool true)], args := [d1, d2, d3] }
  | _ => none }
def blockWeightsRow : OpenClaim := { program := "ytojgdallodmanaa", sum := "c01635126fe9f955af92a1b51c84ea30e8c685b984a6b8d62d6c414bddcad9ec", func := "orlop/orloplaw07.BlockWeights", spec := "blockWeights", unfollowed := true, recurses := true, apart := false }
def BlockWeightsSaid : Prop := blockWeightsRow.holds Try.pinned (OpenSpec.ofChange blockWeightsSpec)

/-- ITS FALSE NEIGHBOUR: 'it returns false'. Refute it at one input. -/
def blockWeightsWrong : ChangeSpec := { name := "blockWeights", fn := fun _ => fun
  | [d1, d2, d3] => { results := [.lit (.bool false)], args := [d1, d2, d3] }
  | _ => none }
def BlockWeightsWrongFalsely : Prop := blockWeightsRow.holds Try.pinned (OpenSpec.ofChange blockWeightsWrong)

/-- 'orloplaw07.BlockHeavy': WHATEVER THE INPUT: true; the input reads as it did. -/
def blockHeavySpec : ChangeSpec := { name := "blockHeavy", fn := fun _ => fun
  | [d1, d2, d3] => { results := [.lit (.bool true)], args := [d1, d2, d3] }
  | _ => none }
def blockHeavyRow : OpenClaim := { program := "ytojgdallodmanaa", sum := "c01635126fe9f955af92a1b51c84ea30e8c685b984a6b8d62d6c414bddcad9ec", func := "orlop/orloplaw07.BlockHeavy", spec := "blockHeavy", unfollowed := true, recurses := true, apart := false }
def BlockHeavySaid : Prop := blockHeavyRow.holds Try.pinned (OpenSpec.ofChange blockHeavySpec)

/-- ITS FALSE NEIGHBOUR: 'it returns false'. Refute it at one input. -/
def blockHeavyWrong : ChangeSpec := { name := "blockHeavy", fn := fun _ => fun
  | [d1, d2, d3] => { results := [.lit (.bool false)], args := [d1, d2, d3] }
  | _ => none }
def BlockHeavyWrongFalsely : Prop := blockHeavyRow.holds Try.pinned (OpenSpec.ofChange blockHeavyWrong)

/-- 'orloplaw07.BlockCuts': WHATEVER THE INPUT: true; the input reads as it did. -/
def blockCutsSpec : ChangeSpec := { name := "blockCuts", fn := fun _ => fun
  | [d1, d2, d3] => { results := [.lit (.bool true)], args := [d1, d2, d3] }
  | _ => none }
def blockCutsRow : OpenClaim := { program := "ytojgdallodmanaa", sum := "c01635126fe9f955af92a1b51c84ea30e8c685b984a6b8d62d6c414bddcad9ec", func := "orlop/orloplaw07.BlockCuts", spec := "blockCuts", unfollowed := true, recurses := true, apart := false }
def BlockCutsSaid : Prop := blockCutsRow.holds Try.pinned (OpenSpec.ofChange blockCutsSpec)

/-- ITS FALSE NEIGHBOUR: 'it returns false'. Refute it at one input. -/
def blockCutsWrong : ChangeSpec := { name := "blockCuts", fn := fun _ => fun
  | [d1, d2, d3] => { results := [.lit (.bool false)], args := [d1, d2, d3] }
  | _ => none }
def BlockCutsWrongFalsely : Prop := blockCutsRow.holds Try.pinned (OpenSpec.ofChange blockCutsWrong)

/-- 'orloplaw07.BlockLimits': WHATEVER THE INPUT: true; the input reads as it did. -/
def blockLimitsSpec : ChangeSpec := { name := "blockLimits", fn := fun _ => fun
  | [d1, d2, d3] => { results := [.lit (.bool true)], args := [d1, d2, d3] }
  | _ => none }
def blockLimitsRow : OpenClaim := { program := "ytojgdallodmanaa", sum := "c01635126fe9f955af92a1b51c84ea30e8c685b984a6b8d62d6c414bddcad9ec", func := "orlop/orloplaw07.BlockLimits", spec := "blockLimits", unfollowed := true, recurses := true, apart := false }
def BlockLimitsSaid : Prop := blockLimitsRow.holds Try.pinned (OpenSpec.ofChange blockLimitsSpec)

/-- ITS FALSE NEIGHBOUR: 'it returns false'. Refute it at one input. -/
def blockLimitsWrong : ChangeSpec := { name := "blockLimits", fn := fun _ => fun
  | [d1, d2, d3] => { results := [.lit (.bool false)], args := [d1, d2, d3] }
  | _ => none }
def BlockLimitsWrongFalsely : Prop := blockLimitsRow.holds Try.pinned (OpenSpec.ofChange blockLimitsWrong)

/-- 'orloplaw07.BlockKnown': WHATEVER THE INPUT: true; the input reads as it did. -/
def blockKnownSpec : ChangeSpec := { name := "blockKnown", fn := fun _ => fun
  | [] => { results := [.lit (.bool true)], args := [] }
  | _ => none }
def blockKnownRow : OpenClaim := { program := "ytojgdallodmanaa", sum := "c01635126fe9f955af92a1b51c84ea30e8c685b984a6b8d62d6c414bddcad9ec", func := "orlop/orloplaw07.BlockKnown", spec := "blockKnown", unfollowed := true, recurses := true, apart := false }
def BlockKnownSaid : Prop := blockKnownRow.holds Try.pinned (OpenSpec.ofChange blockKnownSpec)

/-- ITS FALSE NEIGHBOUR: 'it returns false'. Refute it at one input. -/
def blockKnownWrong : ChangeSpec := { name := "blockKnown", fn := fun _ => fun
  | [] => { results := [.lit (.bool false)], args := [] }
  | _ => none }
def BlockKnownWrongFalsely : Prop := blockKnownRow.holds Try.pinned (OpenSpec.ofChange blockKnownWrong)

/-- 'orloplaw07.BlockTrue': WHATEVER THE INPUT: true; the input reads as it did. -/
def blockTrueSpec : ChangeSpec := { name := "blockTrue", fn := fun _ => fun
  | [d1, d2, d3] => { results := [.lit (.bool true)], args := [d1, d2, d3] }
  | _ => none }
def blockTrueRow : OpenClaim := { program := "ytojgdallodmanaa", sum := "c01635126fe9f955af92a1b51c84ea30e8c685b984a6b8d62d6c414bddcad9ec", func := "orlop/orloplaw07.BlockTrue", spec := "blockTrue", unfollowed := true, recurses := true, apart := false }
def BlockTrueSaid : Prop := blockTrueRow.holds Try.pinned (OpenSpec.ofChange blockTrueSpec)

/-- ITS FALSE NEIGHBOUR: 'it returns false'. Refute it at one input. -/
def blockTrueWrong : ChangeSpec := { name := "blockTrue", fn := fun _ => fun
  | [d1, d2, d3] => { results := [.lit (.bool false)], args := [d1, d2, d3] }
  | _ => none }
def BlockTrueWrongFalsely : Prop := blockTrueRow.holds Try.pinned (OpenSpec.ofChange blockTrueWrong)

/-- 'orloplaw07.BlockReached': WHATEVER THE INPUT: true; the input reads as it did. -/
def blockReachedSpec : ChangeSpec := { name := "blockReached", fn := fun _ => fun
  | [d1, d2, d3] => { results := [.lit (.bool true)], args := [d1, d2, d3] }
  | _ => none }
def blockReachedRow : OpenClaim := { program := "ytojgdallodmanaa", sum := "c01635126fe9f955af92a1b51c84ea30e8c685b984a6b8d62d6c414bddcad9ec", func := "orlop/orloplaw07.BlockReached", spec := "blockReached", unfollowed := true, recurses := true, apart := false }
def BlockReachedSaid : Prop := blockReachedRow.holds Try.pinned (OpenSpec.ofChange blockReachedSpec)

/-- ITS FALSE NEIGHBOUR: 'it returns false'. Refute it at one input. -/
def blockReachedWrong : ChangeSpec := { name := "blockReached", fn := fun _ => fun
  | [d1, d2, d3] => { results := [.lit (.bool false)], args := [d1, d2, d3] }
  | _ => none }
def BlockReachedWrongFalsely : Prop := blockReachedRow.holds Try.pinned (OpenSpec.ofChange blockReachedWrong)

/-- 'orloplaw07.BlockHeaviest': WHATEVER THE INPUT: true; the input reads as it did. -/
def blockHeaviestSpec : ChangeSpec := { name := "blockHeaviest", fn := fun _ => fun
  | [d1, d2, d3] => { results := [.lit (.bool true)], args := [d1, d2, d3] }
  | _ => none }
def blockHeaviestRow : OpenClaim := { program := "ytojgdallodmanaa", sum := "c01635126fe9f955af92a1b51c84ea30e8c685b984a6b8d62d6c414bddcad9ec", func := "orlop/orloplaw07.BlockHeaviest", spec := "blockHeaviest", unfollowed := true, recurses := true, apart := false }
def BlockHeaviestSaid : Prop := blockHeaviestRow.holds Try.pinned (OpenSpec.ofChange blockHeaviestSpec)

/-- ITS FALSE NEIGHBOUR: 'it returns false'. Refute it at one input. -/
def blockHeaviestWrong : ChangeSpec := { name := "blockHeaviest", fn := fun _ => fun
  | [d1, d2, d3] => { results := [.lit (.bool false)], args := [d1, d2, d3] }
  | _ => none }
def BlockHeaviestWrongFalsely : Prop := blockHeaviestRow.holds Try.pinned (OpenSpec.ofChange blockHeaviestWrong)

/-- 'orloplaw07.BlockLight': WHATEVER THE INPUT: true; the input reads as it did. -/
def blockLightSpec : ChangeSpec := { name := "blockLight", fn := fun _ => fun
  | [d1, d2, d3] => { results := [.lit (.bool true)], args := [d1, d2, d3] }
  | _ => none }
def blockLightRow : OpenClaim := { program := "ytojgdallodmanaa", sum := "c01635126fe9f955af92a1b51c84ea30e8c685b984a6b8d62d6c414bddcad9ec", func := "orlop/orloplaw07.BlockLight", spec := "blockLight", unfollowed := true, recurses := true, apart := false }
def BlockLightSaid : Prop := blockLightRow.holds Try.pinned (OpenSpec.ofChange blockLightSpec)

/-- ITS FALSE NEIGHBOUR: 'it returns false'. Refute it at one input. -/
def blockLightWrong : ChangeSpec := { name := "blockLight", fn := fun _ => fun
  | [d1, d2, d3] => { results := [.lit (.bool false)], args := [d1, d2, d3] }
  | _ => none }
def BlockLightWrongFalsely : Prop := blockLightRow.holds Try.pinned (OpenSpec.ofChange blockLightWrong)

/-- 'orloplaw07.BlockFewest': WHATEVER THE INPUT: true; the input reads as it did. -/
def blockFewestSpec : ChangeSpec := { name := "blockFewest", fn := fun _ => fun
  | [d1, d2, d3] => { results := [.lit (.bool true)], args := [d1, d2, d3] }
  | _ => none }
def blockFewestRow : OpenClaim := { program := "ytojgdallodmanaa", sum := "c01635126fe9f955af92a1b51c84ea30e8c685b984a6b8d62d6c414bddcad9ec", func := "orlop/orloplaw07.BlockFewest", spec := "blockFewest", unfollowed := true, recurses := true, apart := false }
def BlockFewestSaid : Prop := blockFewestRow.holds Try.pinned (OpenSpec.ofChange blockFewestSpec)

/-- ITS FALSE NEIGHBOUR: 'it returns false'. Refute it at one input. -/
def blockFewestWrong : ChangeSpec := { name := "blockFewest", fn := fun _ => fun
  | [d1, d2, d3] => { results := [.lit (.bool false)], args := [d1, d2, d3] }
  | _ => none }
def BlockFewestWrongFalsely : Prop := blockFewestRow.holds Try.pinned (OpenSpec.ofChange blockFewestWrong)

/-- 'orloplaw07.BlockMore': WHATEVER THE INPUT: true; the input reads as it did. -/
def blockMoreSpec : ChangeSpec := { name := "blockMore", fn := fun _ => fun
  | [d1, d2, d3] => { results := [.lit (.bool true)], args := [d1, d2, d3] }
  | _ => none }
def blockMoreRow : OpenClaim := { program := "ytojgdallodmanaa", sum := "c01635126fe9f955af92a1b51c84ea30e8c685b984a6b8d62d6c414bddcad9ec", func := "orlop/orloplaw07.BlockMore", spec := "blockMore", unfollowed := true, recurses := true, apart := false }
def BlockMoreSaid : Prop := blockMoreRow.holds Try.pinned (OpenSpec.ofChange blockMoreSpec)

/-- ITS FALSE NEIGHBOUR: 'it returns false'. Refute it at one input. -/
def blockMoreWrong : ChangeSpec := { name := "blockMore", fn := fun _ => fun
  | [d1, d2, d3] => { results := [.lit (.bool false)], args := [d1, d2, d3] }
  | _ => none }
def BlockMoreWrongFalsely : Prop := blockMoreRow.holds Try.pinned (OpenSpec.ofChange blockMoreWrong)

/-- 'orloplaw07.BlockEasier': WHATEVER THE INPUT: true; the input reads as it did. -/
def blockEasierSpec : ChangeSpec := { name := "blockEasier", fn := fun _ => fun
  | [d1, d2, d3] => { results := [.lit (.bool true)], args := [d1, d2, d3] }
  | _ => none }
def blockEasierRow : OpenClaim := { program := "ytojgdallodmanaa", sum := "c01635126fe9f955af92a1b51c84ea30e8c685b984a6b8d62d6c414bddcad9ec", func := "orlop/orloplaw07.BlockEasier", spec := "blockEasier", unfollowed := true, recurses := true, apart := false }
def BlockEasierSaid : Prop := blockEasierRow.holds Try.pinned (OpenSpec.ofChange blockEasierSpec)

/-- ITS FALSE NEIGHBOUR: 'it returns false'. Refute it at one input. -/
def blockEasierWrong : ChangeSpec := { name := "blockEasier", fn := fun _ => fun
  | [d1, d2, d3] => { results := [.lit (.bool false)], args := [d1, d2, d3] }
  | _ => none }
def BlockEasierWrongFalsely : Prop := blockEasierRow.holds Try.pinned (OpenSpec.ofChange blockEasierWrong)

/-- 'orloplaw07.BlockJust': WHATEVER THE INPUT: true; the input reads as it did. -/
def blockJustSpec : ChangeSpec := { name := "blockJust", fn := fun _ => fun
  | [d1, d2, d3] => { results := [.lit (.bool true)], args := [d1, d2, d3] }
  | _ => none }
def blockJustRow : OpenClaim := { program := "ytojgdallodmanaa", sum := "c01635126fe9f955af92a1b51c84ea30e8c685b984a6b8d62d6c414bddcad9ec", func := "orlop/orloplaw07.BlockJust", spec := "blockJust", unfollowed := true, recurses := true, apart := false }
def BlockJustSaid : Prop := blockJustRow.holds Try.pinned (OpenSpec.ofChange blockJustSpec)

/-- ITS FALSE NEIGHBOUR: 'it returns false'. Refute it at one input. -/
def blockJustWrong : ChangeSpec := { name := "blockJust", fn := fun _ => fun
  | [d1, d2, d3] => { results := [.lit (.bool false)], args := [d1, d2, d3] }
  | _ => none }
def BlockJustWrongFalsely : Prop := blockJustRow.holds Try.pinned (OpenSpec.ofChange blockJustWrong)

/-- 'orloplaw07.BlockOrder': WHATEVER THE INPUT: true; the input reads as it did. -/
def blockOrderSpec : ChangeSpec := { name := "blockOrder", fn := fun _ => fun
  | [d1, d2, d3] => { results := [.lit (.bool true)], args := [d1, d2, d3] }
  | _ => none }
def blockOrderRow : OpenClaim := { program := "ytojgdallodmanaa", sum := "c01635126fe9f955af92a1b51c84ea30e8c685b984a6b8d62d6c414bddcad9ec", func := "orlop/orloplaw07.BlockOrder", spec := "blockOrder", unfollowed := true, recurses := true, apart := false }
def BlockOrderSaid : Prop := blockOrderRow.holds Try.pinned (OpenSpec.ofChange blockOrderSpec)

/-- ITS FALSE NEIGHBOUR: 'it returns false'. Refute it at one input. -/
def blockOrderWrong : ChangeSpec := { name := "blockOrder", fn := fun _ => fun
  | [d1, d2, d3] => { results := [.lit (.bool false)], args := [d1, d2, d3] }
  | _ => none }
def BlockOrderWrongFalsely : Prop := blockOrderRow.holds Try.pinned (OpenSpec.ofChange blockOrderWrong)

/- THE SECOND FORM. 'bulk': how many values and letters a reading holds, each counted each time it is reached (what is shared counts as often as it is met; a slice's spare places count too). A statement '..UptoSaid' is the law's where the arguments, and the package variables that the reading takes, are together of bulk at most 1048576: NARROWER than '..Said'. Prove '..Said' where nothing that the law and all that it calls make is longer than what came in: it says more and counts as full. Else prove '..UptoSaid'. A law counts once. -/
mutual
def uptoBulk {H : Type} : DataW H → Nat
  | .lit (.string bytes) => bytes.length + 1
  | .lit _ => 1
  | .nil => 1
  | .ptr d => uptoBulk d + 1
  | .slice elems spare => uptoBulkAll elems + uptoBulkAll spare + 1
  | .agg parts => uptoBulkAll parts + 1
  | .iface _ d => uptoBulk d + 1
  | .map entries => uptoBulkEntries entries + 1
  | .held _ => 1
def uptoBulkAll {H : Type} : List (DataW H) → Nat
  | [] => 0
  | d :: r => uptoBulk d + uptoBulkAll r
def uptoBulkEntries {H : Type} : List (Lit × DataW H) → Nat
  | [] => 0
  | x :: r => uptoBulkEntry x + uptoBulkEntries r
def uptoBulkEntry {H : Type} : Lit × DataW H → Nat
  | (.string bytes, d) => bytes.length + uptoBulk d + 1
  | (_, d) => uptoBulk d + 1
 end
def uptoSmall : (H : Type) → List (DataW H) → Bool := fun _ ds => decide (uptoBulkAll ds ≤ 1048576)
def OpenSpec.upto (s : _root_.Go.ChangeSpec) : _root_.Go.OpenSpec := { _root_.Go.OpenSpec.ofChange s with cond := some uptoSmall }

/-- 'orloplaw07.BlockWeights', WHERE WHAT IT READS IS OF BULK AT MOST 1048576: true; the input reads as it did. -/
def blockWeightsUptoRow : OpenClaim := { program := "ytojgdallodmanaa", sum := "c01635126fe9f955af92a1b51c84ea30e8c685b984a6b8d62d6c414bddcad9ec", func := "orlop/orloplaw07.BlockWeights", spec := "blockWeights", unfollowed := true, recurses := true, apart := false, narrowed := true }
def BlockWeightsUptoSaid : Prop := blockWeightsUptoRow.holds Try.pinned (OpenSpec.upto blockWeightsSpec)

/-- 'orloplaw07.BlockHeavy', WHERE WHAT IT READS IS OF BULK AT MOST 1048576: true; the input reads as it did. -/
def blockHeavyUptoRow : OpenClaim := { program := "ytojgdallodmanaa", sum := "c01635126fe9f955af92a1b51c84ea30e8c685b984a6b8d62d6c414bddcad9ec", func := "orlop/orloplaw07.BlockHeavy", spec := "blockHeavy", unfollowed := true, recurses := true, apart := false, narrowed := true }
def BlockHeavyUptoSaid : Prop := blockHeavyUptoRow.holds Try.pinned (OpenSpec.upto blockHeavySpec)

/-- 'orloplaw07.BlockCuts', WHERE WHAT IT READS IS OF BULK AT MOST 1048576: true; the input reads as it did. -/
def blockCutsUptoRow : OpenClaim := { program := "ytojgdallodmanaa", sum := "c01635126fe9f955af92a1b51c84ea30e8c685b984a6b8d62d6c414bddcad9ec", func := "orlop/orloplaw07.BlockCuts", spec := "blockCuts", unfollowed := true, recurses := true, apart := false, narrowed := true }
def BlockCutsUptoSaid : Prop := blockCutsUptoRow.holds Try.pinned (OpenSpec.upto blockCutsSpec)

/-- 'orloplaw07.BlockLimits', WHERE WHAT IT READS IS OF BULK AT MOST 1048576: true; the input reads as it did. -/
def blockLimitsUptoRow : OpenClaim := { program := "ytojgdallodmanaa", sum := "c01635126fe9f955af92a1b51c84ea30e8c685b984a6b8d62d6c414bddcad9ec", func := "orlop/orloplaw07.BlockLimits", spec := "blockLimits", unfollowed := true, recurses := true, apart := false, narrowed := true }
def BlockLimitsUptoSaid : Prop := blockLimitsUptoRow.holds Try.pinned (OpenSpec.upto blockLimitsSpec)

/-- 'orloplaw07.BlockKnown', WHERE WHAT IT READS IS OF BULK AT MOST 1048576: true; the input reads as it did. -/
def blockKnownUptoRow : OpenClaim := { program := "ytojgdallodmanaa", sum := "c01635126fe9f955af92a1b51c84ea30e8c685b984a6b8d62d6c414bddcad9ec", func := "orlop/orloplaw07.BlockKnown", spec := "blockKnown", unfollowed := true, recurses := true, apart := false, narrowed := true }
def BlockKnownUptoSaid : Prop := blockKnownUptoRow.holds Try.pinned (OpenSpec.upto blockKnownSpec)

/-- 'orloplaw07.BlockTrue', WHERE WHAT IT READS IS OF BULK AT MOST 1048576: true; the input reads as it did. -/
def blockTrueUptoRow : OpenClaim := { program := "ytojgdallodmanaa", sum := "c01635126fe9f955af92a1b51c84ea30e8c685b984a6b8d62d6c414bddcad9ec", func := "orlop/orloplaw07.BlockTrue", spec := "blockTrue", unfollowed := true, recurses := true, apart := false, narrowed := true }
def BlockTrueUptoSaid : Prop := blockTrueUptoRow.holds Try.pinned (OpenSpec.upto blockTrueSpec)

/-- 'orloplaw07.BlockReached', WHERE WHAT IT READS IS OF BULK AT MOST 1048576: true; the input reads as it did. -/
def blockReachedUptoRow : OpenClaim := { program := "ytojgdallodmanaa", sum := "c01635126fe9f955af92a1b51c84ea30e8c685b984a6b8d62d6c414bddcad9ec", func := "orlop/orloplaw07.BlockReached", spec := "blockReached", unfollowed := true, recurses := true, apart := false, narrowed := true }
def BlockReachedUptoSaid : Prop := blockReachedUptoRow.holds Try.pinned (OpenSpec.upto blockReachedSpec)

/-- 'orloplaw07.BlockHeaviest', WHERE WHAT IT READS IS OF BULK AT MOST 1048576: true; the input reads as it did. -/
def blockHeaviestUptoRow : OpenClaim := { program := "ytojgdallodmanaa", sum := "c01635126fe9f955af92a1b51c84ea30e8c685b984a6b8d62d6c414bddcad9ec", func := "orlop/orloplaw07.BlockHeaviest", spec := "blockHeaviest", unfollowed := true, recurses := true, apart := false, narrowed := true }
def BlockHeaviestUptoSaid : Prop := blockHeaviestUptoRow.holds Try.pinned (OpenSpec.upto blockHeaviestSpec)

/-- 'orloplaw07.BlockLight', WHERE WHAT IT READS IS OF BULK AT MOST 1048576: true; the input reads as it did. -/
def blockLightUptoRow : OpenClaim := { program := "ytojgdallodmanaa", sum := "c01635126fe9f955af92a1b51c84ea30e8c685b984a6b8d62d6c414bddcad9ec", func := "orlop/orloplaw07.BlockLight", spec := "blockLight", unfollowed := true, recurses := true, apart := false, narrowed := true }
def BlockLightUptoSaid : Prop := blockLightUptoRow.holds Try.pinned (OpenSpec.upto blockLightSpec)

/-- 'orloplaw07.BlockFewest', WHERE WHAT IT READS IS OF BULK AT MOST 1048576: true; the input reads as it did. -/
def blockFewestUptoRow : OpenClaim := { program := "ytojgdallodmanaa", sum := "c01635126fe9f955af92a1b51c84ea30e8c685b984a6b8d62d6c414bddcad9ec", func := "orlop/orloplaw07.BlockFewest", spec := "blockFewest", unfollowed := true, recurses := true, apart := false, narrowed := true }
def BlockFewestUptoSaid : Prop := blockFewestUptoRow.holds Try.pinned (OpenSpec.upto blockFewestSpec)

/-- 'orloplaw07.BlockMore', WHERE WHAT IT READS IS OF BULK AT MOST 1048576: true; the input reads as it did. -/
def blockMoreUptoRow : OpenClaim := { program := "ytojgdallodmanaa", sum := "c01635126fe9f955af92a1b51c84ea30e8c685b984a6b8d62d6c414bddcad9ec", func := "orlop/orloplaw07.BlockMore", spec := "blockMore", unfollowed := true, recurses := true, apart := false, narrowed := true }
def BlockMoreUptoSaid : Prop := blockMoreUptoRow.holds Try.pinned (OpenSpec.upto blockMoreSpec)

/-- 'orloplaw07.BlockEasier', WHERE WHAT IT READS IS OF BULK AT MOST 1048576: true; the input reads as it did. -/
def blockEasierUptoRow : OpenClaim := { program := "ytojgdallodmanaa", sum := "c01635126fe9f955af92a1b51c84ea30e8c685b984a6b8d62d6c414bddcad9ec", func := "orlop/orloplaw07.BlockEasier", spec := "blockEasier", unfollowed := true, recurses := true, apart := false, narrowed := true }
def BlockEasierUptoSaid : Prop := blockEasierUptoRow.holds Try.pinned (OpenSpec.upto blockEasierSpec)

/-- 'orloplaw07.BlockJust', WHERE WHAT IT READS IS OF BULK AT MOST 1048576: true; the input reads as it did. -/
def blockJustUptoRow : OpenClaim := { program := "ytojgdallodmanaa", sum := "c01635126fe9f955af92a1b51c84ea30e8c685b984a6b8d62d6c414bddcad9ec", func := "orlop/orloplaw07.BlockJust", spec := "blockJust", unfollowed := true, recurses := true, apart := false, narrowed := true }
def BlockJustUptoSaid : Prop := blockJustUptoRow.holds Try.pinned (OpenSpec.upto blockJustSpec)

/-- 'orloplaw07.BlockOrder', WHERE WHAT IT READS IS OF BULK AT MOST 1048576: true; the input reads as it did. -/
def blockOrderUptoRow : OpenClaim := { program := "ytojgdallodmanaa", sum := "c01635126fe9f955af92a1b51c84ea30e8c685b984a6b8d62d6c414bddcad9ec", func := "orlop/orloplaw07.BlockOrder", spec := "blockOrder", unfollowed := true, recurses := true, apart := false, narrowed := true }
def BlockOrderUptoSaid : Prop := blockOrderUptoRow.holds Try.pinned (OpenSpec.upto blockOrderSpec)

end Rows
end Go.Proofs.Ytojgdallodmanaa
