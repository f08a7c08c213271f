/-
  No cell of these rows narrows 'for every input' (looked for: loops, veiled, ifaces, maps, wideKeys, modest, calm, conditions, laid).
  DERIVED. THE GIVEN ROWS OF THIS SEAT. 14 by the template 'for every input the law returns true; each argument reads behind the call as it read before'; 0 by the template 'total and deterministic' (their statements: YtblbbhenmhkknaaTotals.lean).
  GIVEN WITH THE SEED: the statements are not yours to turn. If you find one false, say at which input.
  Laid BY PROGRAM, IN A SANDBOX (cutbox-rows.mjs): the forced cells as the released guide's own fill.sh prints them over the translation e5140cd06ceeb674… (all of the seat's roots in one cut). By AI agents, Wed Nov 11 2026. No macro, syntax, notation, axiom, sorry.
-/
import Derived.Test.YtblbbhenmhkknaaChecked
import GoSem.Claim
import GoSem.ClaimJoined
import GoSem.ClaimMapViews
import Derived.JoinedTies
import Derived.KernelRfl
namespace Go.Proofs.Ytblbbhenmhkknaa
/- THE CELL 'sum', in the pinned program and in every row, IS THE sha256 OF THE DUMP (.gsa) THAT YtblbbhenmhkknaaProg.lean LOADS. Nothing in Lean hashes anything: it is a label: what it is worth is what the hold of that sum in a sandbox is worth. -/
noncomputable def Try.pinned : Pinned := { name := "ytblbbhenmhkknaa", sum := "e5140cd06ceeb6740bde2b24ac8ac64ca06d03f4ecd406b814d10b6ad622e11a", checked := Try.checked }
namespace Rows
def none {H : Type} : Left H := { results := [], args := [] }

/-- 'orloplaw11.ClaimOwners': WHATEVER THE INPUT: true; the input reads as it did. -/
def claimOwnersSpec : ChangeSpec := { name := "claimOwners", fn := fun _ => fun
  | [d1, d2, d3] => { results := [.lit (.bool true)], args := [d1, d2, d3] }
  | _ => none }
def claimOwnersRow : OpenClaim := { program := "ytblbbhenmhkknaa", sum := "e5140cd06ceeb6740bde2b24ac8ac64ca06d03f4ecd406b814d10b6ad622e11a", func := "orlop/orloplaw11.ClaimOwners", spec := "claimOwners", unfollowed := true, recurses := true, apart := false }
def ClaimOwnersSaid : Prop := claimOwnersRow.holds Try.pinned (OpenSpec.ofChange claimOwnersSpec)

/-- ITS FALSE NEIGHBOUR: 'it returns false'. Refute it at one input. -/
def claimOwnersWrong : ChangeSpec := { name := "claimOwners", fn := fun _ => fun
  | [d1, d2, d3] => { results := [.lit (.bool false)], args := [d1, d2, d3] }
  | _ => none }
def ClaimOwnersWrongFalsely : Prop := claimOwnersRow.holds Try.pinned (OpenSpec.ofChange claimOwnersWrong)

/-- 'orloplaw11.ClaimPays': WHATEVER THE INPUT: true; the input reads as it did. -/
def claimPaysSpec : ChangeSpec := { name := "claimPays", fn := fun _ => fun
  | [d1, d2, d3] => { results := [.lit (.bool true)], args := [d1, d2, d3] }
  | _ => none }
def claimPaysRow : OpenClaim := { program := "ytblbbhenmhkknaa", sum := "e5140cd06ceeb6740bde2b24ac8ac64ca06d03f4ecd406b814d10b6ad622e11a", func := "orlop/orloplaw11.ClaimPays", spec := "claimPays", unfollowed := true, recurses := true, apart := false }
def ClaimPaysSaid : Prop := claimPaysRow.holds Try.pinned (OpenSpec.ofChange claimPaysSpec)

/-- ITS FALSE NEIGHBOUR: 'it returns false'. Refute it at one input. -/
def claimPaysWrong : ChangeSpec := { name := "claimPays", fn := fun _ => fun
  | [d1, d2, d3] => { results := [.lit (.bool false)], args := [d1, d2, d3] }
  | _ => none }
def ClaimPaysWrongFalsely : Prop := claimPaysRow.holds Try.pinned (OpenSpec.ofChange claimPaysWrong)

/-- 'orloplaw11.ClaimRanges': WHATEVER THE INPUT: true; the input reads as it did. -/
def claimRangesSpec : ChangeSpec := { name := "claimRanges", fn := fun _ => fun
  | [d1, d2] => { results := [.lit (.bool true)], args := [d1, d2] }
  | _ => none }
def claimRangesRow : OpenClaim := { program := "ytblbbhenmhkknaa", sum := "e5140cd06ceeb6740bde2b24ac8ac64ca06d03f4ecd406b814d10b6ad622e11a", func := "orlop/orloplaw11.ClaimRanges", spec := "claimRanges", unfollowed := true, recurses := true, apart := false }
def ClaimRangesSaid : Prop := claimRangesRow.holds Try.pinned (OpenSpec.ofChange claimRangesSpec)

/-- ITS FALSE NEIGHBOUR: 'it returns false'. Refute it at one input. -/
def claimRangesWrong : ChangeSpec := { name := "claimRanges", fn := fun _ => fun
  | [d1, d2] => { results := [.lit (.bool false)], args := [d1, d2] }
  | _ => none }
def ClaimRangesWrongFalsely : Prop := claimRangesRow.holds Try.pinned (OpenSpec.ofChange claimRangesWrong)

/-- 'orloplaw11.ClaimKnown': WHATEVER THE INPUT: true; the input reads as it did. -/
def claimKnownSpec : ChangeSpec := { name := "claimKnown", fn := fun _ => fun
  | [] => { results := [.lit (.bool true)], args := [] }
  | _ => none }
def claimKnownRow : OpenClaim := { program := "ytblbbhenmhkknaa", sum := "e5140cd06ceeb6740bde2b24ac8ac64ca06d03f4ecd406b814d10b6ad622e11a", func := "orlop/orloplaw11.ClaimKnown", spec := "claimKnown", unfollowed := true, recurses := true, apart := false }
def ClaimKnownSaid : Prop := claimKnownRow.holds Try.pinned (OpenSpec.ofChange claimKnownSpec)

/-- ITS FALSE NEIGHBOUR: 'it returns false'. Refute it at one input. -/
def claimKnownWrong : ChangeSpec := { name := "claimKnown", fn := fun _ => fun
  | [] => { results := [.lit (.bool false)], args := [] }
  | _ => none }
def ClaimKnownWrongFalsely : Prop := claimKnownRow.holds Try.pinned (OpenSpec.ofChange claimKnownWrong)

/-- 'orloplaw11.ClaimAny': WHATEVER THE INPUT: true; the input reads as it did. -/
def claimAnySpec : ChangeSpec := { name := "claimAny", fn := fun _ => fun
  | [d1, d2] => { results := [.lit (.bool true)], args := [d1, d2] }
  | _ => none }
def claimAnyRow : OpenClaim := { program := "ytblbbhenmhkknaa", sum := "e5140cd06ceeb6740bde2b24ac8ac64ca06d03f4ecd406b814d10b6ad622e11a", func := "orlop/orloplaw11.ClaimAny", spec := "claimAny", unfollowed := true, recurses := true, apart := false }
def ClaimAnySaid : Prop := claimAnyRow.holds Try.pinned (OpenSpec.ofChange claimAnySpec)

/-- ITS FALSE NEIGHBOUR: 'it returns false'. Refute it at one input. -/
def claimAnyWrong : ChangeSpec := { name := "claimAny", fn := fun _ => fun
  | [d1, d2] => { results := [.lit (.bool false)], args := [d1, d2] }
  | _ => none }
def ClaimAnyWrongFalsely : Prop := claimAnyRow.holds Try.pinned (OpenSpec.ofChange claimAnyWrong)

/-- 'orloplaw11.ClaimDays': WHATEVER THE INPUT: true; the input reads as it did. -/
def claimDaysSpec : ChangeSpec := { name := "claimDays", fn := fun _ => fun
  | [d1, d2, d3] => { results := [.lit (.bool true)], args := [d1, d2, d3] }
  | _ => none }
def claimDaysRow : OpenClaim := { program := "ytblbbhenmhkknaa", sum := "e5140cd06ceeb6740bde2b24ac8ac64ca06d03f4ecd406b814d10b6ad622e11a", func := "orlop/orloplaw11.ClaimDays", spec := "claimDays", unfollowed := true, recurses := true, apart := false }
def ClaimDaysSaid : Prop := claimDaysRow.holds Try.pinned (OpenSpec.ofChange claimDaysSpec)

/-- ITS FALSE NEIGHBOUR: 'it returns false'. Refute it at one input. -/
def claimDaysWrong : ChangeSpec := { name := "claimDays", fn := fun _ => fun
  | [d1, d2, d3] => { results := [.lit (.bool false)], args := [d1, d2, d3] }
  | _ => none }
def ClaimDaysWrongFalsely : Prop := claimDaysRow.holds Try.pinned (OpenSpec.ofChange claimDaysWrong)

/-- 'orloplaw11.ClaimPaid': WHATEVER THE INPUT: true; the input reads as it did. -/
def claimPaidSpec : ChangeSpec := { name := "claimPaid", fn := fun _ => fun
  | [d1, d2] => { results := [.lit (.bool true)], args := [d1, d2] }
  | _ => none }
def claimPaidRow : OpenClaim := { program := "ytblbbhenmhkknaa", sum := "e5140cd06ceeb6740bde2b24ac8ac64ca06d03f4ecd406b814d10b6ad622e11a", func := "orlop/orloplaw11.ClaimPaid", spec := "claimPaid", unfollowed := true, recurses := true, apart := false }
def ClaimPaidSaid : Prop := claimPaidRow.holds Try.pinned (OpenSpec.ofChange claimPaidSpec)

/-- ITS FALSE NEIGHBOUR: 'it returns false'. Refute it at one input. -/
def claimPaidWrong : ChangeSpec := { name := "claimPaid", fn := fun _ => fun
  | [d1, d2] => { results := [.lit (.bool false)], args := [d1, d2] }
  | _ => none }
def ClaimPaidWrongFalsely : Prop := claimPaidRow.holds Try.pinned (OpenSpec.ofChange claimPaidWrong)

/-- 'orloplaw11.ClaimShares': WHATEVER THE INPUT: true; the input reads as it did. -/
def claimSharesSpec : ChangeSpec := { name := "claimShares", fn := fun _ => fun
  | [d1, d2, d3] => { results := [.lit (.bool true)], args := [d1, d2, d3] }
  | _ => none }
def claimSharesRow : OpenClaim := { program := "ytblbbhenmhkknaa", sum := "e5140cd06ceeb6740bde2b24ac8ac64ca06d03f4ecd406b814d10b6ad622e11a", func := "orlop/orloplaw11.ClaimShares", spec := "claimShares", unfollowed := true, recurses := true, apart := false }
def ClaimSharesSaid : Prop := claimSharesRow.holds Try.pinned (OpenSpec.ofChange claimSharesSpec)

/-- ITS FALSE NEIGHBOUR: 'it returns false'. Refute it at one input. -/
def claimSharesWrong : ChangeSpec := { name := "claimShares", fn := fun _ => fun
  | [d1, d2, d3] => { results := [.lit (.bool false)], args := [d1, d2, d3] }
  | _ => none }
def ClaimSharesWrongFalsely : Prop := claimSharesRow.holds Try.pinned (OpenSpec.ofChange claimSharesWrong)

/-- 'orloplaw11.ClaimOrder': WHATEVER THE INPUT: true; the input reads as it did. -/
def claimOrderSpec : ChangeSpec := { name := "claimOrder", fn := fun _ => fun
  | [d1, d2, d3] => { results := [.lit (.bool true)], args := [d1, d2, d3] }
  | _ => none }
def claimOrderRow : OpenClaim := { program := "ytblbbhenmhkknaa", sum := "e5140cd06ceeb6740bde2b24ac8ac64ca06d03f4ecd406b814d10b6ad622e11a", func := "orlop/orloplaw11.ClaimOrder", spec := "claimOrder", unfollowed := true, recurses := true, apart := false }
def ClaimOrderSaid : Prop := claimOrderRow.holds Try.pinned (OpenSpec.ofChange claimOrderSpec)

/-- ITS FALSE NEIGHBOUR: 'it returns false'. Refute it at one input. -/
def claimOrderWrong : ChangeSpec := { name := "claimOrder", fn := fun _ => fun
  | [d1, d2, d3] => { results := [.lit (.bool false)], args := [d1, d2, d3] }
  | _ => none }
def ClaimOrderWrongFalsely : Prop := claimOrderRow.holds Try.pinned (OpenSpec.ofChange claimOrderWrong)

/-- 'orloplaw11.ClaimTrue': WHATEVER THE INPUT: true; the input reads as it did. -/
def claimTrueSpec : ChangeSpec := { name := "claimTrue", fn := fun _ => fun
  | [d1, d2] => { results := [.lit (.bool true)], args := [d1, d2] }
  | _ => none }
def claimTrueRow : OpenClaim := { program := "ytblbbhenmhkknaa", sum := "e5140cd06ceeb6740bde2b24ac8ac64ca06d03f4ecd406b814d10b6ad622e11a", func := "orlop/orloplaw11.ClaimTrue", spec := "claimTrue", unfollowed := true, recurses := true, apart := false }
def ClaimTrueSaid : Prop := claimTrueRow.holds Try.pinned (OpenSpec.ofChange claimTrueSpec)

/-- ITS FALSE NEIGHBOUR: 'it returns false'. Refute it at one input. -/
def claimTrueWrong : ChangeSpec := { name := "claimTrue", fn := fun _ => fun
  | [d1, d2] => { results := [.lit (.bool false)], args := [d1, d2] }
  | _ => none }
def ClaimTrueWrongFalsely : Prop := claimTrueRow.holds Try.pinned (OpenSpec.ofChange claimTrueWrong)

/-- 'orloplaw11.ClaimReached': WHATEVER THE INPUT: true; the input reads as it did. -/
def claimReachedSpec : ChangeSpec := { name := "claimReached", fn := fun _ => fun
  | [d1, d2] => { results := [.lit (.bool true)], args := [d1, d2] }
  | _ => none }
def claimReachedRow : OpenClaim := { program := "ytblbbhenmhkknaa", sum := "e5140cd06ceeb6740bde2b24ac8ac64ca06d03f4ecd406b814d10b6ad622e11a", func := "orlop/orloplaw11.ClaimReached", spec := "claimReached", unfollowed := true, recurses := true, apart := false }
def ClaimReachedSaid : Prop := claimReachedRow.holds Try.pinned (OpenSpec.ofChange claimReachedSpec)

/-- ITS FALSE NEIGHBOUR: 'it returns false'. Refute it at one input. -/
def claimReachedWrong : ChangeSpec := { name := "claimReached", fn := fun _ => fun
  | [d1, d2] => { results := [.lit (.bool false)], args := [d1, d2] }
  | _ => none }
def ClaimReachedWrongFalsely : Prop := claimReachedRow.holds Try.pinned (OpenSpec.ofChange claimReachedWrong)

/-- 'orloplaw11.ClaimLeast': WHATEVER THE INPUT: true; the input reads as it did. -/
def claimLeastSpec : ChangeSpec := { name := "claimLeast", fn := fun _ => fun
  | [d1, d2, d3] => { results := [.lit (.bool true)], args := [d1, d2, d3] }
  | _ => none }
def claimLeastRow : OpenClaim := { program := "ytblbbhenmhkknaa", sum := "e5140cd06ceeb6740bde2b24ac8ac64ca06d03f4ecd406b814d10b6ad622e11a", func := "orlop/orloplaw11.ClaimLeast", spec := "claimLeast", unfollowed := true, recurses := true, apart := false }
def ClaimLeastSaid : Prop := claimLeastRow.holds Try.pinned (OpenSpec.ofChange claimLeastSpec)

/-- ITS FALSE NEIGHBOUR: 'it returns false'. Refute it at one input. -/
def claimLeastWrong : ChangeSpec := { name := "claimLeast", fn := fun _ => fun
  | [d1, d2, d3] => { results := [.lit (.bool false)], args := [d1, d2, d3] }
  | _ => none }
def ClaimLeastWrongFalsely : Prop := claimLeastRow.holds Try.pinned (OpenSpec.ofChange claimLeastWrong)

/-- 'orloplaw11.ClaimCost': WHATEVER THE INPUT: true; the input reads as it did. -/
def claimCostSpec : ChangeSpec := { name := "claimCost", fn := fun _ => fun
  | [d1, d2, d3] => { results := [.lit (.bool true)], args := [d1, d2, d3] }
  | _ => none }
def claimCostRow : OpenClaim := { program := "ytblbbhenmhkknaa", sum := "e5140cd06ceeb6740bde2b24ac8ac64ca06d03f4ecd406b814d10b6ad622e11a", func := "orlop/orloplaw11.ClaimCost", spec := "claimCost", unfollowed := true, recurses := true, apart := false }
def ClaimCostSaid : Prop := claimCostRow.holds Try.pinned (OpenSpec.ofChange claimCostSpec)

/-- ITS FALSE NEIGHBOUR: 'it returns false'. Refute it at one input. -/
def claimCostWrong : ChangeSpec := { name := "claimCost", fn := fun _ => fun
  | [d1, d2, d3] => { results := [.lit (.bool false)], args := [d1, d2, d3] }
  | _ => none }
def ClaimCostWrongFalsely : Prop := claimCostRow.holds Try.pinned (OpenSpec.ofChange claimCostWrong)

/-- 'orloplaw11.ClaimMore': WHATEVER THE INPUT: true; the input reads as it did. -/
def claimMoreSpec : ChangeSpec := { name := "claimMore", fn := fun _ => fun
  | [d1, d2, d3] => { results := [.lit (.bool true)], args := [d1, d2, d3] }
  | _ => none }
def claimMoreRow : OpenClaim := { program := "ytblbbhenmhkknaa", sum := "e5140cd06ceeb6740bde2b24ac8ac64ca06d03f4ecd406b814d10b6ad622e11a", func := "orlop/orloplaw11.ClaimMore", spec := "claimMore", unfollowed := true, recurses := true, apart := false }
def ClaimMoreSaid : Prop := claimMoreRow.holds Try.pinned (OpenSpec.ofChange claimMoreSpec)

/-- ITS FALSE NEIGHBOUR: 'it returns false'. Refute it at one input. -/
def claimMoreWrong : ChangeSpec := { name := "claimMore", fn := fun _ => fun
  | [d1, d2, d3] => { results := [.lit (.bool false)], args := [d1, d2, d3] }
  | _ => none }
def ClaimMoreWrongFalsely : Prop := claimMoreRow.holds Try.pinned (OpenSpec.ofChange claimMoreWrong)

/- THE SECOND FORM. 'bulk': how many values and letters a reading holds, each counted each time it is reached (what is shared counts as often as it is met; a slice's spare places count too). A statement '..UptoSaid' is the law's where the arguments, and the package variables that the reading takes, are together of bulk at most 1048576: NARROWER than '..Said'. Prove '..Said' where nothing that the law and all that it calls make is longer than what came in: it says more and counts as full. Else prove '..UptoSaid'. A law counts once. -/
mutual
def uptoBulk {H : Type} : DataW H → Nat
  | .lit (.string bytes) => bytes.length + 1
  | .lit _ => 1
  | .nil => 1
  | .ptr d => uptoBulk d + 1
  | .slice elems spare => uptoBulkAll elems + uptoBulkAll spare + 1
  | .agg parts => uptoBulkAll parts + 1
  | .iface _ d => uptoBulk d + 1
  | .map entries => uptoBulkEntries entries + 1
  | .held _ => 1
def uptoBulkAll {H : Type} : List (DataW H) → Nat
  | [] => 0
  | d :: r => uptoBulk d + uptoBulkAll r
def uptoBulkEntries {H : Type} : List (Lit × DataW H) → Nat
  | [] => 0
  | x :: r => uptoBulkEntry x + uptoBulkEntries r
def uptoBulkEntry {H : Type} : Lit × DataW H → Nat
  | (.string bytes, d) => bytes.length + uptoBulk d + 1
  | (_, d) => uptoBulk d + 1
 end
def uptoSmall : (H : Type) → List (DataW H) → Bool := fun _ ds => decide (uptoBulkAll ds ≤ 1048576)
def OpenSpec.upto (s : _root_.Go.ChangeSpec) : _root_.Go.OpenSpec := { _root_.Go.OpenSpec.ofChange s with cond := some uptoSmall }

/-- 'orloplaw11.ClaimOwners', WHERE WHAT IT READS IS OF BULK AT MOST 1048576: true; the input reads as it did. -/
def claimOwnersUptoRow : OpenClaim := { program := "ytblbbhenmhkknaa", sum := "e5140cd06ceeb6740bde2b24ac8ac64ca06d03f4ecd406b814d10b6ad622e11a", func := "orlop/orloplaw11.ClaimOwners", spec := "claimOwners", unfollowed := true, recurses := true, apart := false, narrowed := true }
def ClaimOwnersUptoSaid : Prop := claimOwnersUptoRow.holds Try.pinned (OpenSpec.upto claimOwnersSpec)

/-- 'orloplaw11.ClaimPays', WHERE WHAT IT READS IS OF BULK AT MOST 1048576: true; the input reads as it did. -/
def claimPaysUptoRow : OpenClaim := { program := "ytblbbhenmhkknaa", sum := "e5140cd06ceeb6740bde2b24ac8ac64ca06d03f4ecd406b814d10b6ad622e11a", func := "orlop/orloplaw11.ClaimPays", spec := "claimPays", unfollowed := true, recurses := true, apart := false, narrowed := true }
def ClaimPaysUptoSaid : Prop := claimPaysUptoRow.holds Try.pinned (OpenSpec.upto claimPaysSpec)

/-- 'orloplaw11.ClaimRanges', WHERE WHAT IT READS IS OF BULK AT MOST 1048576: true; the input reads as it did. -/
def claimRangesUptoRow : OpenClaim := { program := "ytblbbhenmhkknaa", sum := "e5140cd06ceeb6740bde2b24ac8ac64ca06d03f4ecd406b814d10b6ad622e11a", func := "orlop/orloplaw11.ClaimRanges", spec := "claimRanges", unfollowed := true, recurses := true, apart := false, narrowed := true }
def ClaimRangesUptoSaid : Prop := claimRangesUptoRow.holds Try.pinned (OpenSpec.upto claimRangesSpec)

/-- 'orloplaw11.ClaimKnown', WHERE WHAT IT READS IS OF BULK AT MOST 1048576: true; the input reads as it did. -/
def claimKnownUptoRow : OpenClaim := { program := "ytblbbhenmhkknaa", sum := "e5140cd06ceeb6740bde2b24ac8ac64ca06d03f4ecd406b814d10b6ad622e11a", func := "orlop/orloplaw11.ClaimKnown", spec := "claimKnown", unfollowed := true, recurses := true, apart := false, narrowed := true }
def ClaimKnownUptoSaid : Prop := claimKnownUptoRow.holds Try.pinned (OpenSpec.upto claimKnownSpec)

/-- 'orloplaw11.ClaimAny', WHERE WHAT IT READS IS OF BULK AT MOST 1048576: true; the input reads as it did. -/
def claimAnyUptoRow : OpenClaim := { program := "ytblbbhenmhkknaa", sum := "e5140cd06ceeb6740bde2b24ac8ac64ca06d03f4ecd406b814d10b6ad622e11a", func := "orlop/orloplaw11.ClaimAny", spec := "claimAny", unfollowed := true, recurses := true, apart := false, narrowed := true }
def ClaimAnyUptoSaid : Prop := claimAnyUptoRow.holds Try.pinned (OpenSpec.upto claimAnySpec)

/-- 'orloplaw11.ClaimDays', WHERE WHAT IT READS IS OF BULK AT MOST 1048576: true; the input reads as it did. -/
def claimDaysUptoRow : OpenClaim := { program := "ytblbbhenmhkknaa", sum := "e5140cd06ceeb6740bde2b24ac8ac64ca06d03f4ecd406b814d10b6ad622e11a", func := "orlop/orloplaw11.ClaimDays", spec := "claimDays", unfollowed := true, recurses := true, apart := false, narrowed := true }
def ClaimDaysUptoSaid : Prop := claimDaysUptoRow.holds Try.pinned (OpenSpec.upto claimDaysSpec)

/-- 'orloplaw11.ClaimPaid', WHERE WHAT IT READS IS OF BULK AT MOST 1048576: true; the input reads as it did. -/
def claimPaidUptoRow : OpenClaim := { program := "ytblbbhenmhkknaa", sum := "e5140cd06ceeb6740bde2b24ac8ac64ca06d03f4ecd406b814d10b6ad622e11a", func := "orlop/orloplaw11.ClaimPaid", spec := "claimPaid", unfollowed := true, recurses := true, apart := false, narrowed := true }
def ClaimPaidUptoSaid : Prop := claimPaidUptoRow.holds Try.pinned (OpenSpec.upto claimPaidSpec)

/-- 'orloplaw11.ClaimShares', WHERE WHAT IT READS IS OF BULK AT MOST 1048576: true; the input reads as it did. -/
def claimSharesUptoRow : OpenClaim := { program := "ytblbbhenmhkknaa", sum := "e5140cd06ceeb6740bde2b24ac8ac64ca06d03f4ecd406b814d10b6ad622e11a", func := "orlop/orloplaw11.ClaimShares", spec := "claimShares", unfollowed := true, recurses := true, apart := false, narrowed := true }
def ClaimSharesUptoSaid : Prop := claimSharesUptoRow.holds Try.pinned (OpenSpec.upto claimSharesSpec)

/-- 'orloplaw11.ClaimOrder', WHERE WHAT IT READS IS OF BULK AT MOST 1048576: true; the input reads as it did. -/
def claimOrderUptoRow : OpenClaim := { program := "ytblbbhenmhkknaa", sum := "e5140cd06ceeb6740bde2b24ac8ac64ca06d03f4ecd406b814d10b6ad622e11a", func := "orlop/orloplaw11.ClaimOrder", spec := "claimOrder", unfollowed := true, recurses := true, apart := false, narrowed := true }
def ClaimOrderUptoSaid : Prop := claimOrderUptoRow.holds Try.pinned (OpenSpec.upto claimOrderSpec)

/-- 'orloplaw11.ClaimTrue', WHERE WHAT IT READS IS OF BULK AT MOST 1048576: true; the input reads as it did. -/
def claimTrueUptoRow : OpenClaim := { program := "ytblbbhenmhkknaa", sum := "e5140cd06ceeb6740bde2b24ac8ac64ca06d03f4ecd406b814d10b6ad622e11a", func := "orlop/orloplaw11.ClaimTrue", spec := "claimTrue", unfollowed := true, recurses := true, apart := false, narrowed := true }
def ClaimTrueUptoSaid : Prop := claimTrueUptoRow.holds Try.pinned (OpenSpec.upto claimTrueSpec)

/-- 'orloplaw11.ClaimReached', WHERE WHAT IT READS IS OF BULK AT MOST 1048576: true; the input reads as it did. -/
def claimReachedUptoRow : OpenClaim := { program := "ytblbbhenmhkknaa", sum := "e5140cd06ceeb6740bde2b24ac8ac64ca06d03f4ecd406b814d10b6ad622e11a", func := "orlop/orloplaw11.ClaimReached", spec := "claimReached", unfollowed := true, recurses := true, apart := false, narrowed := true }
def ClaimReachedUptoSaid : Prop := claimReachedUptoRow.holds Try.pinned (OpenSpec.upto claimReachedSpec)

/-- 'orloplaw11.ClaimLeast', WHERE WHAT IT READS IS OF BULK AT MOST 1048576: true; the input reads as it did. -/
def claimLeastUptoRow : OpenClaim := { program := "ytblbbhenmhkknaa", sum := "e5140cd06ceeb6740bde2b24ac8ac64ca06d03f4ecd406b814d10b6ad622e11a", func := "orlop/orloplaw11.ClaimLeast", spec := "claimLeast", unfollowed := true, recurses := true, apart := false, narrowed := true }
def ClaimLeastUptoSaid : Prop := claimLeastUptoRow.holds Try.pinned (OpenSpec.upto claimLeastSpec)

/-- 'orloplaw11.ClaimCost', WHERE WHAT IT READS IS OF BULK AT MOST 1048576: true; the input reads as it did. -/
def claimCostUptoRow : OpenClaim := { program := "ytblbbhenmhkknaa", sum := "e5140cd06ceeb6740bde2b24ac8ac64ca06d03f4ecd406b814d10b6ad622e11a", func := "orlop/orloplaw11.ClaimCost", spec := "claimCost", unfollowed := true, recurses := true, apart := false, narrowed := true }
def ClaimCostUptoSaid : Prop := claimCostUptoRow.holds Try.pinned (OpenSpec.upto claimCostSpec)

/-- 'orloplaw11.ClaimMore', WHERE WHAT IT READS IS OF BULK AT MOST 1048576: true; the input reads as it did. -/
def claimMoreUptoRow : OpenClaim := { program := "ytblbbhenmhkknaa", sum := "e5140cd06ceeb6740bde2b24ac8ac64ca06d03f4ecd406b814d10b6ad622e11a", func := "orlop/orloplaw11.ClaimMore", spec := "claimMore", unfollowed := true, recurses := true, apart := false, narrowed := true }
def ClaimMoreUptoSaid : Prop := claimMoreUptoRow.holds Try.pinned (OpenSpec.upto claimMoreSpec)

end Rows
end Go.Proofs.Ytblbbhenmhkknaa
