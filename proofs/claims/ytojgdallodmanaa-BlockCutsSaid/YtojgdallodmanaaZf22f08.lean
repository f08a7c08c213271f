/- A region of a function's text, by its number: for proofs that take one region apart from its function. The operations of a region, by their numbers. -/
import Derived.WalkKit
namespace Go.Proofs.Ytojgdallodmanaa

def regionNo (n : Nat) : Code → Option Code
  | .region id ops d => if id = n then some (.region id ops d) else none
  | .seq a b => match regionNo n a with
    | some c => some c
    | none => regionNo n b
  | .cond _ a b => match regionNo n a with
    | some c => some c
    | none => regionNo n b
  | .block _ c => regionNo n c
  | .loop c => regionNo n c
  | .scope c => regionNo n c
  | _ => none
noncomputable def regionOf (f : Func) (n : Nat) : Code := (f.body.bind (regionNo n)).getD .skip
end Go.Proofs.Ytojgdallodmanaa

namespace Go.Proofs.Ytojgdallodmanaa

noncomputable def opsOf : Code → Array Oper
  | .region _ ops _ => ops
  | _ => #[]
noncomputable def opN (ops : Array Oper) (i : Nat) : Oper := (ops[i]?).getD default
end Go.Proofs.Ytojgdallodmanaa
