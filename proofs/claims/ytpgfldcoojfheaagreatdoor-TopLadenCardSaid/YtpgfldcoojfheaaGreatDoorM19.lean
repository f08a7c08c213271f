/- Long regions in their written order, operation by operation, with frames of which only some slots are known. -/
import Derived.Test.YtpgfldcoojfheaaGreatDoorM0
import Derived.Test.YtpgfldcoojfheaaGreatDoorM16
set_option maxRecDepth 1000000
set_option maxHeartbeats 16000000
namespace Go.Proofs.YtpgfldcoojfheaaGreatDoor
open Go Go.RowKit
def WlA (P : Program) (ops : Array Oper) (Q : Exit → Act → World → Prop) (k : Nat) (T : Array Value) (w : World) : Prop:=wpList P ops Q (ops.toList.drop k) ⟨T,[]⟩ w
section
variable {P : Program} {ops : Array Oper} {Q : Exit → Act → World → Prop} {n : Nat} {w : World} {T : Array Value} {l : List (Nat × Value)}
theorem drop_op {k : Nat} {o : Oper} (h : ops[k]? = some o) : ops.toList.drop k = o::ops.toList.drop (k + 1):=by
 have h' : ops.toList[k]? = some o:=by simpa using h
 obtain ⟨hk,e⟩:=List.getElem?_eq_some_iff.1 h';rw [List.drop_eq_getElem_cons hk,e]
theorem glTake (k d : Nat) (v : Value) (H : Has n T l) (h : ∀ T',Has n T' ((d,v)::l) → WlA P ops Q (k + 1) T' w) (hr : Runs ops T (opN ops k):=by exact runs_free (by kernel_rfl))
  (hv : (execOp (Act.eval ⟨T,[]⟩) (opN ops k)).run P w = .ok (.value v) w:=by
   generalize e : opN _ _ = o;conv at e=>lhs; whnf
   subst e;go_simp)
  (hi : ops[k]? = some (opN ops k):=by kernel_rfl) (hd : (opN ops k).dst = some d:=by kernel_rfl) (hnew : (l.all fun p=>p.1 != d) = true:=by rfl) (hdn : d < n:=by decide) : WlA P ops Q k T w:=by
 unfold WlA;rw [drop_op hi];unfold wpList;rw [if_pos (show Region.wanted (opN ops k) (yielded ops T) = true from hr)]
 left;unfold Oper.wp;rw [hv,Oper.upon_value,show (Act.put ⟨T,[]⟩ (opN ops k).dst v) = ⟨T.setIfInBounds d v,[]⟩ by rw [hd]; rfl]
 exact h _ (H.put hdn hnew)
theorem glSkip (k d : Nat) (H : Has n T l) (h : ∀ T',Has n T' ((d,undef)::l) → WlA P ops Q (k + 1) T' w) {g e : Nat} {b : Bool} (hg : (opN ops k).guard = some (g,b)) (hgd : ((ops[g]?).bind fun o=>o.dst) = some e) (hT : T[e]? = some (.bool !b))
  (hi : ops[k]? = some (opN ops k):=by kernel_rfl) (hd : (opN ops k).dst = some d:=by kernel_rfl) (hnew : (l.all fun p=>p.1 != d) = true:=by rfl) (hdn : d < n:=by decide) : WlA P ops Q k T w:=by
 unfold WlA;rw [drop_op hi];unfold wpList;have hw : ¬ Region.wanted (opN ops k) (yielded ops T) = true:=by
  unfold Region.wanted yielded;rw [hg];simp [hgd,hT]
 rw [if_neg hw,show (Act.put ⟨T,[]⟩ (opN ops k).dst undef) = ⟨T.setIfInBounds d undef,[]⟩ by rw [hd]; rfl]
 exact h _ (H.put hdn hnew)
theorem glCall (k d f : Nat) (args : Array Value) {R : Value → World → Prop} (H : Has n T l) (hc : Calls P f args w fun e w'=>∃ v,e = .returned v ∧ R v w') (h : ∀ v w' T',R v w' → Has n T' ((d,v)::l) → WlA P ops Q (k + 1) T' w') (hr : Runs ops T (opN ops k):=by exact runs_free (by kernel_rfl))
  (hv : (execOp (Act.eval ⟨T,[]⟩) (opN ops k)).run P w = .ok (.enter f args) w:=by
   generalize e : opN _ _ = o;conv at e=>lhs; whnf
   subst e;go_simp)
  (hi : ops[k]? = some (opN ops k):=by kernel_rfl) (hd : (opN ops k).dst = some d:=by kernel_rfl) (hnew : (l.all fun p=>p.1 != d) = true:=by rfl) (hdn : d < n:=by decide) : WlA P ops Q k T w:=by
 unfold WlA;rw [drop_op hi];unfold wpList;rw [if_pos (show Region.wanted (opN ops k) (yielded ops T) = true from hr)]
 left;unfold Oper.wp;rw [hv,Oper.upon_enter];refine hc.mono ?_;rintro e w' ⟨v,rfl,hR⟩;show wpList P ops Q _ (Act.put ⟨T,[]⟩ (opN ops k).dst v) w'
 rw [show (Act.put ⟨T,[]⟩ (opN ops k).dst v) = ⟨T.setIfInBounds d v,[]⟩ by rw [hd]; rfl]
 exact h _ _ _ hR (H.put hdn hnew)
theorem glEnd {m : Nat} (h : Q .normal ⟨T,[]⟩ w) (hm : ops.toList.drop m = []:=by kernel_rfl) : WlA P ops Q m T w:=by
 unfold WlA;rw [hm];exact wpList_nil h
theorem gl0 {c : Code} {r : Nat} (h : WlA P ops Q 0 T w) (hc : c = Code.region r ops false:=by kernel_rfl) : c.wp P Q ⟨T,[]⟩ w:=by
 subst hc;exact wp_region_list (by simpa [WlA] using h)
end
end Go.Proofs.YtpgfldcoojfheaaGreatDoor
