/- What some parts weigh together, as a tree of weighings says: the plain law. No program is named here. -/
import Derived.Test.YtojgdallodmanaaZ6c4919
import Derived.Test.YtojgdallodmanaaYB4
namespace Go.Proofs.Ytojgdallodmanaa

/-- A node of the tree: its span, its parts, its own parts, and the numbers of the nodes in it. -/
structure Nd where
  lo : Int
  hi : Int
  set : Nat
  own : Nat
  kids : List Nat
structure Mass where
  alo : Int
  ahi : Int
  slo : Int
  shi : Int
def hasP (s i : Nat) : Bool := s.testBit i
/-- With a part more. -/
def partM (own set i : Nat) (p : Prt) (m : Mass) : Mass :=
  if hasP own i then (if hasP set i then ⟨m.alo + p.lo, m.ahi + p.hi, m.slo + p.lo, m.shi + p.hi⟩ else ⟨m.alo + p.lo, m.ahi + p.hi, m.slo, m.shi⟩) else m
def ownTo (ps : List Prt) (own set : Nat) : Nat → Mass
  | 0 => ⟨0, 0, 0, 0⟩
  | k + 1 => match ps[k]? with
    | some p => partM own set k p (ownTo ps own set k)
    | none => ownTo ps own set k
def addM (m y : Mass) : Mass := ⟨m.alo + y.alo, m.ahi + y.ahi, m.slo + y.slo, m.shi + y.shi⟩
/-- What a node says of the sum of its parts. -/
def capM (lo hi : Int) (m : Mass) : Mass × Bool :=
  (⟨max m.alo lo, min m.ahi hi, min m.shi (m.slo + max m.alo lo - m.alo), min m.shi (m.slo + min m.ahi hi - m.alo)⟩, decide (max m.alo lo ≤ min m.ahi hi))
/-- What the node i can weigh, f steps deep, and whether all spans in it can be. -/
def upF (N : List Nd) (ps : List Prt) (set : Nat) : Nat → Nat → Mass × Bool
  | 0, _ => (⟨0, 0, 0, 0⟩, true)
  | f + 1, i => match N[i]? with
    | none => (⟨0, 0, 0, 0⟩, true)
    | some nd =>
      let r := nd.kids.foldl (fun (acc : Mass × Bool) j => (addM acc.1 (upF N ps set f j).1, acc.2 && (upF N ps set f j).2)) (ownTo ps nd.own set ps.length, true)
      ((capM nd.lo nd.hi r.1).1, r.2 && (capM nd.lo nd.hi r.1).2)
/-- The sum over the first k nodes in a node. -/
def kidsTo (N : List Nd) (ps : List Prt) (set f : Nat) (nd : Nd) (k : Nat) : Mass × Bool :=
  (nd.kids.take k).foldl (fun (acc : Mass × Bool) j => (addM acc.1 (upF N ps set f j).1, acc.2 && (upF N ps set f j).2)) (ownTo ps nd.own set ps.length, true)
section
variable {N : List Nd} {ps : List Prt} {set f : Nat} {nd : Nd}
theorem kidsTo_zero : kidsTo N ps set f nd 0 = (ownTo ps nd.own set ps.length, true) := rfl
theorem kidsTo_succ {k j : Nat} (h : nd.kids[k]? = some j) : kidsTo N ps set f nd (k + 1) = (addM (kidsTo N ps set f nd k).1 (upF N ps set f j).1, (kidsTo N ps set f nd k).2 && (upF N ps set f j).2) := by
  unfold kidsTo
  obtain ⟨hk, rfl⟩ := List.getElem?_eq_some_iff.1 h
  rw [List.take_succ_eq_append_getElem hk, List.foldl_append]; rfl
theorem upF_at {i : Nat} (h : N[i]? = some nd) : upF N ps set (f + 1) i = ((capM nd.lo nd.hi (kidsTo N ps set f nd nd.kids.length).1).1, (kidsTo N ps set f nd nd.kids.length).2 && (capM nd.lo nd.hi (kidsTo N ps set f nd nd.kids.length).1).2) := by
  rw [upF, h]
  unfold kidsTo
  rw [List.take_length]

/-! No number is too great. -/
def MB (b : Int) (m : Mass) : Prop := 0 ≤ m.alo ∧ m.alo ≤ b ∧ 0 ≤ m.ahi ∧ m.ahi ≤ b ∧ -b ≤ m.slo ∧ m.slo ≤ b ∧ -b ≤ m.shi ∧ m.shi ≤ b
def PsOk (ps : List Prt) : Prop := ∀ p ∈ ps, 0 ≤ p.lo ∧ p.lo ≤ p.hi ∧ p.hi ≤ 100000
theorem ownTo_bd (hp : PsOk ps) (own set : Nat) : ∀ k : Nat, MB (100000 * k) (ownTo ps own set k) := by
  intro k
  induction k with
  | zero => simp [ownTo, MB]
  | succ k ih =>
    unfold ownTo
    cases hx : ps[k]? with
    | none =>
      obtain ⟨h1, h2, h3, h4, h5, h6, h7, h8⟩ := ih
      simp only [MB]
      omega
    | some p =>
      obtain ⟨h1, h2, h3, h4, h5, h6, h7, h8⟩ := ih
      have := hp p (List.mem_of_getElem? hx)
      simp only [partM]
      split
      · split
        · simp only [MB]; omega
        · simp only [MB]; omega
      · simp only [MB]; omega
theorem MB.mono {a b : Int} {m : Mass} (h : MB a m) (hab : a ≤ b) : MB b m := by
  obtain ⟨h1, h2, h3, h4, h5, h6, h7, h8⟩ := h
  simp only [MB]
  omega
theorem addM_bd {a b : Int} {m y : Mass} (h : MB a m) (k : MB b y) : MB (a + b) (addM m y) := by
  obtain ⟨h1, h2, h3, h4, h5, h6, h7, h8⟩ := h
  obtain ⟨k1, k2, k3, k4, k5, k6, k7, k8⟩ := k
  simp only [MB, addM]
  omega
def bdF (f : Nat) : Int := 10000000 * 16 ^ f
theorem bdF_succ (f : Nat) : bdF (f + 1) = 16 * bdF f := by unfold bdF; rw [Int.pow_succ]; omega
theorem bdF_pos (f : Nat) : 10000000 ≤ bdF f := by
  induction f with
  | zero => simp [bdF]
  | succ f ih => rw [bdF_succ]; omega
theorem bdF_mono {f g : Nat} (h : f ≤ g) : bdF f ≤ bdF g := by
  induction g with
  | zero => obtain rfl : f = 0 := by omega
            exact Int.le_refl _
  | succ g ih =>
    rcases Nat.lt_or_ge f (g + 1) with hlt | hge
    · have := ih (by omega)
      have := bdF_pos g
      rw [bdF_succ]; omega
    · obtain rfl : f = g + 1 := by omega
      exact Int.le_refl _
theorem bdF_eight : bdF 8 = 42949672960000000 := by simp [bdF]
theorem capM_bd {b lo hi : Int} {m : Mass} (h : MB b m) (h1 : 0 ≤ lo ∧ lo ≤ b) (h2 : 0 ≤ hi ∧ hi ≤ b) : MB (2 * b) (capM lo hi m).1 := by
  obtain ⟨k1, k2, k3, k4, k5, k6, k7, k8⟩ := h
  simp only [MB, capM]
  omega
def NOk (N : List Nd) : Prop := ∀ nd ∈ N, 0 ≤ nd.lo ∧ nd.lo ≤ 1000000 ∧ 0 ≤ nd.hi ∧ nd.hi ≤ 1000000 ∧ nd.own < 256 ∧ nd.kids.length ≤ 7
theorem kidsTo_bd (hp : PsOk ps) (hl : ps.length ≤ 8) (hb : ∀ j, MB (bdF f) (upF N ps set f j).1) : ∀ k : Nat, k ≤ nd.kids.length → MB (800000 + k * bdF f) (kidsTo N ps set f nd k).1 := by
  intro k
  induction k with
  | zero =>
    intro _
    exact (ownTo_bd hp nd.own set ps.length).mono (by omega)
  | succ k ih =>
    intro hk
    rw [kidsTo_succ (List.getElem?_eq_getElem (show k < nd.kids.length by omega))]
    refine (addM_bd (ih (by omega)) (hb _)).mono ?_
    rw [Int.natCast_succ, Int.add_mul]
    omega
theorem upF_bd (hp : PsOk ps) (hl : ps.length ≤ 8) (hN : NOk N) : ∀ (f j : Nat), MB (bdF f) (upF N ps set f j).1 := by
  intro f
  induction f with
  | zero => intro j; have := bdF_pos 0; simp only [upF, MB]; omega
  | succ f ih =>
    intro j
    cases hx : N[j]? with
    | none => rw [upF, hx]; have := bdF_pos (f + 1); simp only [MB]; omega
    | some nd =>
      rw [upF_at hx]
      obtain ⟨h1, h2, h3, h4, h5, h6⟩ := hN nd (List.mem_of_getElem? hx)
      have hk := (kidsTo_bd (nd := nd) hp hl ih nd.kids.length (Nat.le_refl _)).mono (show (800000 : Int) + (nd.kids.length : Int) * bdF f ≤ 800000 + 7 * bdF f by
        have := bdF_pos f
        have := Int.mul_le_mul_of_nonneg_right (show (nd.kids.length : Int) ≤ 7 by omega) (show 0 ≤ bdF f by omega)
        omega)
      have hb := bdF_pos f
      refine (capM_bd hk ⟨h1, by omega⟩ ⟨h3, by omega⟩).mono ?_
      rw [bdF_succ]
      omega
end
end Go.Proofs.Ytojgdallodmanaa
