/- Sets of parts as numbers: what the operations on bits compute; when parts hang together. No program is named here. -/
import Derived.Laws.BitsLemmas
import Derived.Laws.BitsAllLaws
namespace Go.Proofs.Ytojgdallodmanaa

theorem wrap62 (n : Int) (h0 : 0 ≤ n) (h1 : n < 2 ^ 62) : IntKind.i64.wrap n = n := by rw [IntKind.wrap_i64]; omega
theorem and64 {a b : Nat} (ha : a < 2 ^ 62) (hb : b < 2 ^ 62) : bits .and .i64 (a : Int) (b : Int) = ((a &&& b : Nat) : Int) := (bits_nat .i64 62 (by decide) wrap62 a b ha hb).1
theorem or64 {a b : Nat} (ha : a < 2 ^ 62) (hb : b < 2 ^ 62) : bits .or .i64 (a : Int) (b : Int) = ((a ||| b : Nat) : Int) := (bits_nat .i64 62 (by decide) wrap62 a b ha hb).2
theorem low64 : ∀ s : Nat, s < 256 → bits .and .i64 (s : Int) (-(s : Int)) = ((s &&& (256 - s) : Nat) : Int) := by decide +kernel
theorem shl1 : ∀ a : Nat, a < 9 → IntKind.i64.wrap (2 ^ a) = ((2 ^ a : Nat) : Int) := by decide +kernel
theorem andNot64 {a b : Nat} (ha : a < 256) (hb : b < 256) : bits .andNot .i64 (a : Int) (b : Int) = ((a &&& (255 - b) : Nat) : Int) := by
  have h1 : ∀ b : Nat, b < 256 → (~~~BitVec.ofInt 64 (b : Int)) = BitVec.ofInt 64 ((18446744073709551615 - b : Nat) : Int) := by decide +kernel
  have hx : a &&& (18446744073709551615 - b) < 2 ^ 62 := Nat.lt_of_le_of_lt Nat.and_le_left (by omega)
  have hy : a &&& (18446744073709551615 - b) = a &&& (255 - b) := by
    apply Nat.eq_of_testBit_eq
    intro i
    rw [Nat.testBit_and, Nat.testBit_and]
    rcases Nat.lt_or_ge i 8 with hi | hi
    · congr 1
      have e1 : 18446744073709551615 - b = 2 ^ 64 - (b + 1) := by omega
      have e2 : 255 - b = 2 ^ 8 - (b + 1) := by omega
      rw [e1, e2, Nat.testBit_two_pow_sub_succ (by omega), Nat.testBit_two_pow_sub_succ (by omega)]
      simp [hi, show i < 64 by omega]
    · have : a.testBit i = false := Nat.testBit_lt_two_pow (Nat.lt_of_lt_of_le ha (by
        have := Nat.pow_le_pow_right (show 0 < 2 by decide) hi
        exact this))
      rw [this]; simp
  show IntKind.i64.wrap ((BitVec.ofInt 64 (a : Int) &&& ~~~BitVec.ofInt 64 (b : Int)).toNat : Int) = _
  rw [h1 b hb, BitVec.toNat_and, ofInt_u64 a (by omega), ofInt_u64 _ (by omega), wrap62 _ (by omega) (by omega), hy]

theorem bit64 {s : Nat} (hs : s < 2 ^ 62) (k : Nat) : bits .and .i64 ((s : Int) / 2 ^ k) 1 = if s.testBit k then 1 else 0 := by
  have h1 : (s : Int) / 2 ^ k = ((s / 2 ^ k : Nat) : Int) := by rw [Int.natCast_ediv, Int.natCast_pow]; rfl
  have h2 : s / 2 ^ k < 2 ^ 62 := Nat.lt_of_le_of_lt (Nat.div_le_self _ _) hs
  have h3 := and64 (a := s / 2 ^ k) (b := 1) h2 (by decide)
  rw [h1, show (1 : Int) = ((1 : Nat) : Int) from rfl, h3, Nat.and_one_is_mod, Nat.testBit_eq_decide_div_mod_eq]
  rcases Nat.mod_two_eq_zero_or_one (s / 2 ^ k) with h | h <;> simp [h]
theorem bit64_t {s : Nat} (hs : s < 256) {k : Nat} (h : s.testBit k = true) : bits .and .i64 ((s : Int) / 2 ^ k) 1 = 1 := by rw [bit64 (by omega), h]; rfl
theorem bit64_f {s : Nat} (hs : s < 256) {k : Nat} (h : s.testBit k = false) : bits .and .i64 ((s : Int) / 2 ^ k) 1 = 0 := by rw [bit64 (by omega), h]; rfl

/-- The two parts of a joint. -/
def pairN (j : Int × Int) : Nat := 2 ^ j.1.toNat ||| 2 ^ j.2.toNat
/-- Parts that are met, with those of a joint of the set, if one of both is met. -/
def hstep (s next : Nat) (j : Int × Int) : Nat := if pairN j &&& s = pairN j ∧ pairN j &&& next ≠ 0 then next ||| pairN j else next
def hround (js : List (Int × Int)) (s met : Nat) : Nat := js.foldl (hstep s) met
/-- Round by round, till no part is met anew. -/
def hangF (js : List (Int × Int)) (s : Nat) : Nat → Nat → Bool
  | 0, _ => false
  | f + 1, met => if hround js s met = met then met == s else hangF js s f (hround js s met)
def hangsB (js : List (Int × Int)) (s : Nat) : Bool := hangF js s 257 (s &&& (256 - s))
def JsOk (n : Nat) (js : List (Int × Int)) : Prop := ∀ j ∈ js, 0 ≤ j.1 ∧ j.1 < j.2 ∧ j.2 < n

theorem pow_lt {a : Nat} (h : a < 8) : 2 ^ a < 256 := by
  have := Nat.pow_le_pow_right (show 0 < 2 by decide) (show a ≤ 7 by omega)
  omega
theorem or_lt {a b : Nat} (ha : a < 256) (hb : b < 256) : a ||| b < 256 := Nat.or_lt_two_pow (n := 8) ha hb
theorem pairN_lt {j : Int × Int} (h1 : j.1 < 8) (h2 : j.2 < 8) : pairN j < 256 := or_lt (pow_lt (by omega)) (pow_lt (by omega))
theorem hstep_lt {s next : Nat} {j : Int × Int} (h1 : j.1 < 8) (h2 : j.2 < 8) (hn : next < 256) : hstep s next j < 256 := by
  unfold hstep
  split
  · exact or_lt hn (pairN_lt h1 h2)
  · exact hn
theorem le_or_left (a b : Nat) : a ≤ a ||| b := Nat.left_le_or
theorem hstep_ge (s next : Nat) (j : Int × Int) : next ≤ hstep s next j := by
  unfold hstep
  split
  · exact le_or_left _ _
  · exact Nat.le_refl _
theorem fold_lt {n : Nat} (hn : n ≤ 8) (s : Nat) : ∀ (js : List (Int × Int)) (met : Nat), JsOk n js → met < 256 → js.foldl (hstep s) met < 256 := by
  intro js
  induction js with
  | nil => intro met _ h; exact h
  | cons j js ih =>
    intro met hj h
    rw [List.foldl_cons]
    have := hj j (by simp)
    exact ih _ (fun x hx => hj x (List.mem_cons_of_mem _ hx)) (hstep_lt (by omega) (by omega) h)
theorem fold_ge (s : Nat) : ∀ (js : List (Int × Int)) (met : Nat), met ≤ js.foldl (hstep s) met := by
  intro js
  induction js with
  | nil => intro met; exact Nat.le_refl _
  | cons j js ih => intro met; rw [List.foldl_cons]; exact Nat.le_trans (hstep_ge s met j) (ih _)
theorem fold_snoc (s : Nat) (js : List (Int × Int)) (met k : Nat) (j : Int × Int) (h : js[k]? = some j) : (js.take (k + 1)).foldl (hstep s) met = hstep s ((js.take k).foldl (hstep s) met) j := by
  obtain ⟨hk, rfl⟩ := List.getElem?_eq_some_iff.1 h
  rw [List.take_succ_eq_append_getElem hk, List.foldl_append]; rfl
theorem jsOk_take {n : Nat} {js : List (Int × Int)} (h : JsOk n js) (k : Nat) : JsOk n (js.take k) := fun j hj => h j (List.mem_of_mem_take hj)
theorem low_lt (s : Nat) (h : s < 256) : s &&& (256 - s) < 256 := Nat.lt_of_le_of_lt Nat.and_le_left h
end Go.Proofs.Ytojgdallodmanaa
