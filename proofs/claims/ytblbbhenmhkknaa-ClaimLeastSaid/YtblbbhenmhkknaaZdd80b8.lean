/- The plain law of ClaimReached. The plain law of ClaimLeast. -/
import Derived.Test.YtblbbhenmhkknaaZ8ec8fa
import Derived.Test.YtblbbhenmhkknaaYP4
import Derived.Test.YtblbbhenmhkknaaYP5
namespace Go.Proofs.Ytblbbhenmhkknaa
open Go.RowKit

theorem endD_at {hg : Bool} {cs : List Clm} {a n i : Nat} (h : i < n) : (endD hg cs a n)[i]? = some (endX hg cs a i) := by
  unfold endD
  rw [List.getElem?_map, List.getElem?_range h]
  rfl
theorem endX_bd {hg : Bool} {cs : List Clm} {a k : Nat} {c : Clm} (h : cs[k]? = some c) (hlo : c.lo ≤ c.hi) : c.lo ≤ endX hg cs a k ∧ endX hg cs a k ≤ c.hi := by
  cases hq : (((k : Int) == (a : Int)) == hg)
  · rw [endX_lo h hq]; omega
  · rw [endX_hi h hq]; omega
theorem end_ok {lo hi : Int} {cs : List Clm} {hg : Bool} {a : Nat} (hE : estErr lo hi cs = 0) : TruthOk lo hi cs (endP hg lo hi) (endD hg cs a cs.length) := by
  have hest := est_ok hE
  refine ⟨hE, endD_len _ _ _ _, ?_, fun i c d hc hd => ?_⟩
  · have h1 := hest.span.2.1
    unfold endP
    cases hg <;> simp <;> omega
  · have hil : i < cs.length := (List.getElem?_eq_some_iff.1 hc).1
    rw [endD_at hil] at hd
    injection hd with hd
    subst hd
    have hce := hest.each c (List.mem_of_getElem? hc)
    exact endX_bd hc hce.2.2.2.2.1
theorem justL_congr {L : List Cl3} {d d' : Nat → Int} (h : ∀ i, i < L.length → d i = d' i) : justL L d = justL L d' := by
  apply List.ext_getElem?
  intro i
  cases hc : L[i]? with
  | none =>
    have hl : L.length ≤ i := by simpa using hc
    rw [List.getElem?_eq_none (by rw [justL_len]; exact hl), List.getElem?_eq_none (by rw [justL_len]; exact hl)]
  | some c =>
    rw [justL_split hc, justL_split hc, h i (List.getElem?_eq_some_iff.1 hc).1]
theorem end_jl {cs : List Clm} {hg : Bool} {a : Nat} : jl cs (endD hg cs a cs.length) = justL (cs.map c3) (if hg = true then dHi (cs.map c3) a else dLo (cs.map c3) a) := by
  rw [jl_eq]
  refine justL_congr fun i hi => ?_
  have hi' : i < cs.length := by simpa using hi
  rw [getD_at (endD_at hi')]
  unfold endX
  cases hg <;> rfl
theorem end_pay {lo hi : Int} {cs : List Clm} {hg : Bool} {a : Nat} (ha : a < cs.length) : (pays (jl cs (endD hg cs a cs.length)) (endP hg lo hi))[a]? = some (if hg = true then shareV (cs.map c3) (dHi (cs.map c3) a) hi a else shareV (cs.map c3) (dLo (cs.map c3) a) lo a) := by
  obtain ⟨c, hc⟩ : ∃ c, cs[a]? = some c := ⟨_, List.getElem?_eq_getElem ha⟩
  rw [end_jl]
  cases hg
  · rw [if_neg (by simp), if_neg (by simp), shareV_at (l3_at hc), pays_get (justL_split (l3_at hc))]; rfl
  · rw [if_pos rfl, if_pos rfl, shareV_at (l3_at hc), pays_get (justL_split (l3_at hc))]; rfl

/-- The truth in which all claims are greatest. -/
theorem worst_ok {lo hi P : Int} {cs : List Clm} (hE : estErr lo hi cs = 0) (h1 : lo ≤ P) (h2 : P ≤ hi) : TruthOk lo hi cs P (cs.map Clm.hi) := by
  have hest := est_ok hE
  refine ⟨hE, by simp, ⟨h1, h2⟩, fun i c d hc hd => ?_⟩
  rw [List.getElem?_map, hc] at hd
  injection hd with hd
  subst hd
  have hce := hest.each c (List.mem_of_getElem? hc)
  exact ⟨hce.2.2.2.2.1, Int.le_refl _⟩
theorem worst_jl {cs : List Clm} : jl cs (cs.map Clm.hi) = (cs.map c3).map fun c => ⟨c.rank, c.hi, c.hi⟩ := by
  apply List.ext_getElem?
  intro i
  cases hc : cs[i]? with
  | none =>
    have hl : cs.length ≤ i := by simpa using hc
    rw [List.getElem?_eq_none (by rw [jl_len]; exact hl), List.getElem?_eq_none (by simpa using hl)]
  | some c =>
    rw [jl_at hc, getD_at (by rw [List.getElem?_map, hc]; rfl)]
    simp [hc, c3]
theorem short_lt {D S x : Int} (hx : 0 < x) (h0 : 0 ≤ D) (hD : D < S) : D * x / S < x := by
  refine Int.ediv_lt_of_lt_mul (by omega) ?_
  rw [Int.mul_comm x S]
  exact Int.mul_lt_mul_of_pos_right hD hx
theorem worst_pay {lo hi P : Int} {cs : List Clm} (hE : estErr lo hi cs = 0) (h0 : 0 ≤ P) {a : Nat} {c : Clm} (hc : cs[a]? = some c) :
    payAt (jl cs (cs.map Clm.hi)) P ⟨c.rank, c.hi, c.hi⟩ = c.hi ↔ needI (cs.map c3) (c3 c) ≤ P := by
  have hest := est_ok hE
  have hce := hest.each c (List.mem_of_getElem? hc)
  rw [worst_jl]
  unfold payAt needI
  rw [upTo_hi, sumR_hi]
  have e : upToH (cs.map c3) ((c3 c).rank.toNat + 1) = upToH (cs.map c3) c.rank.toNat + sumR Cl3.hi (cs.map c3) c.rank := by
    show upToH (cs.map c3) c.rank.toNat + sumR Cl3.hi (cs.map c3) (c.rank.toNat : Int) = _
    rw [show ((c.rank.toNat : Nat) : Int) = c.rank from by omega]
  rw [e]
  show (if upToH (cs.map c3) c.rank.toNat + sumR Cl3.hi (cs.map c3) c.rank ≤ P then c.hi else _) = c.hi ↔ (if c.hi = 0 then 0 else _) ≤ P
  generalize upToH (cs.map c3) c.rank.toNat = U
  generalize sumR Cl3.hi (cs.map c3) c.rank = S
  by_cases hz : c.hi = 0
  · rw [hz]
    simp only [if_pos, Int.mul_zero, Int.zero_ediv]
    constructor
    · intro _; exact h0
    · intro _; split <;> (try split) <;> rfl
  · rw [if_neg hz]
    by_cases h : U + S ≤ P
    · rw [if_pos h]; simp [h]
    · rw [if_neg h]
      refine ⟨fun k => ?_, fun k => absurd k h⟩
      exfalso
      by_cases h2 : U ≤ P
      · rw [if_pos h2] at k
        replace k : (P - U) * c.hi / S = c.hi := k
        have := short_lt (D := P - U) (S := S) (x := c.hi) (by omega) (by omega) (by omega)
        omega
      · rw [if_neg h2] at k; omega
theorem sureL_iff {lo : Int} {L : List Cl3} {n a : Nat} {c : Cl3} (h : a < n) (hc : L[a]? = some c) : a ∈ sureL lo L n ↔ needI L c ≤ lo := by
  unfold sureL
  rw [List.mem_filter]
  simp [h, hc]
theorem take_step {α : Type} {l : List α} {k : Nat} {x : α} (h : l[k]? = some x) : l.take (k + 1) = l.take k ++ [x] := by
  rw [List.take_add_one, h]; rfl
end Go.Proofs.Ytblbbhenmhkknaa

namespace Go.Proofs.Ytblbbhenmhkknaa
open Go.RowKit

theorem est_span {lo hi lo' hi' : Int} {cs : List Clm} (h : estErr lo hi cs = 0) (h0 : 0 ≤ lo') (h1 : lo' ≤ hi') (h2 : hi' ≤ 1000000000) : estErr lo' hi' cs = 0 := by
  have hr : rangeE 0 1000000000 lo' hi' = 0 := rangeE_ok (by simp [inB]; omega) h1
  unfold estErr estE at *
  by_cases k : rangeE 0 1000000000 lo hi = 0
  · rw [if_pos k] at h
    rw [if_pos hr]
    exact h
  · rw [if_neg k] at h
    exact absurd h k
theorem need_nonneg {lo hi : Int} {cs : List Clm} {c : Cl3} (hE : estErr lo hi cs = 0) : 0 ≤ needI (cs.map c3) c := by
  have hest := est_ok hE
  unfold needI
  split
  · exact Int.le_refl _
  · exact (upToH_bd (cs.map c3) hest.ok3 (by have := hest.len.2; simp; omega) _).1
theorem least_short {lo hi : Int} {cs : List Clm} (hE : estErr lo hi cs = 0) {a : Nat} {c : Clm} (hc : cs[a]? = some c) {n : Int} (hn : needI (cs.map c3) (c3 c) = n) (h1 : 1 ≤ n) (h9 : n ≤ 1000000000) :
    payAt (jl cs (cs.map Clm.hi)) (n - 1) ⟨c.rank, c.hi, c.hi⟩ < c.hi := by
  have hE2 := est_span (lo' := n - 1) (hi' := n - 1) hE (by omega) (Int.le_refl _) (by omega)
  have hto := worst_ok (P := n - 1) hE2 (Int.le_refl _) (Int.le_refl _)
  have hb := payAt_bound (P := n - 1) (c := ⟨c.rank, c.hi, c.hi⟩) hto.ok3 (List.mem_of_getElem? (by rw [jl_at hc, getD_at (by rw [List.getElem?_map, hc]; rfl)]))
  have hw := worst_pay (P := n - 1) hE (by omega) hc
  have hb2 := hb.2
  simp only at hb2
  rcases Int.lt_or_eq_of_le hb2 with k | k
  · exact k
  · have := hw.1 k; omega
theorem leastR_at {lo hi : Int} {cs : List Clm} (hE : estErr lo hi cs = 0) {a : Nat} {c : Clm} (hc : cs[a]? = some c) : leastR lo hi cs (a : Int) = (needI (cs.map c3) (c3 c), 0) := by
  have hl : a < cs.length := (List.getElem?_eq_some_iff.1 hc).1
  have h2 : inB 0 ((cs.length : Int) - 1) (a : Int) = true := by simp [inB]; omega
  unfold leastR
  rw [if_pos hE, if_pos h2]
  simp [hc]
theorem leastR_no {lo hi : Int} {cs : List Clm} (hE : estErr lo hi cs ≠ 0) (a : Int) : leastR lo hi cs a = (0, estErr lo hi cs) := by
  unfold leastR
  rw [if_neg hE]
theorem sureL_not {lo hi : Int} {cs : List Clm} (hE : estErr lo hi cs = 0) {a : Nat} {c : Clm} (hc : cs[a]? = some c) (h : 1000000000 < needI (cs.map c3) (c3 c)) : a ∉ sureL lo (cs.map c3) cs.length := by
  have hest := est_ok hE
  have h1 := hest.span.2.1
  have h2 := hest.span.2.2
  rw [sureL_iff (List.getElem?_eq_some_iff.1 hc).1 (l3_at hc)]
  omega
end Go.Proofs.Ytblbbhenmhkknaa
