/- Plain laws: more proceeds, more cents. No program is walked here. -/
import Derived.Test.YtblbbhenmhkknaaZ89c80a
namespace Go.Proofs.Ytblbbhenmhkknaa
open Go.RowKit

theorem truthE_mk {lo hi : Int} {cs : List Clm} {P : Int} {ds : List Int} (h : TruthOk lo hi cs P ds) : truthE lo hi cs P ds = 0 := by
  unfold truthE
  rw [if_pos h.est, if_pos h.len, show inB lo hi P = true from inB_mk h.pro.1 h.pro.2, centsOk_all]
  · rfl
  · intro i c d hc hd
    rw [List.getElem?_map] at hc
    cases hx : cs[i]? with
    | none => rw [hx] at hc; simp at hc
    | some x =>
      rw [hx] at hc
      simp only [Option.map_some, Option.some.injEq] at hc
      subst hc
      exact h.cents i x d hx hd
theorem TruthOk.rich {lo hi : Int} {cs : List Clm} {P P' : Int} {ds : List Int} (h : TruthOk lo hi cs P ds) (h1 : P ≤ P') (h2 : P' ≤ hi) : TruthOk lo hi cs P' ds :=
  ⟨h.est, h.len, ⟨by have := h.pro.1; omega, h2⟩, h.cents⟩
theorem TruthOk.big {lo hi : Int} {cs : List Clm} {P : Int} {ds : List Int} (h : TruthOk lo hi cs P ds) {i : Nat} {c : Clm} {x : Int} (hc : cs[i]? = some c) (h1 : c.lo ≤ x) (h2 : x ≤ c.hi) : TruthOk lo hi cs P (ds.set i x) := by
  refine ⟨h.est, by rw [List.length_set]; exact h.len, h.pro, fun j cj d hj hd => ?_⟩
  by_cases e : i = j
  · subst e
    rw [hc] at hj
    injection hj with hj
    subst hj
    have hl : i < ds.length := by rw [h.len]; exact (List.getElem?_eq_some_iff.1 hc).1
    rw [List.getElem?_set_self hl] at hd
    injection hd with hd
    subst hd
    exact ⟨h1, h2⟩
  · rw [List.getElem?_set_ne e] at hd
    exact h.cents j cj d hj hd
theorem more_rich {lo hi : Int} {cs : List Clm} {P P' : Int} {ds : List Int} (h : TruthOk lo hi cs P ds) (hPP : P ≤ P') {i : Nat} {c : Clm} {d : Int} (hc : cs[i]? = some c) (hd : ds[i]? = some d) :
    payAt (jl cs ds) P ⟨c.rank, d, d⟩ ≤ payAt (jl cs ds) P' ⟨c.rank, d, d⟩ := by
  have hi : i < (cs.map c3).length := by simpa using (List.getElem?_eq_some_iff.1 hc).1
  obtain ⟨c', d', e1, e2, k1, k2, k3, k4, k5, k6, k7, k8⟩ := h.at_ hi
  rw [hc] at e1; rw [hd] at e2
  injection e1 with e1; injection e2 with e2
  subst e1 e2
  rw [jl_eq]
  have := payJ_mono (d := fun i => ds.getD i 0) (d' := fun i => ds.getD i 0) (P := P) (P' := P') (i := i) k7 (by show 0 ≤ c.rank; omega) (by simp only [k8]; omega) (Int.le_refl _) hPP (fun j hj => by
    obtain ⟨cj, dj, _, _, q1, _, q3, _, _, _, _, q8⟩ := h.at_ hj
    simp only [q8]; omega) (fun j _ _ => Int.le_refl _)
  simp only [k8] at this
  exact this
theorem set_getD {ds : List Int} {i j : Nat} {x : Int} (h : i < ds.length) : (ds.set i x).getD j 0 = if i = j then x else ds.getD j 0 := by
  rw [List.getD_eq_getElem?_getD, List.getD_eq_getElem?_getD]
  by_cases e : i = j
  · subst e; rw [List.getElem?_set_self h, if_pos rfl]; rfl
  · rw [List.getElem?_set_ne e, if_neg e]
theorem more_own {lo hi : Int} {cs : List Clm} {P : Int} {ds : List Int} (h : TruthOk lo hi cs P ds) {i : Nat} {c : Clm} {d x : Int} (hc : cs[i]? = some c) (hd : ds[i]? = some d) (hx : d ≤ x) :
    payAt (jl cs ds) P ⟨c.rank, d, d⟩ ≤ payAt (jl cs (ds.set i x)) P ⟨c.rank, x, x⟩ := by
  have hi : i < (cs.map c3).length := by simpa using (List.getElem?_eq_some_iff.1 hc).1
  have hil : i < ds.length := (List.getElem?_eq_some_iff.1 hd).1
  obtain ⟨c', d', e1, e2, k1, k2, k3, k4, k5, k6, k7, k8⟩ := h.at_ hi
  rw [hc] at e1; rw [hd] at e2
  injection e1 with e1; injection e2 with e2
  subst e1 e2
  rw [jl_eq, jl_eq]
  have hsi : (ds.set i x).getD i 0 = x := by rw [set_getD hil, if_pos rfl]
  have := payJ_mono (d := fun i => ds.getD i 0) (d' := fun j => (ds.set i x).getD j 0) (P := P) (P' := P) (i := i) k7 (by show 0 ≤ c.rank; omega) (by simp only [k8]; omega) (by simp only [k8, hsi]; exact hx) (Int.le_refl _) (fun j hj => by
    obtain ⟨cj, dj, _, _, q1, _, q3, _, _, _, _, q8⟩ := h.at_ hj
    simp only [set_getD hil]
    split
    · omega
    · rw [q8]; omega) (fun j hj hji => by
    simp only [set_getD hil]
    rw [if_neg (fun e => hji e.symm)]; exact Int.le_refl _)
  simp only [k8, hsi] at this
  exact this
theorem more_other {lo hi : Int} {cs : List Clm} {P : Int} {ds : List Int} (h : TruthOk lo hi cs P ds) {i k : Nat} {ck : Clm} {d x dk : Int} (hd : ds[i]? = some d) (hx : d ≤ x) (hck : cs[k]? = some ck) (hdk : ds[k]? = some dk) (hne : i ≠ k) :
    payAt (jl cs (ds.set i x)) P ⟨ck.rank, dk, dk⟩ ≤ payAt (jl cs ds) P ⟨ck.rank, dk, dk⟩ := by
  have hk : k < (cs.map c3).length := by simpa using (List.getElem?_eq_some_iff.1 hck).1
  have hil : i < ds.length := (List.getElem?_eq_some_iff.1 hd).1
  obtain ⟨c', d', e1, e2, k1, k2, k3, k4, k5, k6, k7, k8⟩ := h.at_ hk
  rw [hck] at e1; rw [hdk] at e2
  injection e1 with e1; injection e2 with e2
  subst e1 e2
  rw [jl_eq, jl_eq]
  have hsk : (ds.set i x).getD k 0 = dk := by rw [set_getD hil, if_neg hne, k8]
  have := payJ_mono (d := fun j => (ds.set i x).getD j 0) (d' := fun i => ds.getD i 0) (P := P) (P' := P) (i := k) k7 (by show 0 ≤ ck.rank; omega) (by simp only [hsk]; omega) (by simp only [k8, hsk]; exact Int.le_refl _) (Int.le_refl _) (fun j hj => by
    obtain ⟨cj, dj, _, _, q1, _, q3, _, _, _, _, q8⟩ := h.at_ hj
    simp only [q8]; omega) (fun j hj _ => by
    simp only [set_getD hil]
    split
    · rename_i e
      subst e
      rw [getD_at hd]; exact hx
    · exact Int.le_refl _)
  simp only [k8, hsk] at this
  exact this
theorem set_at {ds : List Int} {i j : Nat} {x d : Int} (h : ds[j]? = some d) : (ds.set i x)[j]? = some (if i = j then x else d) := by
  have hj := (List.getElem?_eq_some_iff.1 h).1
  by_cases e : i = j
  · subst e; rw [List.getElem?_set_self hj, if_pos rfl]
  · rw [List.getElem?_set_ne e, if_neg e, h]
end Go.Proofs.Ytblbbhenmhkknaa
