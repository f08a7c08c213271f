/- The plain law of ClaimCost. The plain law of ClaimCost: the sum. The plain law of ClaimCost: at an index. The plain law of ClaimCost: the estate with the further claim. No program is walked here. -/
import Derived.Test.YtblbbhenmhkknaaZ9029f7
import Derived.Test.YtblbbhenmhkknaaZ89c80a
import Derived.Test.YtblbbhenmhkknaaYP5
namespace Go.Proofs.Ytblbbhenmhkknaa
open Go.RowKit

theorem sumR_last (f : Cl3 → Int) (l : List Cl3) (c : Cl3) (r : Int) : sumR f (l ++ [c]) r = sumR f l r + if c.rank = r then f c else 0 := by
  unfold sumR; simp
theorem upToR_snoc {l : List Cl3} {c : Cl3} (h : 0 ≤ c.lo) : ∀ r : Nat, upToR l r ≤ upToR (l ++ [c]) r := by
  intro r
  induction r with
  | zero => exact Int.le_refl _
  | succ r ih =>
    simp only [upToR]
    rw [sumR_last]
    split <;> omega
theorem upToR_snoc_early {l : List Cl3} {c : Cl3} : ∀ r : Nat, (r : Int) ≤ c.rank → upToR (l ++ [c]) r = upToR l r := by
  intro r
  induction r with
  | zero => intro _; rfl
  | succ r ih =>
    intro h
    simp only [upToR]
    rw [sumR_last, ih (by omega), if_neg (by omega)]
    omega
/-- A further claim leaves nobody more. -/
theorem cost_less {l : List Cl3} {f c : Cl3} {P : Int} {i : Nat} (hc : l[i]? = some c) (hf : 0 ≤ f.lo) (h0 : 0 ≤ c.rank) (hx : 0 ≤ c.lo) (hn : ∀ x ∈ l, 0 ≤ x.lo) : payAt (l ++ [f]) P c ≤ payAt l P c := by
  have e := split_at hc
  have e2 : l ++ [f] = l.take i ++ c :: (l.drop (i + 1) ++ [f]) := by
    conv => lhs; rw [e]
    simp
  have hl : payAt l P c = payAt (l.take i ++ c :: l.drop (i + 1)) P c := by rw [← e]
  rw [hl, e2, payAt_mid h0, payAt_mid h0]
  have h1 := upToR_snoc (l := l.take i ++ l.drop (i + 1)) (c := f) hf c.rank.toNat
  have h2 := sumR_last Cl3.lo (l.take i ++ l.drop (i + 1)) f c.rank
  rw [List.append_assoc] at h1 h2
  have h3 : 0 ≤ sumR Cl3.lo (l.take i ++ l.drop (i + 1)) c.rank := sumR_nonneg (fun x hx => hn x (by
    rcases List.mem_append.1 hx with k | k
    · exact List.mem_of_mem_take k
    · exact List.mem_of_mem_drop k)) _
  refine gP_mono h3 hx (by omega) ?_ (Int.le_refl _)
  rw [h2]
  split <;> omega
/-- It costs nobody of an earlier rank anything. -/
theorem cost_early {l : List Cl3} {f c : Cl3} {P : Int} (h0 : 0 ≤ c.rank) (h : c.rank < f.rank) : payAt (l ++ [f]) P c = payAt l P c := by
  have hs : sumR Cl3.lo (l ++ [f]) c.rank = sumR Cl3.lo l c.rank := by
    rw [sumR_last, if_neg (by omega), Int.add_zero]
  unfold payAt
  rw [upToR_snoc_early _ (by omega), hs]
end Go.Proofs.Ytblbbhenmhkknaa

namespace Go.Proofs.Ytblbbhenmhkknaa
open Go.RowKit

theorem zip_sum : ∀ (a b : List Int), a.length = b.length → (List.zipWith (fun x y => x - y) a b).sum = a.sum - b.sum := by
  intro a
  induction a with
  | nil => intro b h; cases b with
    | nil => rfl
    | cons y b => simp at h
  | cons x a ih => intro b h; cases b with
    | nil => simp at h
    | cons y b =>
      have := ih b (by simpa using h)
      simp only [List.zipWith_cons_cons, List.sum_cons]
      omega
theorem costTo_zip {a b : List Int} {z : Int} (h : a.length = b.length) : costTo a (b ++ [z]) a.length = List.zipWith (fun x y => x - y) a b := by
  apply List.ext_getElem?
  intro i
  simp only [costTo, List.getElem?_mapIdx, List.getElem?_zipWith]
  cases ha : a[i]? with
  | none => simp
  | some x =>
    have hi : i < a.length := (List.getElem?_eq_some_iff.1 ha).1
    obtain ⟨y, hy⟩ : ∃ y, b[i]? = some y := ⟨_, List.getElem?_eq_getElem (by omega)⟩
    simp only [Option.map_some, if_pos hi, List.getD_eq_getElem?_getD]
    rw [List.getElem?_append_left (by omega), hy]
    rfl
theorem cost_sum {cs : List Clm} {P : Int} {ds : List Int} {f : Clm} : (costL cs P ds f).sum = payAt (jlF cs ds f) P ⟨f.rank, f.lo, f.hi⟩ - ((P - (pays (jl cs ds) P).sum) - (P - (pays (jlF cs ds f) P).sum)) := by
  have hp : pays (jlF cs ds f) P = (jl cs ds).map (payAt (jlF cs ds f) P) ++ [payAt (jlF cs ds f) P ⟨f.rank, f.lo, f.hi⟩] := by
    show (jl cs ds ++ [_]).map _ = _
    rw [List.map_append]
    rfl
  have hl : (pays (jl cs ds) P).length = ((jl cs ds).map (payAt (jlF cs ds f) P)).length := by simp [pays]
  have hn : cs.length = (pays (jl cs ds) P).length := by rw [pays_len, jl_len]
  unfold costL
  rw [hn, hp, costTo_zip hl, zip_sum _ _ hl, List.sum_append]
  simp
  omega
end Go.Proofs.Ytblbbhenmhkknaa

namespace Go.Proofs.Ytblbbhenmhkknaa
open Go.RowKit

theorem jlF_at {cs : List Clm} {ds : List Int} {f : Clm} {i : Nat} {c : Cl3} (h : (jl cs ds)[i]? = some c) : (jlF cs ds f)[i]? = some c := by
  unfold jlF
  rw [List.getElem?_append_left (List.getElem?_eq_some_iff.1 h).1, h]
theorem costL_at {cs : List Clm} {P : Int} {ds : List Int} {f : Clm} {i : Nat} {c : Cl3} (h : (jl cs ds)[i]? = some c) : (costL cs P ds f)[i]? = some (payAt (jl cs ds) P c - payAt (jlF cs ds f) P c) := by
  have hi : i < cs.length := by have := (List.getElem?_eq_some_iff.1 h).1; rwa [jl_len] at this
  have h1 := pays_get (P := P) h
  have h2 := pays_get (P := P) (jlF_at (f := f) h)
  unfold costL costTo
  rw [List.getElem?_mapIdx, h1]
  simp only [Option.map_some, if_pos hi, List.getD_eq_getElem?_getD]
  rw [h2]
  rfl
theorem cost_facts {lo hi : Int} {cs : List Clm} {P : Int} {ds : List Int} {f : Clm} (h : TruthOk lo hi cs P ds) (hf : 0 ≤ f.lo) {i : Nat} {c : Clm} {d : Int} (hc : cs[i]? = some c) (hd : ds[i]? = some d) :
    ∃ x y, (pays (jl cs ds) P)[i]? = some x ∧ (pays (jlF cs ds f) P)[i]? = some y ∧ (costL cs P ds f)[i]? = some (x - y) ∧ 0 ≤ x - y ∧ (0 < x - y → ¬ c.rank < f.rank) := by
  have hj := jl_at (ds := ds) hc
  rw [getD_at hd] at hj
  have hdb := h.ok3 _ (List.mem_of_getElem? hj)
  have hless := cost_less (P := P) (f := ⟨f.rank, f.lo, f.hi⟩) hj hf (by have := hdb.1; omega) hdb.2.2.1 (fun x hx => (h.ok3 x hx).2.2.1)
  refine ⟨_, _, pays_get hj, pays_get (jlF_at hj), costL_at hj, ?_, fun hp hr => ?_⟩
  · have : payAt (jlF cs ds f) P ⟨c.rank, d, d⟩ ≤ payAt (jl cs ds) P ⟨c.rank, d, d⟩ := hless
    omega
  · have he : payAt (jlF cs ds f) P ⟨c.rank, d, d⟩ = payAt (jl cs ds) P ⟨c.rank, d, d⟩ := cost_early (f := ⟨f.rank, f.lo, f.hi⟩) (by have := hdb.1; omega) hr
    omega
end Go.Proofs.Ytblbbhenmhkknaa

namespace Go.Proofs.Ytblbbhenmhkknaa
open Go.RowKit

theorem firstBad_all {f : Nat → Int} : ∀ {n : Nat}, (∀ i, i < n → f i = 0) → firstBad f n = none := by
  intro n
  induction n with
  | zero => intro _; rfl
  | succ n ih => intro h; exact firstBad_succ (ih fun i hi => h i (by omega)) (h n (by omega))
theorem est_mk {lo hi : Int} {cs : List Clm} (h1 : 0 ≤ lo ∧ lo ≤ hi ∧ hi ≤ 1000000000) (h2 : 1 ≤ cs.length ∧ cs.length ≤ 8) (ht : ∀ (i : Nat) (c : Clm), cs[i]? = some c → toldE (cs.take i) c = 0) : estErr lo hi cs = 0 := by
  have hr : rangeE 0 1000000000 lo hi = 0 := by
    unfold rangeE
    rw [show inB 0 1000000000 lo = true from inB_mk (by omega) (by omega), show inB 0 1000000000 hi = true from inB_mk (by omega) (by omega)]
    simp; omega
  have hb : firstBad (toldAt cs) cs.length = none := firstBad_all fun i hi => by
    obtain ⟨c, hc⟩ : ∃ c, cs[i]? = some c := ⟨_, List.getElem?_eq_getElem hi⟩
    unfold toldAt
    rw [hc]
    exact ht i c hc
  unfold estErr estE
  rw [if_pos hr, show inB 1 8 (cs.length : Int) = true from inB_mk (by omega) (by omega), hb]
  rfl
theorem est_snoc {lo hi : Int} {cs : List Clm} {f : Clm} (h : estErr lo hi cs = 0) (h8 : cs.length ≠ 8) (hT : toldE cs f = 0) : estErr lo hi (cs ++ [f]) = 0 := by
  have he := est_ok h
  have hl := he.len
  refine est_mk he.span (by simp; omega) fun i c hc => ?_
  rcases Nat.lt_or_ge i cs.length with hi | hi
  · rw [List.getElem?_append_left hi] at hc
    rw [List.take_append_of_le_length (by omega)]
    exact he.told i c hc
  · have hi2 : i < cs.length + 1 := by have := (List.getElem?_eq_some_iff.1 hc).1; simpa using this
    obtain rfl : i = cs.length := by omega
    rw [List.getElem?_append_right (Nat.le_refl _), Nat.sub_self] at hc
    simp only [List.getElem?_cons_zero, Option.some.injEq] at hc
    subst hc
    rw [List.take_left]
    exact hT
theorem furtherE_ok {lo hi : Int} {cs : List Clm} {P : Int} {ds : List Int} {f : Clm} (h : furtherE lo hi cs P ds f = 0) : truthE lo hi cs P ds = 0 ∧ cs.length ≠ 8 ∧ toldE cs f = 0 ∧ f.lo = f.hi := by
  unfold furtherE at h
  by_cases h1 : truthE lo hi cs P ds = 0
  · rw [if_pos h1] at h
    by_cases h2 : cs.length = 8
    · rw [if_pos h2] at h; omega
    · rw [if_neg h2] at h
      by_cases h3 : toldE cs f = 0
      · rw [if_pos h3] at h
        by_cases h4 : f.lo = f.hi
        · exact ⟨h1, h2, h3, h4⟩
        · rw [if_neg h4] at h; omega
      · rw [if_neg h3] at h; exact absurd h h3
  · rw [if_neg h1] at h; exact absurd h h1
theorem truth_snoc {lo hi : Int} {cs : List Clm} {P : Int} {ds : List Int} {f : Clm} (h : TruthOk lo hi cs P ds) (h8 : cs.length ≠ 8) (hT : toldE cs f = 0) (hl : f.lo = f.hi) : TruthOk lo hi (cs ++ [f]) P (ds ++ [f.lo]) := by
  refine ⟨est_snoc h.est h8 hT, by simp [h.len], h.pro, fun i c d hc hd => ?_⟩
  rcases Nat.lt_or_ge i cs.length with hi | hi
  · rw [List.getElem?_append_left hi] at hc
    rw [List.getElem?_append_left (by rw [h.len]; exact hi)] at hd
    exact h.cents i c d hc hd
  · have hi2 : i < cs.length + 1 := by have := (List.getElem?_eq_some_iff.1 hc).1; simpa using this
    obtain rfl : i = cs.length := by omega
    rw [List.getElem?_append_right (Nat.le_refl _), Nat.sub_self] at hc
    rw [← h.len, List.getElem?_append_right (Nat.le_refl _), Nat.sub_self] at hd
    simp only [List.getElem?_cons_zero, Option.some.injEq] at hc hd
    subst hc hd
    omega
theorem jl_snoc {cs : List Clm} {ds : List Int} {f : Clm} (h : ds.length = cs.length) (hl : f.lo = f.hi) : jl (cs ++ [f]) (ds ++ [f.lo]) = jlF cs ds f := by
  apply List.ext_getElem?
  intro i
  rcases Nat.lt_or_ge i cs.length with hi | hi
  · obtain ⟨c, hc⟩ : ∃ c, cs[i]? = some c := ⟨_, List.getElem?_eq_getElem hi⟩
    obtain ⟨d, hd⟩ : ∃ d, ds[i]? = some d := ⟨_, List.getElem?_eq_getElem (by omega)⟩
    have h1 := jl_at (ds := ds) hc
    rw [jlF_at h1, jl_at (cs := cs ++ [f]) (c := c) (by rw [List.getElem?_append_left hi]; exact hc)]
    rw [List.getD_eq_getElem?_getD, List.getD_eq_getElem?_getD, List.getElem?_append_left (by omega)]
  · by_cases e : i = cs.length
    · subst e
      rw [jl_at (cs := cs ++ [f]) (c := f) (by rw [List.getElem?_append_right (Nat.le_refl _), Nat.sub_self]; rfl)]
      have e2 : (ds ++ [f.lo]).getD cs.length 0 = f.lo := by
        rw [List.getD_eq_getElem?_getD, ← h, List.getElem?_append_right (Nat.le_refl _), Nat.sub_self]; rfl
      have hj : (jl cs ds).length = cs.length := jl_len cs ds
      unfold jlF
      rw [e2, List.getElem?_append_right (by omega), hj, Nat.sub_self, ← hl]
      rfl
    · rw [List.getElem?_eq_none (by rw [jl_len]; simp; omega), List.getElem?_eq_none (by rw [jlF_len]; omega)]
theorem clms_snoc {cs : List Clm} {f : Clm} (h : ClmsOk cs) (hf : f.name.size ≤ maxLen) : ClmsOk (cs ++ [f]) := by
  intro c hc
  rcases List.mem_append.1 hc with hc | hc
  · exact h c hc
  · rw [List.mem_singleton] at hc
    subst hc
    exact hf
theorem costL_len (cs : List Clm) (P : Int) (ds : List Int) (f : Clm) : (costL cs P ds f).length = cs.length := by
  unfold costL; rw [costTo_len, pays_len, jl_len]
end Go.Proofs.Ytblbbhenmhkknaa
