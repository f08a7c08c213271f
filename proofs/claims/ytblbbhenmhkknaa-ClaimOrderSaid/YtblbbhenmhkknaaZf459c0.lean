/- The plain law of ClaimCost. The plain law of ClaimCost: the sum. The plain law of ClaimCost: at an index. The plain law of ClaimCost: the estate with the further claim. No program is walked here. ClaimOrder, the plain law: claims in another order get the same. -/
import Derived.Test.YtblbbhenmhkknaaYW32
import Derived.Test.YtblbbhenmhkknaaZ38b334
import Derived.Test.YtblbbhenmhkknaaYP4
import Derived.Test.YtblbbhenmhkknaaZ9029f7
namespace Go.Proofs.Ytblbbhenmhkknaa
open Go.RowKit

theorem sumR_last (f : Cl3 → Int) (l : List Cl3) (c : Cl3) (r : Int) : sumR f (l ++ [c]) r = sumR f l r + if c.rank = r then f c else 0 := by
  unfold sumR; simp
theorem upToR_snoc {l : List Cl3} {c : Cl3} (h : 0 ≤ c.lo) : ∀ r : Nat, upToR l r ≤ upToR (l ++ [c]) r := by
  intro r
  induction r with
  | zero => exact Int.le_refl _
  | succ r ih =>
    simp only [upToR]
    rw [sumR_last]
    split <;> omega
theorem upToR_snoc_early {l : List Cl3} {c : Cl3} : ∀ r : Nat, (r : Int) ≤ c.rank → upToR (l ++ [c]) r = upToR l r := by
  intro r
  induction r with
  | zero => intro _; rfl
  | succ r ih =>
    intro h
    simp only [upToR]
    rw [sumR_last, ih (by omega), if_neg (by omega)]
    omega
/-- A further claim leaves nobody more. -/
theorem cost_less {l : List Cl3} {f c : Cl3} {P : Int} {i : Nat} (hc : l[i]? = some c) (hf : 0 ≤ f.lo) (h0 : 0 ≤ c.rank) (hx : 0 ≤ c.lo) (hn : ∀ x ∈ l, 0 ≤ x.lo) : payAt (l ++ [f]) P c ≤ payAt l P c := by
  have e := split_at hc
  have e2 : l ++ [f] = l.take i ++ c :: (l.drop (i + 1) ++ [f]) := by
    conv => lhs; rw [e]
    simp
  have hl : payAt l P c = payAt (l.take i ++ c :: l.drop (i + 1)) P c := by rw [← e]
  rw [hl, e2, payAt_mid h0, payAt_mid h0]
  have h1 := upToR_snoc (l := l.take i ++ l.drop (i + 1)) (c := f) hf c.rank.toNat
  have h2 := sumR_last Cl3.lo (l.take i ++ l.drop (i + 1)) f c.rank
  rw [List.append_assoc] at h1 h2
  have h3 : 0 ≤ sumR Cl3.lo (l.take i ++ l.drop (i + 1)) c.rank := sumR_nonneg (fun x hx => hn x (by
    rcases List.mem_append.1 hx with k | k
    · exact List.mem_of_mem_take k
    · exact List.mem_of_mem_drop k)) _
  refine gP_mono h3 hx (by omega) ?_ (Int.le_refl _)
  rw [h2]
  split <;> omega
/-- It costs nobody of an earlier rank anything. -/
theorem cost_early {l : List Cl3} {f c : Cl3} {P : Int} (h0 : 0 ≤ c.rank) (h : c.rank < f.rank) : payAt (l ++ [f]) P c = payAt l P c := by
  have hs : sumR Cl3.lo (l ++ [f]) c.rank = sumR Cl3.lo l c.rank := by
    rw [sumR_last, if_neg (by omega), Int.add_zero]
  unfold payAt
  rw [upToR_snoc_early _ (by omega), hs]
end Go.Proofs.Ytblbbhenmhkknaa

namespace Go.Proofs.Ytblbbhenmhkknaa
open Go.RowKit

theorem zip_sum : ∀ (a b : List Int), a.length = b.length → (List.zipWith (fun x y => x - y) a b).sum = a.sum - b.sum := by
  intro a
  induction a with
  | nil => intro b h; cases b with
    | nil => rfl
    | cons y b => simp at h
  | cons x a ih => intro b h; cases b with
    | nil => simp at h
    | cons y b =>
      have := ih b (by simpa using h)
      simp only [List.zipWith_cons_cons, List.sum_cons]
      omega
theorem costTo_zip {a b : List Int} {z : Int} (h : a.length = b.length) : costTo a (b ++ [z]) a.length = List.zipWith (fun x y => x - y) a b := by
  apply List.ext_getElem?
  intro i
  simp only [costTo, List.getElem?_mapIdx, List.getElem?_zipWith]
  cases ha : a[i]? with
  | none => simp
  | some x =>
    have hi : i < a.length := (List.getElem?_eq_some_iff.1 ha).1
    obtain ⟨y, hy⟩ : ∃ y, b[i]? = some y := ⟨_, List.getElem?_eq_getElem (by omega)⟩
    simp only [Option.map_some, if_pos hi, List.getD_eq_getElem?_getD]
    rw [List.getElem?_append_left (by omega), hy]
    rfl
theorem cost_sum {cs : List Clm} {P : Int} {ds : List Int} {f : Clm} : (costL cs P ds f).sum = payAt (jlF cs ds f) P ⟨f.rank, f.lo, f.hi⟩ - ((P - (pays (jl cs ds) P).sum) - (P - (pays (jlF cs ds f) P).sum)) := by
  have hp : pays (jlF cs ds f) P = (jl cs ds).map (payAt (jlF cs ds f) P) ++ [payAt (jlF cs ds f) P ⟨f.rank, f.lo, f.hi⟩] := by
    show (jl cs ds ++ [_]).map _ = _
    rw [List.map_append]
    rfl
  have hl : (pays (jl cs ds) P).length = ((jl cs ds).map (payAt (jlF cs ds f) P)).length := by simp [pays]
  have hn : cs.length = (pays (jl cs ds) P).length := by rw [pays_len, jl_len]
  unfold costL
  rw [hn, hp, costTo_zip hl, zip_sum _ _ hl, List.sum_append]
  simp
  omega
end Go.Proofs.Ytblbbhenmhkknaa

namespace Go.Proofs.Ytblbbhenmhkknaa
open Go.RowKit

theorem jlF_at {cs : List Clm} {ds : List Int} {f : Clm} {i : Nat} {c : Cl3} (h : (jl cs ds)[i]? = some c) : (jlF cs ds f)[i]? = some c := by
  unfold jlF
  rw [List.getElem?_append_left (List.getElem?_eq_some_iff.1 h).1, h]
theorem costL_at {cs : List Clm} {P : Int} {ds : List Int} {f : Clm} {i : Nat} {c : Cl3} (h : (jl cs ds)[i]? = some c) : (costL cs P ds f)[i]? = some (payAt (jl cs ds) P c - payAt (jlF cs ds f) P c) := by
  have hi : i < cs.length := by have := (List.getElem?_eq_some_iff.1 h).1; rwa [jl_len] at this
  have h1 := pays_get (P := P) h
  have h2 := pays_get (P := P) (jlF_at (f := f) h)
  unfold costL costTo
  rw [List.getElem?_mapIdx, h1]
  simp only [Option.map_some, if_pos hi, List.getD_eq_getElem?_getD]
  rw [h2]
  rfl
theorem cost_facts {lo hi : Int} {cs : List Clm} {P : Int} {ds : List Int} {f : Clm} (h : TruthOk lo hi cs P ds) (hf : 0 ≤ f.lo) {i : Nat} {c : Clm} {d : Int} (hc : cs[i]? = some c) (hd : ds[i]? = some d) :
    ∃ x y, (pays (jl cs ds) P)[i]? = some x ∧ (pays (jlF cs ds f) P)[i]? = some y ∧ (costL cs P ds f)[i]? = some (x - y) ∧ 0 ≤ x - y ∧ (0 < x - y → ¬ c.rank < f.rank) := by
  have hj := jl_at (ds := ds) hc
  rw [getD_at hd] at hj
  have hdb := h.ok3 _ (List.mem_of_getElem? hj)
  have hless := cost_less (P := P) (f := ⟨f.rank, f.lo, f.hi⟩) hj hf (by have := hdb.1; omega) hdb.2.2.1 (fun x hx => (h.ok3 x hx).2.2.1)
  refine ⟨_, _, pays_get hj, pays_get (jlF_at hj), costL_at hj, ?_, fun hp hr => ?_⟩
  · have : payAt (jlF cs ds f) P ⟨c.rank, d, d⟩ ≤ payAt (jl cs ds) P ⟨c.rank, d, d⟩ := hless
    omega
  · have he : payAt (jlF cs ds f) P ⟨c.rank, d, d⟩ = payAt (jl cs ds) P ⟨c.rank, d, d⟩ := cost_early (f := ⟨f.rank, f.lo, f.hi⟩) (by have := hdb.1; omega) hr
    omega
end Go.Proofs.Ytblbbhenmhkknaa

namespace Go.Proofs.Ytblbbhenmhkknaa
open Go.RowKit

theorem firstBad_all {f : Nat → Int} : ∀ {n : Nat}, (∀ i, i < n → f i = 0) → firstBad f n = none := by
  intro n
  induction n with
  | zero => intro _; rfl
  | succ n ih => intro h; exact firstBad_succ (ih fun i hi => h i (by omega)) (h n (by omega))
theorem est_mk {lo hi : Int} {cs : List Clm} (h1 : 0 ≤ lo ∧ lo ≤ hi ∧ hi ≤ 1000000000) (h2 : 1 ≤ cs.length ∧ cs.length ≤ 8) (ht : ∀ (i : Nat) (c : Clm), cs[i]? = some c → toldE (cs.take i) c = 0) : estErr lo hi cs = 0 := by
  have hr : rangeE 0 1000000000 lo hi = 0 := by
    unfold rangeE
    rw [show inB 0 1000000000 lo = true from inB_mk (by omega) (by omega), show inB 0 1000000000 hi = true from inB_mk (by omega) (by omega)]
    simp; omega
  have hb : firstBad (toldAt cs) cs.length = none := firstBad_all fun i hi => by
    obtain ⟨c, hc⟩ : ∃ c, cs[i]? = some c := ⟨_, List.getElem?_eq_getElem hi⟩
    unfold toldAt
    rw [hc]
    exact ht i c hc
  unfold estErr estE
  rw [if_pos hr, show inB 1 8 (cs.length : Int) = true from inB_mk (by omega) (by omega), hb]
  rfl
theorem est_snoc {lo hi : Int} {cs : List Clm} {f : Clm} (h : estErr lo hi cs = 0) (h8 : cs.length ≠ 8) (hT : toldE cs f = 0) : estErr lo hi (cs ++ [f]) = 0 := by
  have he := est_ok h
  have hl := he.len
  refine est_mk he.span (by simp; omega) fun i c hc => ?_
  rcases Nat.lt_or_ge i cs.length with hi | hi
  · rw [List.getElem?_append_left hi] at hc
    rw [List.take_append_of_le_length (by omega)]
    exact he.told i c hc
  · have hi2 : i < cs.length + 1 := by have := (List.getElem?_eq_some_iff.1 hc).1; simpa using this
    obtain rfl : i = cs.length := by omega
    rw [List.getElem?_append_right (Nat.le_refl _), Nat.sub_self] at hc
    simp only [List.getElem?_cons_zero, Option.some.injEq] at hc
    subst hc
    rw [List.take_left]
    exact hT
theorem furtherE_ok {lo hi : Int} {cs : List Clm} {P : Int} {ds : List Int} {f : Clm} (h : furtherE lo hi cs P ds f = 0) : truthE lo hi cs P ds = 0 ∧ cs.length ≠ 8 ∧ toldE cs f = 0 ∧ f.lo = f.hi := by
  unfold furtherE at h
  by_cases h1 : truthE lo hi cs P ds = 0
  · rw [if_pos h1] at h
    by_cases h2 : cs.length = 8
    · rw [if_pos h2] at h; omega
    · rw [if_neg h2] at h
      by_cases h3 : toldE cs f = 0
      · rw [if_pos h3] at h
        by_cases h4 : f.lo = f.hi
        · exact ⟨h1, h2, h3, h4⟩
        · rw [if_neg h4] at h; omega
      · rw [if_neg h3] at h; exact absurd h h3
  · rw [if_neg h1] at h; exact absurd h h1
theorem truth_snoc {lo hi : Int} {cs : List Clm} {P : Int} {ds : List Int} {f : Clm} (h : TruthOk lo hi cs P ds) (h8 : cs.length ≠ 8) (hT : toldE cs f = 0) (hl : f.lo = f.hi) : TruthOk lo hi (cs ++ [f]) P (ds ++ [f.lo]) := by
  refine ⟨est_snoc h.est h8 hT, by simp [h.len], h.pro, fun i c d hc hd => ?_⟩
  rcases Nat.lt_or_ge i cs.length with hi | hi
  · rw [List.getElem?_append_left hi] at hc
    rw [List.getElem?_append_left (by rw [h.len]; exact hi)] at hd
    exact h.cents i c d hc hd
  · have hi2 : i < cs.length + 1 := by have := (List.getElem?_eq_some_iff.1 hc).1; simpa using this
    obtain rfl : i = cs.length := by omega
    rw [List.getElem?_append_right (Nat.le_refl _), Nat.sub_self] at hc
    rw [← h.len, List.getElem?_append_right (Nat.le_refl _), Nat.sub_self] at hd
    simp only [List.getElem?_cons_zero, Option.some.injEq] at hc hd
    subst hc hd
    omega
theorem jl_snoc {cs : List Clm} {ds : List Int} {f : Clm} (h : ds.length = cs.length) (hl : f.lo = f.hi) : jl (cs ++ [f]) (ds ++ [f.lo]) = jlF cs ds f := by
  apply List.ext_getElem?
  intro i
  rcases Nat.lt_or_ge i cs.length with hi | hi
  · obtain ⟨c, hc⟩ : ∃ c, cs[i]? = some c := ⟨_, List.getElem?_eq_getElem hi⟩
    obtain ⟨d, hd⟩ : ∃ d, ds[i]? = some d := ⟨_, List.getElem?_eq_getElem (by omega)⟩
    have h1 := jl_at (ds := ds) hc
    rw [jlF_at h1, jl_at (cs := cs ++ [f]) (c := c) (by rw [List.getElem?_append_left hi]; exact hc)]
    rw [List.getD_eq_getElem?_getD, List.getD_eq_getElem?_getD, List.getElem?_append_left (by omega)]
  · by_cases e : i = cs.length
    · subst e
      rw [jl_at (cs := cs ++ [f]) (c := f) (by rw [List.getElem?_append_right (Nat.le_refl _), Nat.sub_self]; rfl)]
      have e2 : (ds ++ [f.lo]).getD cs.length 0 = f.lo := by
        rw [List.getD_eq_getElem?_getD, ← h, List.getElem?_append_right (Nat.le_refl _), Nat.sub_self]; rfl
      have hj : (jl cs ds).length = cs.length := jl_len cs ds
      unfold jlF
      rw [e2, List.getElem?_append_right (by omega), hj, Nat.sub_self, ← hl]
      rfl
    · rw [List.getElem?_eq_none (by rw [jl_len]; simp; omega), List.getElem?_eq_none (by rw [jlF_len]; omega)]
theorem clms_snoc {cs : List Clm} {f : Clm} (h : ClmsOk cs) (hf : f.name.size ≤ maxLen) : ClmsOk (cs ++ [f]) := by
  intro c hc
  rcases List.mem_append.1 hc with hc | hc
  · exact h c hc
  · rw [List.mem_singleton] at hc
    subst hc
    exact hf
theorem costL_len (cs : List Clm) (P : Int) (ds : List Int) (f : Clm) : (costL cs P ds f).length = cs.length := by
  unfold costL; rw [costTo_len, pays_len, jl_len]
end Go.Proofs.Ytblbbhenmhkknaa

namespace Go.Proofs.Ytblbbhenmhkknaa

def selC (cs : List Clm) (fr : List Nat) : List Clm := fr.map fun j => cs.getD j ⟨⟨#[]⟩, 0, 0, 0⟩
def selI (ds : List Int) (fr : List Nat) : List Int := fr.map fun j => ds.getD j 0
def selG (l : List Cl3) (fr : List Nat) : List Cl3 := fr.map fun j => l.getD j ⟨0, 0, 0⟩

/-- A number put in its place. -/
def putN {α : Type} (l : List α) (k : Nat) (x : α) : List α := l.take k ++ [x] ++ l.drop k
theorem putN_perm {l : List Nat} {i k : Nat} (h : l.Perm (List.range i)) : (putN l k i).Perm (List.range (i + 1)) := by
  unfold putN
  rw [List.range_succ]
  have h1 : (l.take k ++ [i] ++ l.drop k).Perm (i :: (l.take k ++ l.drop k)) := by
    rw [List.append_assoc]
    exact List.perm_middle
  rw [List.take_append_drop] at h1
  exact h1.trans ((h.cons i).trans (List.perm_append_singleton i _).symm)
theorem putN_map {α β : Type} (f : α → β) (l : List α) (k : Nat) (x : α) : putN (l.map f) k (f x) = (putN l k x).map f := by
  unfold putN
  simp [List.map_take, List.map_drop]
theorem putN_len {α : Type} {l : List α} {k : Nat} {x : α} : (putN l k x).length = l.length + 1 := by
  unfold putN
  simp only [List.length_append, List.length_take, List.length_drop, List.length_cons, List.length_nil]
  omega

section
variable {fr : List Nat} {n : Nat}
theorem pm_len (h : fr.Perm (List.range n)) : fr.length = n := by rw [h.length_eq, List.length_range]
theorem pm_lt (h : fr.Perm (List.range n)) {p j : Nat} (hp : fr[p]? = some j) : j < n := by
  have := h.mem_iff.1 (List.mem_of_getElem? hp)
  simpa using this
theorem pm_nodup (h : fr.Perm (List.range n)) : fr.Nodup := h.nodup_iff.2 List.nodup_range
theorem pm_inj (h : fr.Perm (List.range n)) {p q j : Nat} (hp : fr[p]? = some j) (hq : fr[q]? = some j) : p = q := by
  obtain ⟨hpl, hp'⟩ := List.getElem?_eq_some_iff.1 hp
  obtain ⟨hql, hq'⟩ := List.getElem?_eq_some_iff.1 hq
  have hn := List.pairwise_iff_getElem.1 (pm_nodup h)
  rcases Nat.lt_trichotomy p q with hlt | he | hgt
  · exact absurd (hp'.trans hq'.symm) (hn p q hpl hql hlt)
  · exact he
  · exact absurd (hq'.trans hp'.symm) (hn q p hql hpl hgt)
theorem range_getD {α : Type} (l : List α) (d : α) : (List.range l.length).map (fun j => l.getD j d) = l := by
  apply List.ext_getElem?
  intro i
  rw [List.getElem?_map]
  rcases Nat.lt_or_ge i l.length with h | h
  · rw [List.getElem?_range h]
    simp [h]
  · rw [List.getElem?_eq_none (by simpa using h), List.getElem?_eq_none h]; rfl
theorem selC_len (cs : List Clm) : (selC cs fr).length = fr.length := by simp [selC]
theorem selI_len (ds : List Int) : (selI ds fr).length = fr.length := by simp [selI]
theorem selG_len (l : List Cl3) : (selG l fr).length = fr.length := by simp [selG]
theorem selC_at {cs : List Clm} {p j : Nat} {c : Clm} (hp : fr[p]? = some j) (hc : cs[j]? = some c) : (selC cs fr)[p]? = some c := by simp [selC, hp, hc]
theorem selI_at {ds : List Int} {p j : Nat} {c : Int} (hp : fr[p]? = some j) (hc : ds[j]? = some c) : (selI ds fr)[p]? = some c := by simp [selI, hp, hc]
theorem selG_at {l : List Cl3} {p j : Nat} {c : Cl3} (hp : fr[p]? = some j) (hc : l[j]? = some c) : (selG l fr)[p]? = some c := by simp [selG, hp, hc]
theorem selC_mem (cs : List Clm) (h : fr.Perm (List.range cs.length)) {c : Clm} (hc : c ∈ selC cs fr) : c ∈ cs := by
  have := (h.map fun j => cs.getD j ⟨⟨#[]⟩, 0, 0, 0⟩).mem_iff.1 hc
  rwa [range_getD] at this
theorem selG_perm {l : List Cl3} (h : fr.Perm (List.range l.length)) : (selG l fr).Perm l := by
  have := h.map fun j => l.getD j ⟨0, 0, 0⟩
  rwa [range_getD] at this

theorem sumR_perm (f : Cl3 → Int) {l l' : List Cl3} (h : l.Perm l') (r : Int) : sumR f l r = sumR f l' r := by
  unfold sumR
  induction h with
  | nil => rfl
  | cons x _ ih => simp [ih]
  | swap x y l => simp only [List.map_cons, List.sum_cons]; omega
  | trans _ _ ih1 ih2 => rw [ih1, ih2]
theorem sum_perm {l l' : List Int} (h : l.Perm l') : l.sum = l'.sum := by
  induction h with
  | nil => rfl
  | cons x _ ih => simp [ih]
  | swap x y l => simp only [List.sum_cons]; omega
  | trans _ _ ih1 ih2 => rw [ih1, ih2]
theorem upToR_perm {l l' : List Cl3} (h : l.Perm l') : ∀ r, upToR l r = upToR l' r
  | 0 => rfl
  | r + 1 => by unfold upToR; rw [upToR_perm h r, sumR_perm _ h]
theorem payAt_perm {l l' : List Cl3} (h : l.Perm l') (P : Int) (c : Cl3) : payAt l P c = payAt l' P c := by
  unfold payAt
  rw [sumR_perm _ h, upToR_perm h]
theorem pays_sel {l : List Cl3} (h : fr.Perm (List.range l.length)) (P : Int) {p j : Nat} (hp : fr[p]? = some j) : (pays (selG l fr) P)[p]? = (pays l P)[j]? := by
  have hj := pm_lt h hp
  have hc : l[j]? = some l[j] := List.getElem?_eq_getElem hj
  unfold pays
  rw [List.getElem?_map, List.getElem?_map, selG_at hp hc, hc]
  simp only [Option.map_some]
  rw [payAt_perm (selG_perm h)]
theorem pays_sum_sel {l : List Cl3} (h : fr.Perm (List.range l.length)) (P : Int) : (pays (selG l fr) P).sum = (pays l P).sum := by
  unfold pays
  rw [show payAt (selG l fr) P = payAt l P from funext fun c => payAt_perm (selG_perm h) P c]
  exact sum_perm ((selG_perm h).map _)

theorem toldE_mk {l : List Clm} {c : Clm} (h1 : nameB c.name = true) (h2 : taken l c.name = false) (h3 : 1 ≤ c.rank ∧ c.rank ≤ 5) (h4 : 0 ≤ c.lo ∧ c.lo ≤ c.hi ∧ c.hi ≤ 1000000000) : toldE l c = 0 := by
  unfold toldE
  rw [h1, h2]
  have e1 : inB 1 5 c.rank = true := by unfold inB; simp; omega
  have e2 : rangeE 0 1000000000 c.lo c.hi = 0 := by
    unfold rangeE inB
    simp
    omega
  simp [e1, e2]
theorem names_apart {lo hi : Int} {cs : List Clm} (h : EstOk lo hi cs) {i j : Nat} {c d : Clm} (hi : cs[i]? = some c) (hj : cs[j]? = some d) (hne : i ≠ j) : (c.name.toList == d.name.toList) = false := by
  have key : ∀ (i j : Nat) (c d : Clm), cs[i]? = some c → cs[j]? = some d → i < j → (c.name.toList == d.name.toList) = false := by
    intro i j c d hi hj hlt
    have h1 := (toldE_ok (h.told j d hj)).2.1
    unfold taken at h1
    rw [List.any_eq_false] at h1
    have h2 := h1 c (by
      refine List.mem_of_getElem? (i := i) ?_
      rw [List.getElem?_take, if_pos hlt]
      exact hi)
    simpa using h2
  rcases Nat.lt_or_gt_of_ne hne with hlt | hgt
  · exact key i j c d hi hj hlt
  · have := key j i d c hj hi hgt
    simp only [beq_eq_false_iff_ne, ne_eq] at this ⊢
    exact fun e => this e.symm
theorem est_sel {lo hi : Int} {cs : List Clm} (h : estErr lo hi cs = 0) (hp : fr.Perm (List.range cs.length)) : estErr lo hi (selC cs fr) = 0 := by
  have h' := est_ok h
  refine est_mk h'.span (by rw [selC_len, pm_len hp]; exact h'.len) fun i c hi => ?_
  have hil : i < fr.length := by have := (List.getElem?_eq_some_iff.1 hi).1; rwa [selC_len] at this
  obtain ⟨j, hj⟩ : ∃ j, fr[i]? = some j := ⟨_, List.getElem?_eq_getElem hil⟩
  obtain ⟨c', hc'⟩ : ∃ c', cs[j]? = some c' := ⟨_, List.getElem?_eq_getElem (pm_lt hp hj)⟩
  obtain rfl : c' = c := by
    have := selC_at hj hc'
    rw [hi] at this
    injection this with this
    exact this.symm
  have he := h'.each c' (List.mem_of_getElem? hc')
  refine toldE_mk he.1 ?_ ⟨he.2.1, he.2.2.1⟩ he.2.2.2
  unfold taken
  rw [List.any_eq_false]
  intro x hx
  obtain ⟨q, hq⟩ := List.getElem?_of_mem hx
  rw [List.getElem?_take] at hq
  split at hq
  · next hlt =>
    have hql : q < fr.length := by omega
    obtain ⟨k, hk⟩ : ∃ k, fr[q]? = some k := ⟨_, List.getElem?_eq_getElem hql⟩
    obtain ⟨d, hd⟩ : ∃ d, cs[k]? = some d := ⟨_, List.getElem?_eq_getElem (pm_lt hp hk)⟩
    have hxd := selC_at hk hd
    rw [hq] at hxd
    injection hxd with hxd
    subst hxd
    have := names_apart h' hd hc' (fun e => by
      subst e
      have := pm_inj hp hk hj
      omega)
    rw [this]
    simp
  · cases hq
theorem jl_sel {cs : List Clm} {ds : List Int} (hp : fr.Perm (List.range cs.length)) (hl : ds.length = cs.length) : jl (selC cs fr) (selI ds fr) = selG (jl cs ds) fr := by
  apply List.ext_getElem?
  intro p
  rcases Nat.lt_or_ge p fr.length with h | h
  · obtain ⟨j, hj⟩ : ∃ j, fr[p]? = some j := ⟨_, List.getElem?_eq_getElem h⟩
    have hjl := pm_lt hp hj
    have hc : cs[j]? = some cs[j] := List.getElem?_eq_getElem hjl
    have hd : ds[j]? = some (ds[j]'(by omega)) := List.getElem?_eq_getElem (by omega)
    rw [jl_at (selC_at hj hc), selG_at hj (jl_at hc)]
    have e1 : (selI ds fr).getD p 0 = ds.getD j 0 := by
      rw [List.getD_eq_getElem?_getD, selI_at hj hd, List.getD_eq_getElem?_getD, hd]
    rw [e1]
  · rw [List.getElem?_eq_none (by rw [jl_len, selC_len]; exact h), List.getElem?_eq_none (by rw [selG_len]; exact h)]
theorem truth_sel {lo hi : Int} {cs : List Clm} {P : Int} {ds : List Int} (h : TruthOk lo hi cs P ds) (hp : fr.Perm (List.range cs.length)) : truthE lo hi (selC cs fr) P (selI ds fr) = 0 := by
  unfold truthE
  rw [if_pos (est_sel h.est hp), if_pos (by rw [selI_len, selC_len])]
  have h1 : inB lo hi P = true := by unfold inB; simp; exact h.pro
  rw [if_pos h1]
  have h2 : centsOk ((selC cs fr).map c3) (selI ds fr) (selC cs fr).length = true := by
    unfold centsOk
    rw [List.all_eq_true]
    intro p hpm
    have hpl : p < fr.length := by rw [List.mem_range, selC_len] at hpm; exact hpm
    obtain ⟨j, hj⟩ : ∃ j, fr[p]? = some j := ⟨_, List.getElem?_eq_getElem hpl⟩
    have hjl := pm_lt hp hj
    have hc : cs[j]? = some cs[j] := List.getElem?_eq_getElem hjl
    have hd : ds[j]? = some (ds[j]'(by rw [h.len]; exact hjl)) := List.getElem?_eq_getElem (by rw [h.len]; exact hjl)
    rw [List.getElem?_map, selC_at hj hc, selI_at hj hd]
    have := h.cents j _ _ hc hd
    simp only [Option.map_some, c3]
    unfold inB
    simp
    exact this
  rw [if_pos h2]

theorem just_sel {L : List Cl3} (hp : fr.Perm (List.range L.length)) {p j : Nat} (hj : fr[p]? = some j) (g : Cl3 → Int) (h : Cl3 → Int) :
    justL (selG L fr) (fun i => match (selG L fr)[i]? with | some c => if i = p then g c else h c | none => 0) = selG (justL L (fun i => match L[i]? with | some c => if i = j then g c else h c | none => 0)) fr := by
  apply List.ext_getElem?
  intro q
  rcases Nat.lt_or_ge q fr.length with hq | hq
  · obtain ⟨k, hk⟩ : ∃ k, fr[q]? = some k := ⟨_, List.getElem?_eq_getElem hq⟩
    have hkl := pm_lt hp hk
    have hc : L[k]? = some L[k] := List.getElem?_eq_getElem hkl
    have e1 : (justL L (fun i => match L[i]? with | some c => if i = j then g c else h c | none => 0))[k]? = some ⟨L[k].rank, if k = j then g L[k] else h L[k], if k = j then g L[k] else h L[k]⟩ := by
      unfold justL
      rw [List.getElem?_mapIdx, hc]
      simp [hc]
    rw [selG_at hk e1]
    unfold justL
    rw [List.getElem?_mapIdx]
    simp only [selG_at hk hc, Option.map_some]
    have : (q = p) ↔ (k = j) := ⟨fun e => by subst e; rw [hk] at hj; injection hj, fun e => by subst e; exact pm_inj hp hk hj⟩
    by_cases he : k = j
    · rw [if_pos he, if_pos (this.2 he)]
    · rw [if_neg he, if_neg (fun e => he (this.1 e))]
  · rw [List.getElem?_eq_none (by simp [justL, selG]; exact hq), List.getElem?_eq_none (by rw [selG_len]; exact hq)]
theorem just_len (L : List Cl3) (d : Nat → Int) : (justL L d).length = L.length := by simp [justL]
theorem share_sel {L : List Cl3} (hp : fr.Perm (List.range L.length)) {p j : Nat} (hj : fr[p]? = some j) (P : Int) : shareV (selG L fr) (dLo (selG L fr) p) P p = shareV L (dLo L j) P j ∧ shareV (selG L fr) (dHi (selG L fr) p) P p = shareV L (dHi L j) P j := by
  have h1 := just_sel hp hj Cl3.lo Cl3.hi
  have h2 := just_sel hp hj Cl3.hi Cl3.lo
  unfold shareV
  constructor
  · have e : justL (selG L fr) (dLo (selG L fr) p) = selG (justL L (dLo L j)) fr := h1
    rw [e, List.getD_eq_getElem?_getD, List.getD_eq_getElem?_getD, pays_sel (by rw [just_len]; exact hp) P hj]
  · have e : justL (selG L fr) (dHi (selG L fr) p) = selG (justL L (dHi L j)) fr := h2
    rw [e, List.getD_eq_getElem?_getD, List.getD_eq_getElem?_getD, pays_sel (by rw [just_len]; exact hp) P hj]
theorem c3_sel {cs : List Clm} (hp : fr.Perm (List.range cs.length)) : (selC cs fr).map c3 = selG (cs.map c3) fr := by
  apply List.ext_getElem?
  intro q
  rw [List.getElem?_map]
  rcases Nat.lt_or_ge q fr.length with hq | hq
  · obtain ⟨k, hk⟩ : ∃ k, fr[q]? = some k := ⟨_, List.getElem?_eq_getElem hq⟩
    have hkl := pm_lt hp hk
    have hc : cs[k]? = some cs[k] := List.getElem?_eq_getElem hkl
    rw [selC_at hk hc, selG_at hk (c := c3 cs[k]) (by rw [List.getElem?_map, hc]; rfl)]
    rfl
  · rw [List.getElem?_eq_none (by rw [selC_len]; exact hq), List.getElem?_eq_none (by rw [selG_len]; exact hq)]; rfl
theorem ranges_sel (lo hi : Int) {cs : List Clm} (hp : fr.Perm (List.range cs.length)) {p j : Nat} (hj : fr[p]? = some j) : (rangesL lo hi ((selC cs fr).map c3) cs.length)[p]? = (rangesL lo hi (cs.map c3) cs.length)[j]? := by
  have hp' : fr.Perm (List.range (cs.map c3).length) := by rw [List.length_map]; exact hp
  have hpl : p < cs.length := by rw [← pm_len hp]; exact (List.getElem?_eq_some_iff.1 hj).1
  unfold rangesL
  rw [List.getElem?_map, List.getElem?_map, List.getElem?_range hpl, List.getElem?_range (pm_lt hp hj), c3_sel hp]
  simp only [Option.map_some]
  rw [(share_sel hp' hj lo).1, (share_sel hp' hj hi).2]
end
end Go.Proofs.Ytblbbhenmhkknaa
