/- A hull with other parts, joints, sand or winch: when it is right. The plain law of Heaviest. No program is named here. -/
import Derived.Test.YtojgdallodmanaaZc367d5
import Derived.Test.YtojgdallodmanaaZ716ab2
namespace Go.Proofs.Ytojgdallodmanaa

def FreshAll (ns : List ByteArray) : Prop := ∀ i x, ns[i]? = some x → freshE (ns.take i) x = 0
theorem firstBad_iff {f : Nat → Int} {n : Nat} : firstBad f n = none ↔ ∀ i, i < n → f i = 0 := by
  constructor
  · exact firstBad_none
  · intro h
    induction n with
    | zero => rfl
    | succ n ih => exact firstBad_succ (ih fun i hi => h i (by omega)) (h n (by omega))
theorem parts_iff {ps : List Prt} : (∀ i, i < ps.length → partE ps i = 0) ↔ FreshAll (ps.map Prt.name) ∧ PsOk ps := by
  constructor
  · intro h
    have each : ∀ (i : Nat) (p : Prt), ps[i]? = some p → freshE ((ps.take i).map Prt.name) p.name = 0 ∧ rangeE 0 100000 p.lo p.hi = 0 := fun i p hp => by
      have := h i (List.getElem?_eq_some_iff.1 hp).1
      unfold partE at this
      rw [hp] at this
      simp only at this
      split at this
      · exact ⟨by assumption, this⟩
      · exact absurd this (by assumption)
    refine ⟨fun i x hx => ?_, fun p hp => ?_⟩
    · rw [List.getElem?_map] at hx
      cases hp : ps[i]? with
      | none => rw [hp] at hx; cases hx
      | some p =>
        rw [hp] at hx
        simp only [Option.map_some, Option.some.injEq] at hx
        subst hx
        rw [← List.map_take]
        exact (each i p hp).1
    · obtain ⟨i, hi⟩ := List.getElem?_of_mem hp
      exact rangeE_zero_iff.1 (each i p hi).2
  · rintro ⟨h1, h2⟩ i hi
    have hp := List.getElem?_eq_getElem hi
    unfold partE
    rw [hp]
    have hx := h1 i ps[i].name (by rw [List.getElem?_map, hp]; rfl)
    rw [← List.map_take] at hx
    simp only
    rw [if_pos hx]
    exact rangeE_zero_iff.2 (h2 _ (List.getElem_mem hi))
def JointsOk (n : Nat) (js : List (Int × Int)) : Prop := js.length ≤ 12 ∧ ∀ i, i < js.length → jointE n js i = 0
structure HulRight (h : Hul) : Prop where
  n1 : 1 ≤ h.ps.length
  n8 : h.ps.length ≤ 8
  s1 : 1 ≤ h.slo
  s2 : h.slo ≤ h.shi
  s3 : h.shi ≤ 2000
  w1 : 1 ≤ h.winch
  w2 : h.winch ≤ 10000000
  fr : FreshAll (h.ps.map Prt.name)
  ps : PsOk h.ps
  js : JointsOk h.ps.length h.js
theorem check_iff {h : Hul} : (checkE h).2.2 = 0 ↔ HulRight h := by
  constructor
  · intro hc
    have hk := hulOk hc
    have hn1 := hk.n1
    have hn8 := hk.n8
    have hs1 := hk.s1
    have hs2 := hk.s2
    have hs3 := hk.s3
    have hw1 := hk.w1
    have hw2 := hk.w2
    unfold checkE at hc
    rw [if_pos (by unfold inB; have := hk.j12; simp; omega), if_pos (by unfold inB; simp; omega), if_neg (by omega)] at hc
    unfold listsE at hc
    split at hc
    · rename_i i e hf
      exact absurd hc (firstBad_some hf).2.2
    · rename_i hp
      split at hc
      · rename_i i e hf
        exact absurd hc (firstBad_some hf).2.2
      · rename_i hj
        obtain ⟨a, b⟩ := parts_iff.1 (firstBad_iff.1 hp)
        exact ⟨hn1, hn8, hs1, hs2, hs3, hw1, hw2, a, b, hk.j12, firstBad_iff.1 hj⟩
  · intro hr
    have hn1 := hr.n1
    have hn8 := hr.n8
    have hs1 := hr.s1
    have hs2 := hr.s2
    have hs3 := hr.s3
    have hw1 := hr.w1
    have hw2 := hr.w2
    unfold checkE
    rw [if_pos (by unfold inB; have := hr.js.1; simp; omega), if_pos (by unfold inB; simp; omega), if_neg (by omega)]
    unfold listsE
    rw [firstBad_iff.2 (parts_iff.2 ⟨hr.fr, hr.ps⟩)]
    simp only
    rw [firstBad_iff.2 hr.js.2]
/-- A hull with other parts. -/
abbrev withPs (h : Hul) (ps : List Prt) : Hul := ⟨ps, h.js, h.slo, h.shi, h.winch⟩
theorem pre_withPs {h : Hul} {l : List Wgh} {ps : List Prt} (hp : openPre h l = 0) (hn : ps.map Prt.name = h.ps.map Prt.name) (hps : PsOk ps) : openPre (withPs h ps) l = 0 := by
  obtain ⟨h1, h2, h3, h4⟩ := openPre_iff.1 hp
  have hr := check_iff.1 h1
  have hl : ps.length = h.ps.length := by have := congrArg List.length hn; simpa using this
  refine openPre_iff.2 ⟨check_iff.2 ⟨?_, ?_, hr.s1, hr.s2, hr.s3, hr.w1, hr.w2, ?_, hps, ?_⟩, h2, fun x hx => ?_, h4⟩
  · rw [hl]; exact hr.n1
  · rw [hl]; exact hr.n8
  · rw [hn]; exact hr.fr
  · rw [hl]; exact hr.js
  · have := h3 x hx
    unfold OneOk at this ⊢
    rw [hl]
    exact this
theorem tree_withPs {h : Hul} {l : List Wgh} {ps : List Prt} {N : List Nd} (hl : ps.length = h.ps.length) (hN : IsTree h l N) : IsTree (withPs h ps) l N := by
  obtain ⟨X, h1, h2, h3⟩ := hN
  exact ⟨X, by rw [hl]; exact h1, h2, h3⟩

theorem searchF_congr {p q : Nat → Bool} : ∀ (f i j : Nat), (∀ k, k < j → p k = q k) → searchF p f i j = searchF q f i j := by
  intro f
  induction f with
  | zero => intro i j _; rfl
  | succ f ih =>
    intro i j h
    rw [searchF, searchF]
    split
    · rw [h ((i + j) / 2) (by omega)]
      split
      · exact ih _ _ fun k hk => h k (by omega)
      · exact ih _ _ h
    · rfl

section
variable {h : Hul} {l : List Wgh} {N : List Nd} {s : Nat} {M : Int}
theorem more_iff {ps : List Prt} (hp : openPre (withPs h ps) l = 0) (hN : IsTree (withPs h ps) l N) (hs : s < 2 ^ ps.length) : moreF N s M ps = true ↔ Feas (withPs h ps) l ∧ IsMost (withPs h ps) l s M := by
  have hf := feas_iff hp hN s
  have e : (wgh (withPs h ps).ps N s).1.shi = mostV (withPs h ps) N s := rfl
  unfold moreF
  rw [Bool.and_eq_true, decide_eq_true_iff]
  constructor
  · rintro ⟨a, b⟩
    have hF := hf.1 a
    refine ⟨hF, ?_⟩
    have := mostV_is hp hN hF (s := s) hs
    rw [← e] at this
    rw [← b]
    exact this
  · rintro ⟨a, b⟩
    exact ⟨hf.2 a, by rw [← (mostV_is hp hN a (s := s) hs).uniq b, ← e]⟩
theorem set_names {ps : List Prt} {i : Nat} {p : Prt} (hi : ps[i]? = some p) (lo hi' : Int) : (ps.set i ⟨p.name, lo, hi'⟩).map Prt.name = ps.map Prt.name := by
  rw [List.map_set]
  apply List.ext_getElem?
  intro j
  rw [List.getElem?_set]
  split
  · rename_i hij
    subst hij
    rw [List.getElem?_map, hi]
    have := (List.getElem?_eq_some_iff.1 hi).1
    simp [this]
  · rfl
theorem set_psok {ps : List Prt} (hps : PsOk ps) {i : Nat} {p : Prt} {lo hi : Int} (h0 : 0 ≤ lo) (h1 : lo ≤ hi) (h2 : hi ≤ 100000) : PsOk (ps.set i ⟨p.name, lo, hi⟩) := fun q hq => by
  rcases List.mem_or_eq_of_mem_set hq with h | h
  · exact hps q h
  · subst h; exact ⟨h0, h1, h2⟩
/-- The truths of a hull of which one part's range is smaller. -/
theorem truth_set {ps : List Prt} {i : Nat} {p : Prt} (hi : ps[i]? = some p) {lo hi' : Int} (h1 : p.lo ≤ lo) (h2 : hi' ≤ p.hi) (w : Nat → Int) : TruthP (withPs h (ps.set i ⟨p.name, lo, hi'⟩)) l w ↔ TruthP (withPs h ps) l w ∧ lo ≤ w i ∧ w i ≤ hi' := by
  have hil := (List.getElem?_eq_some_iff.1 hi).1
  constructor
  · rintro ⟨a, b⟩
    have hwi := a i ⟨p.name, lo, hi'⟩ (by simp [hil])
    refine ⟨⟨fun j q hq => ?_, b⟩, hwi⟩
    by_cases hij : i = j
    · subst hij
      have hq' : ps[i]? = some q := hq
      rw [hi] at hq'
      injection hq' with hq'
      subst hq'
      simp only at hwi
      omega
    · exact a j q (by simp only; rw [List.getElem?_set_ne hij]; exact hq)
  · rintro ⟨⟨a, b⟩, c⟩
    refine ⟨fun j q hq => ?_, b⟩
    simp only at hq
    by_cases hij : i = j
    · subst hij
      rw [List.getElem?_set] at hq
      simp only [if_true, if_pos hil, Option.some.injEq] at hq
      subst hq
      exact c
    · rw [List.getElem?_set_ne hij] at hq
      exact a j q hq
structure LimInv (h : Hul) (l : List Wgh) (s : Nat) (M : Int) (ps : List Prt) : Prop where
  names : ps.map Prt.name = h.ps.map Prt.name
  ok : PsOk ps
  most : IsMost (withPs h ps) l s M
  inn : ∀ w, TruthP (withPs h ps) l w → TruthP h l w
theorem LimInv.len {ps : List Prt} (H : LimInv h l s M ps) : ps.length = h.ps.length := by have := congrArg List.length H.names; simpa using this
theorem LimInv.step {ps : List Prt} (H : LimInv h l s M ps) (hp : openPre h l = 0) (hN : IsTree h l N) (hs : s < 2 ^ h.ps.length) {i : Nat} {p : Prt} (hi : ps[i]? = some p) : p.lo ≤ limV N s M ps i ∧ limV N s M ps i ≤ p.hi ∧ LimInv h l s M (limStep ps i (limV N s M ps i)) := by
  have hpo := H.ok p (List.mem_of_getElem? hi)
  have hlen := H.len
  have hv : limV N s M ps i = p.lo + searchF (fun k => moreF N s M (ps.set i ⟨p.name, p.lo, p.lo + k⟩)) ((p.hi - p.lo).toNat + 1) 0 (p.hi - p.lo).toNat := by unfold limV; rw [hi]
  have hst : limStep ps i (limV N s M ps i) = ps.set i ⟨p.name, limV N s M ps i, limV N s M ps i⟩ := by unfold limStep; rw [hi]
  have each : ∀ k : Nat, p.lo + k ≤ p.hi → (moreF N s M (ps.set i ⟨p.name, p.lo, p.lo + k⟩) = true ↔ ∃ w, TruthP (withPs h ps) l w ∧ w i ≤ p.lo + k ∧ sumS w s = M) := fun k hk => by
    have hpre := pre_withPs (ps := ps.set i ⟨p.name, p.lo, p.lo + k⟩) hp (by rw [set_names hi, H.names]) (set_psok H.ok hpo.1 (by omega) (by omega))
    have htr := tree_withPs (ps := ps.set i ⟨p.name, p.lo, p.lo + k⟩) (by rw [List.length_set, hlen]) hN
    have hm := more_iff (M := M) hpre htr (s := s) (by rw [List.length_set, hlen]; exact hs)
    rw [hm]
    constructor
    · rintro ⟨_, _, w, hw, hws⟩
      obtain ⟨a, b⟩ := (truth_set hi (Int.le_refl _) hk w).1 hw
      exact ⟨w, a, b.2, hws⟩
    · rintro ⟨w, hw, hwi, hws⟩
      have hlo : p.lo ≤ w i := (hw.1 i p hi).1
      have hw' := (truth_set hi (Int.le_refl _) hk w).2 ⟨hw, hlo, hwi⟩
      exact ⟨⟨w, hw'⟩, fun w2 hw2 => H.most.1 w2 ((truth_set hi (Int.le_refl _) hk w2).1 hw2).1, w, hw', hws⟩
  obtain ⟨D, hD⟩ : ∃ D : Nat, (p.hi - p.lo).toNat = D := ⟨_, rfl⟩
  rw [hD] at hv
  have hDh : p.lo + (D : Int) = p.hi := by omega
  have hcg := searchF_congr (p := fun k => moreF N s M (ps.set i ⟨p.name, p.lo, p.lo + k⟩)) (q := fun k => decide (D ≤ k) || moreF N s M (ps.set i ⟨p.name, p.lo, p.lo + k⟩)) (D + 1) 0 D (fun k hk => by simp; omega)
  rw [hcg] at hv
  have htop : moreF N s M (ps.set i ⟨p.name, p.lo, p.lo + D⟩) = true := (each D (by omega)).2 (by
    obtain ⟨_, w, hw, hws⟩ := H.most
    exact ⟨w, hw, by have := (hw.1 i p hi).2; omega, hws⟩)
  have hsl := searchF_least (pred := fun k => decide (D ≤ k) || moreF N s M (ps.set i ⟨p.name, p.lo, p.lo + k⟩)) (fun a b hab ha => by
    simp only [Bool.or_eq_true, decide_eq_true_iff] at ha ⊢
    by_cases hb : D ≤ b
    · exact .inl hb
    · refine .inr ((each b (by omega)).2 ?_)
      rcases ha with ha | ha
      · omega
      · obtain ⟨w, h1, h2, h3⟩ := (each a (by omega)).1 ha
        exact ⟨w, h1, by omega, h3⟩) (D + 1) 0 D (Nat.zero_le _) (by omega) (fun k hk => by omega)
  obtain ⟨K, hK⟩ : ∃ K, searchF (fun k => decide (D ≤ k) || moreF N s M (ps.set i ⟨p.name, p.lo, p.lo + k⟩)) (D + 1) 0 D = K := ⟨_, rfl⟩
  rw [hK] at hv hsl
  obtain ⟨_, k1, k2, k3⟩ := hsl
  have hKt : moreF N s M (ps.set i ⟨p.name, p.lo, p.lo + K⟩) = true := by
    by_cases hKD : K < D
    · have := k3 hKD
      simp only [Bool.or_eq_true, decide_eq_true_iff] at this
      rcases this with h | h
      · omega
      · exact h
    · obtain rfl : K = D := by omega
      exact htop
  obtain ⟨w, hw, hwi, hws⟩ := (each K (by omega)).1 hKt
  have hwl : p.lo ≤ w i := (hw.1 i p hi).1
  have hweq : w i = p.lo + K := by
    rcases Int.lt_or_le (w i) (p.lo + K) with hlt | hge
    · have hk2 := k2 (w i - p.lo).toNat (by omega)
      simp only [Bool.or_eq_false_iff] at hk2
      have := (each (w i - p.lo).toNat (by omega)).2 ⟨w, hw, by omega, hws⟩
      rw [this] at hk2
      exact absurd hk2.2 (by simp)
    · omega
  rw [hst, hv]
  refine ⟨by omega, by omega, ⟨by rw [set_names hi, H.names], set_psok H.ok (by omega) (Int.le_refl _) (by omega), ?_, fun w2 hw2 => H.inn w2 ((truth_set hi (by omega) (by omega) w2).1 hw2).1⟩⟩
  refine ⟨fun w2 hw2 => H.most.1 w2 ((truth_set hi (by omega) (by omega) w2).1 hw2).1, w, (truth_set hi (by omega) (by omega) w).2 ⟨hw, by omega, by omega⟩, hws⟩
theorem LimInv.step_le {ps : List Prt} (H : LimInv h l s M ps) (hp : openPre h l = 0) (hN : IsTree h l N) (hs : s < 2 ^ h.ps.length) {i : Nat} {p : Prt} (hi : ps[i]? = some p) {v : Int} (hv : ∃ w, TruthP (withPs h ps) l w ∧ sumS w s = M ∧ w i = v) : limV N s M ps i ≤ v := by
  obtain ⟨u, hu, hus, huv⟩ := hv
  have hul := (hu.1 i p hi).1
  have huh := (hu.1 i p hi).2
  have hpo := H.ok p (List.mem_of_getElem? hi)
  have hlen := H.len
  have hv : limV N s M ps i = p.lo + searchF (fun k => moreF N s M (ps.set i ⟨p.name, p.lo, p.lo + k⟩)) ((p.hi - p.lo).toNat + 1) 0 (p.hi - p.lo).toNat := by unfold limV; rw [hi]
  have each : ∀ k : Nat, p.lo + k ≤ p.hi → (moreF N s M (ps.set i ⟨p.name, p.lo, p.lo + k⟩) = true ↔ ∃ w, TruthP (withPs h ps) l w ∧ w i ≤ p.lo + k ∧ sumS w s = M) := fun k hk => by
    have hpre := pre_withPs (ps := ps.set i ⟨p.name, p.lo, p.lo + k⟩) hp (by rw [set_names hi, H.names]) (set_psok H.ok hpo.1 (by omega) (by omega))
    have htr := tree_withPs (ps := ps.set i ⟨p.name, p.lo, p.lo + k⟩) (by rw [List.length_set, hlen]) hN
    have hm := more_iff (M := M) hpre htr (s := s) (by rw [List.length_set, hlen]; exact hs)
    rw [hm]
    constructor
    · rintro ⟨_, _, w, hw, hws⟩
      obtain ⟨a, b⟩ := (truth_set hi (Int.le_refl _) hk w).1 hw
      exact ⟨w, a, b.2, hws⟩
    · rintro ⟨w, hw, hwi, hws⟩
      have hlo : p.lo ≤ w i := (hw.1 i p hi).1
      have hw' := (truth_set hi (Int.le_refl _) hk w).2 ⟨hw, hlo, hwi⟩
      exact ⟨⟨w, hw'⟩, fun w2 hw2 => H.most.1 w2 ((truth_set hi (Int.le_refl _) hk w2).1 hw2).1, w, hw', hws⟩
  obtain ⟨D, hD⟩ : ∃ D : Nat, (p.hi - p.lo).toNat = D := ⟨_, rfl⟩
  rw [hD] at hv
  have hDh : p.lo + (D : Int) = p.hi := by omega
  have hcg := searchF_congr (p := fun k => moreF N s M (ps.set i ⟨p.name, p.lo, p.lo + k⟩)) (q := fun k => decide (D ≤ k) || moreF N s M (ps.set i ⟨p.name, p.lo, p.lo + k⟩)) (D + 1) 0 D (fun k hk => by simp; omega)
  rw [hcg] at hv
  have _htop : moreF N s M (ps.set i ⟨p.name, p.lo, p.lo + D⟩) = true := (each D (by omega)).2 (by
    obtain ⟨_, w, hw, hws⟩ := H.most
    exact ⟨w, hw, by have := (hw.1 i p hi).2; omega, hws⟩)
  have hsl := searchF_least (pred := fun k => decide (D ≤ k) || moreF N s M (ps.set i ⟨p.name, p.lo, p.lo + k⟩)) (fun a b hab ha => by
    simp only [Bool.or_eq_true, decide_eq_true_iff] at ha ⊢
    by_cases hb : D ≤ b
    · exact .inl hb
    · refine .inr ((each b (by omega)).2 ?_)
      rcases ha with ha | ha
      · omega
      · obtain ⟨w, h1, h2, h3⟩ := (each a (by omega)).1 ha
        exact ⟨w, h1, by omega, h3⟩) (D + 1) 0 D (Nat.zero_le _) (by omega) (fun k hk => by omega)
  obtain ⟨K, hK⟩ : ∃ K, searchF (fun k => decide (D ≤ k) || moreF N s M (ps.set i ⟨p.name, p.lo, p.lo + k⟩)) (D + 1) 0 D = K := ⟨_, rfl⟩
  rw [hK] at hv hsl
  obtain ⟨_, _, k2, _⟩ := hsl
  rw [hv]
  rcases Int.lt_or_le v (p.lo + K) with hlt | hge
  · have hk2 := k2 (u i - p.lo).toNat (by omega)
    simp only [Bool.or_eq_false_iff] at hk2
    have := (each (u i - p.lo).toNat (by omega)).2 ⟨u, hu, by omega, hus⟩
    rw [this] at hk2
    exact absurd hk2.2 (by simp)
  · exact hge
/-- The weights of Heaviest are those of a truth, in which the block is as heavy as it can be. -/
theorem limL_truth (hp : openPre h l = 0) (hN : IsTree h l N) (hs : s < 2 ^ h.ps.length) (hM : IsMost h l s M) : ∃ W, TruthP h l W ∧ sumS W s = M ∧ limL N s M h.ps h.ps.length = (List.range h.ps.length).map W := by
  have hps : withPs h h.ps = h := rfl
  have hk := hulOk (openPre_zero hp).1
  have main : ∀ k, k ≤ h.ps.length → LimInv h l s M (limTo N s M h.ps k) ∧ ∀ j p, j < k → (limTo N s M h.ps k)[j]? = some p → p.lo = limV N s M (limTo N s M h.ps j) j ∧ p.hi = p.lo := by
    intro k
    induction k with
    | zero => intro _; exact ⟨⟨rfl, hk.ps, hM, fun w hw => hw⟩, fun j p hj => by omega⟩
    | succ k ih =>
      intro hkn
      obtain ⟨i1, i2⟩ := ih (by omega)
      have hlen := i1.len
      obtain ⟨p, hpk⟩ : ∃ p, (limTo N s M h.ps k)[k]? = some p := ⟨_, List.getElem?_eq_getElem (show k < (limTo N s M h.ps k).length by omega)⟩
      obtain ⟨_, _, a3⟩ := i1.step hp hN hs hpk
      refine ⟨a3, fun j q hj hq => ?_⟩
      have e : limTo N s M h.ps (k + 1) = (limTo N s M h.ps k).set k ⟨p.name, limV N s M (limTo N s M h.ps k) k, limV N s M (limTo N s M h.ps k) k⟩ := by
        show limStep _ _ _ = _
        unfold limStep
        rw [hpk]
      rw [e, List.getElem?_set] at hq
      split at hq
      · rename_i hkj
        subst hkj
        rw [if_pos (by omega)] at hq
        injection hq with hq
        subst hq
        exact ⟨rfl, rfl⟩
      · exact i2 j q (by omega) hq
  obtain ⟨m1, m2⟩ := main _ (Nat.le_refl _)
  obtain ⟨_, w, hw, hws⟩ := m1.most
  refine ⟨w, m1.inn w hw, hws, ?_⟩
  unfold limL
  apply List.map_congr_left
  intro i hi
  have hil : i < h.ps.length := by simpa using hi
  have hlen := m1.len
  have hq := List.getElem?_eq_getElem (show i < (limTo N s M h.ps h.ps.length).length by omega)
  obtain ⟨a, b⟩ := m2 i _ hil hq
  have := hw.1 i _ hq
  omega
end
end Go.Proofs.Ytojgdallodmanaa
