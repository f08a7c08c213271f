/- claim.Cost. -/
import Derived.Deep.RegionHeld3
import Derived.Deep.AppendLies
import Derived.StillTailTactics
import Derived.Test.YtblbbhenmhkknaaW26
import Derived.Test.YtblbbhenmhkknaaW29
namespace Go.Proofs.Ytblbbhenmhkknaa
open Go.RowKit

theorem told_own {w : World} {base g cap : Nat} {cs : List Clm} {f : Clm} (hown : w.ownsRow base 46 4 (.slice (some ⟨g, 0, none⟩) (cs.length + 1) cap) (cs.length + 1) (cs.flatMap encClm ++ [.string f.name, iv f.rank, iv f.lo, iv f.hi])) (hs : f.name.size ≤ maxLen) :
    Calls Try.prog 70 #[.slice (some ⟨g, 0, none⟩) (cs.length + 1) cap] w fun e w' => e = .returned (iv (toldE cs f)) ∧ Below w.heap.size w w' := by
  have e : cs.flatMap encClm ++ [.string f.name, iv f.rank, iv f.lo, iv f.hi] = (cs ++ [f]).flatMap encClm := by rw [List.flatMap_append]; rfl
  have hl : (cs ++ [f]).length = cs.length + 1 := by simp
  rw [e, ← hl] at hown
  obtain ⟨A, cap2, e2, hrd, _, hc1, hc2⟩ := own_rdN enc4_len hown
  injection e2 with e21 e22 e23
  subst e21 e23
  have h := told_any (some ⟨g, 0, none⟩) (cs ++ [f]) cs.length f w.heap.size cap w (by rw [hl] at hc1; exact hc1) hc2 (by simp) hs hrd (Nat.le_refl _)
  have ht : (cs ++ [f]).take cs.length = cs := by simp
  rw [ht] at h
  exact h

/-- The error of a further claim. -/
def furtherE (lo hi : Int) (cs : List Clm) (P : Int) (ds : List Int) (f : Clm) : Int :=
  if truthE lo hi cs P ds = 0 then (if cs.length = 8 then 3 else (if toldE cs f = 0 then (if f.lo = f.hi then 0 else 2) else toldE cs f)) else truthE lo hi cs P ds
/-- The claims with the further one. -/
def jlF (cs : List Clm) (ds : List Int) (f : Clm) : List Cl3 := jl cs ds ++ [⟨f.rank, f.lo, f.hi⟩]
/-- What each claim of a list gets less, behind the first k. -/
def costTo (a b : List Int) (k : Nat) : List Int := a.mapIdx fun i x => if i < k then x - b.getD i 0 else x
theorem costTo_len (a b : List Int) (k : Nat) : (costTo a b k).length = a.length := by simp [costTo]
theorem costTo_zero (a b : List Int) : costTo a b 0 = a := by
  unfold costTo
  apply List.ext_getElem?
  intro i
  simp [List.getElem?_mapIdx]
theorem costTo_at {a b : List Int} {k : Nat} {x : Int} (h : a[k]? = some x) : (costTo a b k)[k]? = some x := by
  simp [costTo, List.getElem?_mapIdx, h]
theorem costTo_succ {a b : List Int} {k : Nat} {x y : Int} (h : a[k]? = some x) (h2 : b[k]? = some y) : costTo a b (k + 1) = (costTo a b k).set k (x - y) := by
  apply List.ext_getElem?
  intro i
  have hk := (List.getElem?_eq_some_iff.1 h).1
  by_cases e : k = i
  · subst e
    rw [List.getElem?_set_self (by rw [costTo_len]; exact hk)]
    simp [costTo, List.getElem?_mapIdx, h, List.getD_eq_getElem?_getD, h2]
  · rw [List.getElem?_set_ne e]
    simp only [costTo, List.getElem?_mapIdx]
    cases a[i]? with
    | none => rfl
    | some z =>
      simp only [Option.map_some]
      by_cases h3 : i < k
      · rw [if_pos h3, if_pos (by omega)]
      · rw [if_neg h3, if_neg (by omega)]
/-- What the others lose. -/
def costL (cs : List Clm) (P : Int) (ds : List Int) (f : Clm) : List Int := costTo (pays (jl cs ds) P) (pays (jlF cs ds f) P) cs.length

def CostYes (cs : List Clm) (P : Int) (ds : List Int) (f : Clm) (w : World) (e : Ending) (w' : World) : Prop :=
  ∃ A cap, e = .returned (.tuple #[.slice A cs.length cap, iv 0]) ∧ w'.ownsRow w.heap.size 3 1 (.slice A cs.length cap) cs.length ((costL cs P ds f).map iv) ∧ Below w.heap.size w w'

set_option maxRecDepth 100000 in
set_option maxHeartbeats 4000000 in
theorem cost_bad (lo hi : Int) (A D : Option Addr) (cs : List Clm) (B cap capD : Nat) (P : Int) (ds : List Int) (f : Clm) (w : World) (hm : cs.length ≤ cap) (hcm : cap ≤ maxLen) (hok : ClmsOk cs) (hR : RdN 4 encClm w B A cs) (hB : B ≤ w.heap.size) (hD : Rd1 iv w B D ds) (hE : truthE lo hi cs P ds ≠ 0) :
    Calls Try.prog 30 #[.agg #[.int .i64 lo, .int .i64 hi, .slice A cs.length cap], .agg #[.int .i64 P, .slice D ds.length capD], .agg #[.string f.name, .int .i64 f.rank, .int .i64 f.lo, .int .i64 f.hi]] w (TruthNo (truthE lo hi cs P ds) w) := by
  have hb0 : Below w.heap.size w _ := belowA (belowA (belowA (belowR w) (.cells #[.int .i64 lo, .int .i64 hi, .slice A cs.length cap] 42)) (.cells #[.int .i64 P, .slice D ds.length capD] 44)) (.cells #[.string f.name, .int .i64 f.rank, .int .i64 f.lo, .int .i64 f.hi] 46)
  have hop := truth_no lo hi A D cs B cap capD P ds (((w.alloc (.cells #[.int .i64 lo, .int .i64 hi, .slice A cs.length cap] 42)).alloc (.cells #[.int .i64 P, .slice D ds.length capD] 44)).alloc (.cells #[.string f.name, .int .i64 f.rank, .int .i64 f.lo, .int .i64 f.hi] 46)) hm hcm hok (hR.below hb0 hB) (Nat.le_trans hB hb0.size) (hD.below hb0 hB) hE
  obtain ⟨E, hEE⟩ : ∃ E, truthE lo hi cs P ds = E := ⟨_, rfl⟩
  rw [hEE] at hE hop ⊢
  have hne : (E != 0) = true := by simpa using hE
  have HOP := Lib.hid hop
  clear hop hEE hE
  go_enter Try.func30, Try.ntmps30
  go_wp2_with fail
  refine HOP.out.mono ?_
  rintro e w1 ⟨rfl, hb⟩
  have hB1 := belowT hb0 hb
  clear hb hb0
  go_wp2
  refine bodyPost_ret (results_tmp2 rfl _ _ _) rfl ?_
  exact ⟨rfl, hB1⟩

set_option maxRecDepth 100000 in
set_option maxHeartbeats 4000000 in
theorem cost_eight (lo hi : Int) (A D : Option Addr) (cs : List Clm) (B cap capD : Nat) (P : Int) (ds : List Int) (f : Clm) (w : World) (hm : cs.length ≤ cap) (hcm : cap ≤ maxLen) (hok : ClmsOk cs) (hR : RdN 4 encClm w B A cs) (hB : B ≤ w.heap.size) (hD : Rd1 iv w B D ds) (hE : truthE lo hi cs P ds = 0) (h8 : cs.length = 8) :
    Calls Try.prog 30 #[.agg #[.int .i64 lo, .int .i64 hi, .slice A cs.length cap], .agg #[.int .i64 P, .slice D ds.length capD], .agg #[.string f.name, .int .i64 f.rank, .int .i64 f.lo, .int .i64 f.hi]] w (TruthNo 3 w) := by
  have hb0 : Below w.heap.size w _ := belowA (belowA (belowA (belowR w) (.cells #[.int .i64 lo, .int .i64 hi, .slice A cs.length cap] 42)) (.cells #[.int .i64 P, .slice D ds.length capD] 44)) (.cells #[.string f.name, .int .i64 f.rank, .int .i64 f.lo, .int .i64 f.hi] 46)
  have hop := truth_yes lo hi A D cs B cap capD P ds (((w.alloc (.cells #[.int .i64 lo, .int .i64 hi, .slice A cs.length cap] 42)).alloc (.cells #[.int .i64 P, .slice D ds.length capD] 44)).alloc (.cells #[.string f.name, .int .i64 f.rank, .int .i64 f.lo, .int .i64 f.hi] 46)) hm hcm hok (hR.below hb0 hB) (Nat.le_trans hB hb0.size) (hD.below hb0 hB) hE
  have HOP := Lib.hid hop
  clear hop
  have h8b : ((cs.length : Int) == 8) = true := beq_iff_eq.2 (by omega)
  clear h8 hE
  go_enter Try.func30, Try.ntmps30
  go_wp2_with fail
  refine HOP.out.mono ?_
  rintro e w1 ⟨A1, cap1, rfl, hown, hb⟩
  have hB1 := belowT hb0 hb
  clear hb hb0
  go_wp2
  refine bodyPost_ret (results_tmp2 rfl _ _ _) rfl ?_
  exact ⟨rfl, hB1⟩

set_option maxRecDepth 100000 in
set_option maxHeartbeats 4000000 in
theorem cost_told (lo hi : Int) (A D : Option Addr) (cs : List Clm) (B cap capD : Nat) (P : Int) (ds : List Int) (f : Clm) (w : World) (hm : cs.length ≤ cap) (hcm : cap ≤ maxLen) (hok : ClmsOk cs) (hfs : f.name.size ≤ maxLen) (hR : RdN 4 encClm w B A cs) (hB : B ≤ w.heap.size) (hD : Rd1 iv w B D ds) (hE : truthE lo hi cs P ds = 0) (h8 : cs.length ≠ 8) (h3 : toldE cs f ≠ 0) :
    Calls Try.prog 30 #[.agg #[.int .i64 lo, .int .i64 hi, .slice A cs.length cap], .agg #[.int .i64 P, .slice D ds.length capD], .agg #[.string f.name, .int .i64 f.rank, .int .i64 f.lo, .int .i64 f.hi]] w (TruthNo (toldE cs f) w) := by
  have hb0 : Below w.heap.size w _ := belowA (belowA (belowA (belowR w) (.cells #[.int .i64 lo, .int .i64 hi, .slice A cs.length cap] 42)) (.cells #[.int .i64 P, .slice D ds.length capD] 44)) (.cells #[.string f.name, .int .i64 f.rank, .int .i64 f.lo, .int .i64 f.hi] 46)
  have hop := truth_yes lo hi A D cs B cap capD P ds (((w.alloc (.cells #[.int .i64 lo, .int .i64 hi, .slice A cs.length cap] 42)).alloc (.cells #[.int .i64 P, .slice D ds.length capD] 44)).alloc (.cells #[.string f.name, .int .i64 f.rank, .int .i64 f.lo, .int .i64 f.hi] 46)) hm hcm hok (hR.below hb0 hB) (Nat.le_trans hB hb0.size) (hD.below hb0 hB) hE
  have HOP := Lib.hid hop
  clear hop
  have h8b : ((cs.length : Int) == 8) = false := beq_eq_false_iff_ne.2 (by omega)
  obtain ⟨htr, _, _⟩ := truthE_ok hE
  have hest := est_ok htr.est
  have hl1 := hest.len.1
  have hl7 : cs.length ≤ 7 := by have := hest.len.2; omega
  have hk9 : cs.length + 1 ≤ maxLen := by unfold maxLen; omega
  have hk40 : (cs.length + 1) * 40 ≤ 140737488355328 := by omega
  have hk24 : (cs.length + 1) * 24 ≤ 140737488355328 := by omega
  obtain ⟨i4, hi4, hz40, hz41, hz42⟩ := info_parts Try.info46
  obtain ⟨T, hT⟩ : ∃ T, toldE cs f = T := ⟨_, rfl⟩
  rw [hT] at h3 ⊢
  have hne : (T != 0) = true := by simpa using h3
  have HTOLD := Lib.hid hT
  clear hT h3
  obtain ⟨name, rank, flo, fhi⟩ := f
  simp only at *
  have HTR := Lib.hid htr
  clear h8 hE htr hest
  go_enter Try.func30, Try.ntmps30
  go_wp2_with fail
  refine HOP.out.mono ?_
  rintro e w1 ⟨A1, cap1, rfl, hown, hb⟩
  have hB1 := belowT hb0 hb
  have r2 : w1.cell? ⟨w.heap.size, 2, none⟩ = some (.slice A cs.length cap) := keepC hb (by go_simp)
  have t0 : w1.cell? ⟨w.heap.size + 1, 0, none⟩ = some (.int .i64 P) := keepC hb (by go_simp)
  have f0 : w1.cell? ⟨w.heap.size + 1 + 1, 0, none⟩ = some (.string name) := keepC hb (by go_simp)
  have f1 : w1.cell? ⟨w.heap.size + 1 + 1, 1, none⟩ = some (.int .i64 rank) := keepC hb (by go_simp)
  have f2 : w1.cell? ⟨w.heap.size + 1 + 1, 2, none⟩ = some (.int .i64 flo) := keepC hb (by go_simp)
  have f3 : w1.cell? ⟨w.heap.size + 1 + 1, 3, none⟩ = some (.int .i64 fhi) := keepC hb (by go_simp)
  have hlt2 : w.heap.size + 1 + 1 < w1.heap.size := lt_of_cell f0
  have hq : ∀ W' : World, (∀ b o v, b < w1.heap.size → w1.cell? ⟨b, o, none⟩ = some v → W'.cell? ⟨b, o, none⟩ = some v) → (W'.cell? ⟨w.heap.size, 2, none⟩ = some (.slice A cs.length cap) ∧ W'.cell? ⟨w.heap.size + 1 + 1, 0, none⟩ = some (.string name) ∧ W'.cell? ⟨w.heap.size + 1 + 1, 1, none⟩ = some (.int .i64 rank) ∧ W'.cell? ⟨w.heap.size + 1 + 1, 2, none⟩ = some (.int .i64 flo) ∧ W'.cell? ⟨w.heap.size + 1 + 1, 3, none⟩ = some (.int .i64 fhi)) := fun W' h => ⟨h _ _ _ (by omega) r2, h _ _ _ (by omega) f0, h _ _ _ (by omega) f1, h _ _ _ (by omega) f2, h _ _ _ (by omega) f3⟩
  have HQ := Lib.hid hq
  have hR1 := (hR.below hB1 hB)
  have hz1 := hB1.size
  have HC1 := Lib.hid (clone4_any A cs B cap w1.drew hl1 (by omega) (hR1.keep (fun _ _ => rfl)))
  have HC2 := Lib.hid (clone4_any A cs B cap (w1.alloc (.cells #[.string name, .int .i64 rank, .int .i64 flo, .int .i64 fhi] 46)).drew hl1 (by omega) ((hR1.alloc (Nat.le_trans hB hz1) (.cells #[.string name, .int .i64 rank, .int .i64 flo, .int .i64 fhi] 46)).keep (fun _ _ => rfl)))
  have HOWN : Hid (w1.ownsRow (w.heap.size + 1 + 1 + 1) 125 3 (.slice A1 cs.length cap1) cs.length ((jl cs ds).flatMap encC3)) := Lib.hid (by have := hown; simp only [World.size_alloc] at this; exact this)
  have HB1 := Lib.hid hB1
  have HT0 := Lib.hid t0
  have HF := Lib.hid (And.intro f1 (And.intro f2 f3))
  clear hb hb0 hq hR hD hown hR1 HOP t0 hB1
  go_wp2
  have HNB : Hid (∀ W, Below (w1.alloc (.cells #[.string name, .int .i64 rank, .int .i64 flo, .int .i64 fhi] 46)).drew.heap.size (w1.alloc (.cells #[.string name, .int .i64 rank, .int .i64 flo, .int .i64 fhi] 46)).drew W → ∀ j u, ([.string name, .int .i64 rank, .int .i64 flo, .int .i64 fhi] : List Value)[j]? = some u → W.cell? ((⟨w1.heap.size, 0, none⟩ : Addr).add j) = some u) := Lib.hid (fun W hb j u hu => by
    have h1 := cells4_new w1 (.string name) (.int .i64 rank) (.int .i64 flo) (.int .i64 fhi) 46 j u hu
    have h2 : ((⟨w1.heap.size, 0, none⟩ : Addr).add j) = ⟨w1.heap.size, j, none⟩ := by
      rcases Nat.eq_zero_or_pos j with rfl | hj
      · rfl
      · unfold Addr.add; rw [if_neg (by omega)]; simp
    rw [h2] at h1 ⊢
    exact keepC hb h1)
  go_region_held3 (fun w' => w'.cell? ⟨w.heap.size, 2, none⟩ = some (.slice A cs.length cap) ∧ w'.cell? ⟨w.heap.size + 1 + 1, 0, none⟩ = some (.string name) ∧ w'.cell? ⟨w.heap.size + 1 + 1, 1, none⟩ = some (.int .i64 rank) ∧ w'.cell? ⟨w.heap.size + 1 + 1, 2, none⟩ = some (.int .i64 flo) ∧ w'.cell? ⟨w.heap.size + 1 + 1, 3, none⟩ = some (.int .i64 fhi)) (first | exact HQ.out _ (fun _ _ _ _ h => keepC hB6 h) | exact HQ.out _ (fun _ _ _ _ h => keepC hB5 h) | exact HQ.out _ (fun _ _ _ _ h => keepA (keepC hb3 h) _) | exact HQ.out _ (fun _ _ _ _ h => keepC hb3 (keepA h _)) | exact HQ.out _ (fun _ _ _ _ h => keepC hb3 h) | exact HQ.out _ (fun _ _ _ _ h => keepA h _) | exact HQ.out _ (fun _ _ _ _ h => h)) (first | (have hownA := hown3A.alloc (.cells #[.string name, .int .i64 rank, .int .i64 flo, .int .i64 fhi] 46); have hbA : Below w1.heap.size w1 _ := belowA (undrew0 hb3) (.cells #[.string name, .int .i64 rank, .int .i64 flo, .int .i64 fhi] 46); refine step_append_lies _ (by rfl) _ _ _ (by rfl) w1.heap.size 46 i4 _ 4 40 Try.underlying40 hi4 hz40 hz41 hz42 rfl (by omega) _ cs.length _ (by rfl) hownA ⟨w3.heap.size, 0, none⟩ 1 1 [.string name, .int .i64 rank, .int .i64 flo, .int .i64 fhi] (by rfl) (by rfl) (World.news_of_block (cs := #[.string name, .int .i64 rank, .int .i64 flo, .int .i64 fhi]) (t := 46) (fr := (0, 0)) (heap_alloc_new w3 _)) (by simp [Value.oneCell']) (by omega) hk9 hk40 hbA.size _ rfl ?_; intro gg cap9 w5 hown5 hgrow hat hlt5; have hB5 : Below w1.heap.size w1 w5 := grownB hownA hgrow (Nat.le_refl _) hbA) | (have hownA := hown3B; have hbA : Below w1.heap.size w1 _ := belowT (belowA (belowR _) (.cells #[.string name, .int .i64 rank, .int .i64 flo, .int .i64 fhi] 46)) (undrew0 hb3); refine step_append_lies _ (by rfl) _ _ _ (by rfl) w1.heap.size 46 i4 _ 4 40 Try.underlying40 hi4 hz40 hz41 hz42 rfl (by omega) _ cs.length _ (by rfl) hownA ⟨w1.heap.size, 0, none⟩ 1 1 [.string name, .int .i64 rank, .int .i64 flo, .int .i64 fhi] (by rfl) (by rfl) (HNB.out w3 hb3) (by simp [Value.oneCell']) (by omega) hk9 hk40 hbA.size _ rfl ?_; intro gg cap9 w5 hown5 hgrow hat hlt5; have hB5 : Below w1.heap.size w1 w5 := grownB hownA hgrow (Nat.le_refl _) hbA) | (go_at_call 77; ((with_reducible refine HC1.out.mono ?_); rintro e w3 ⟨v3, rfl, hown3, hb3⟩; have hown3A : w3.ownsRow w1.heap.size 46 4 v3 cs.length (cs.flatMap encClm) := hown3)) | (go_at_call 77; ((with_reducible refine HC2.out.mono ?_); rintro e w3 ⟨v3, rfl, hown3, hb3⟩; have hown3B : w3.ownsRow w1.heap.size 46 4 v3 cs.length (cs.flatMap encClm) := ownsRow_base2 hown3 (by simp))) | (go_at_call 70; refine (told_own (f := ⟨name, rank, flo, fhi⟩) hown5 hfs).mono ?_; rintro e w6 ⟨he, hb6⟩; rw [HTOLD.out] at he; subst he; have hB6 := belowT hB5 hb6))
  all_goals
    have HB6 := Lib.hid hB6
    clear hown5 hgrow hownA hb3 hb6 hB5 hB6
    go_wp2
    refine bodyPost_ret (results_tmp2 rfl _ _ _) rfl ?_
    exact ⟨rfl, belowT HB1.out HB6.out⟩

end Go.Proofs.Ytblbbhenmhkknaa
