/- claim.Cost. claim.Cost. -/
import Derived.Deep.RegionHeld3
import Derived.Deep.AppendLies
import Derived.StillTailTactics
import Derived.Test.YtblbbhenmhkknaaYW29
import Derived.Test.YtblbbhenmhkknaaZ98006c
namespace Go.Proofs.Ytblbbhenmhkknaa
open Go.RowKit

theorem told_own {w : World} {base g cap : Nat} {cs : List Clm} {f : Clm} (hown : w.ownsRow base 46 4 (.slice (some ⟨g, 0, none⟩) (cs.length + 1) cap) (cs.length + 1) (cs.flatMap encClm ++ [.string f.name, iv f.rank, iv f.lo, iv f.hi])) (hs : f.name.size ≤ maxLen) :
    Calls Try.prog 70 #[.slice (some ⟨g, 0, none⟩) (cs.length + 1) cap] w fun e w' => e = .returned (iv (toldE cs f)) ∧ Below w.heap.size w w' := by
  have e : cs.flatMap encClm ++ [.string f.name, iv f.rank, iv f.lo, iv f.hi] = (cs ++ [f]).flatMap encClm := by rw [List.flatMap_append]; rfl
  have hl : (cs ++ [f]).length = cs.length + 1 := by simp
  rw [e, ← hl] at hown
  obtain ⟨A, cap2, e2, hrd, _, hc1, hc2⟩ := own_rdN enc4_len hown
  injection e2 with e21 e22 e23
  subst e21 e23
  have h := told_any (some ⟨g, 0, none⟩) (cs ++ [f]) cs.length f w.heap.size cap w (by rw [hl] at hc1; exact hc1) hc2 (by simp) hs hrd (Nat.le_refl _)
  have ht : (cs ++ [f]).take cs.length = cs := by simp
  rw [ht] at h
  exact h

/-- The error of a further claim. -/
def furtherE (lo hi : Int) (cs : List Clm) (P : Int) (ds : List Int) (f : Clm) : Int :=
  if truthE lo hi cs P ds = 0 then (if cs.length = 8 then 3 else (if toldE cs f = 0 then (if f.lo = f.hi then 0 else 2) else toldE cs f)) else truthE lo hi cs P ds
/-- The claims with the further one. -/
def jlF (cs : List Clm) (ds : List Int) (f : Clm) : List Cl3 := jl cs ds ++ [⟨f.rank, f.lo, f.hi⟩]
/-- What each claim of a list gets less, behind the first k. -/
def costTo (a b : List Int) (k : Nat) : List Int := a.mapIdx fun i x => if i < k then x - b.getD i 0 else x
theorem costTo_len (a b : List Int) (k : Nat) : (costTo a b k).length = a.length := by simp [costTo]
theorem costTo_zero (a b : List Int) : costTo a b 0 = a := by
  unfold costTo
  apply List.ext_getElem?
  intro i
  simp [List.getElem?_mapIdx]
theorem costTo_at {a b : List Int} {k : Nat} {x : Int} (h : a[k]? = some x) : (costTo a b k)[k]? = some x := by
  simp [costTo, List.getElem?_mapIdx, h]
theorem costTo_succ {a b : List Int} {k : Nat} {x y : Int} (h : a[k]? = some x) (h2 : b[k]? = some y) : costTo a b (k + 1) = (costTo a b k).set k (x - y) := by
  apply List.ext_getElem?
  intro i
  have hk := (List.getElem?_eq_some_iff.1 h).1
  by_cases e : k = i
  · subst e
    rw [List.getElem?_set_self (by rw [costTo_len]; exact hk)]
    simp [costTo, List.getElem?_mapIdx, h, List.getD_eq_getElem?_getD, h2]
  · rw [List.getElem?_set_ne e]
    simp only [costTo, List.getElem?_mapIdx]
    cases a[i]? with
    | none => rfl
    | some z =>
      simp only [Option.map_some]
      by_cases h3 : i < k
      · rw [if_pos h3, if_pos (by omega)]
      · rw [if_neg h3, if_neg (by omega)]
/-- What the others lose. -/
def costL (cs : List Clm) (P : Int) (ds : List Int) (f : Clm) : List Int := costTo (pays (jl cs ds) P) (pays (jlF cs ds f) P) cs.length

def CostYes (cs : List Clm) (P : Int) (ds : List Int) (f : Clm) (w : World) (e : Ending) (w' : World) : Prop :=
  ∃ A cap, e = .returned (.tuple #[.slice A cs.length cap, iv 0]) ∧ w'.ownsRow w.heap.size 3 1 (.slice A cs.length cap) cs.length ((costL cs P ds f).map iv) ∧ Below w.heap.size w w'

set_option maxRecDepth 100000 in
set_option maxHeartbeats 4000000 in
theorem cost_bad (lo hi : Int) (A D : Option Addr) (cs : List Clm) (B cap capD : Nat) (P : Int) (ds : List Int) (f : Clm) (w : World) (hm : cs.length ≤ cap) (hcm : cap ≤ maxLen) (hok : ClmsOk cs) (hR : RdN 4 encClm w B A cs) (hB : B ≤ w.heap.size) (hD : Rd1 iv w B D ds) (hE : truthE lo hi cs P ds ≠ 0) :
    Calls Try.prog 30 #[.agg #[.int .i64 lo, .int .i64 hi, .slice A cs.length cap], .agg #[.int .i64 P, .slice D ds.length capD], .agg #[.string f.name, .int .i64 f.rank, .int .i64 f.lo, .int .i64 f.hi]] w (TruthNo (truthE lo hi cs P ds) w) := by
  have hb0 : Below w.heap.size w _ := belowA (belowA (belowA (belowR w) (.cells #[.int .i64 lo, .int .i64 hi, .slice A cs.length cap] 42)) (.cells #[.int .i64 P, .slice D ds.length capD] 44)) (.cells #[.string f.name, .int .i64 f.rank, .int .i64 f.lo, .int .i64 f.hi] 46)
  have hop := truth_no lo hi A D cs B cap capD P ds (((w.alloc (.cells #[.int .i64 lo, .int .i64 hi, .slice A cs.length cap] 42)).alloc (.cells #[.int .i64 P, .slice D ds.length capD] 44)).alloc (.cells #[.string f.name, .int .i64 f.rank, .int .i64 f.lo, .int .i64 f.hi] 46)) hm hcm hok (hR.below hb0 hB) (Nat.le_trans hB hb0.size) (hD.below hb0 hB) hE
  obtain ⟨E, hEE⟩ : ∃ E, truthE lo hi cs P ds = E := ⟨_, rfl⟩
  rw [hEE] at hE hop ⊢
  have hne : (E != 0) = true := by simpa using hE
  have HOP := Lib.hid hop
  clear hop hEE hE
  go_enter Try.func30, Try.ntmps30
  go_wp2_with fail
  refine HOP.out.mono ?_
  rintro e w1 ⟨rfl, hb⟩
  have hB1 := belowT hb0 hb
  clear hb hb0
  go_wp2
  refine bodyPost_ret (results_tmp2 rfl _ _ _) rfl ?_
  exact ⟨rfl, hB1⟩

set_option maxRecDepth 100000 in
set_option maxHeartbeats 4000000 in
theorem cost_eight (lo hi : Int) (A D : Option Addr) (cs : List Clm) (B cap capD : Nat) (P : Int) (ds : List Int) (f : Clm) (w : World) (hm : cs.length ≤ cap) (hcm : cap ≤ maxLen) (hok : ClmsOk cs) (hR : RdN 4 encClm w B A cs) (hB : B ≤ w.heap.size) (hD : Rd1 iv w B D ds) (hE : truthE lo hi cs P ds = 0) (h8 : cs.length = 8) :
    Calls Try.prog 30 #[.agg #[.int .i64 lo, .int .i64 hi, .slice A cs.length cap], .agg #[.int .i64 P, .slice D ds.length capD], .agg #[.string f.name, .int .i64 f.rank, .int .i64 f.lo, .int .i64 f.hi]] w (TruthNo 3 w) := by
  have hb0 : Below w.heap.size w _ := belowA (belowA (belowA (belowR w) (.cells #[.int .i64 lo, .int .i64 hi, .slice A cs.length cap] 42)) (.cells #[.int .i64 P, .slice D ds.length capD] 44)) (.cells #[.string f.name, .int .i64 f.rank, .int .i64 f.lo, .int .i64 f.hi] 46)
  have hop := truth_yes lo hi A D cs B cap capD P ds (((w.alloc (.cells #[.int .i64 lo, .int .i64 hi, .slice A cs.length cap] 42)).alloc (.cells #[.int .i64 P, .slice D ds.length capD] 44)).alloc (.cells #[.string f.name, .int .i64 f.rank, .int .i64 f.lo, .int .i64 f.hi] 46)) hm hcm hok (hR.below hb0 hB) (Nat.le_trans hB hb0.size) (hD.below hb0 hB) hE
  have HOP := Lib.hid hop
  clear hop
  have h8b : ((cs.length : Int) == 8) = true := beq_iff_eq.2 (by omega)
  clear h8 hE
  go_enter Try.func30, Try.ntmps30
  go_wp2_with fail
  refine HOP.out.mono ?_
  rintro e w1 ⟨A1, cap1, rfl, hown, hb⟩
  have hB1 := belowT hb0 hb
  clear hb hb0
  go_wp2
  refine bodyPost_ret (results_tmp2 rfl _ _ _) rfl ?_
  exact ⟨rfl, hB1⟩

set_option maxRecDepth 100000 in
set_option maxHeartbeats 4000000 in
theorem cost_told (lo hi : Int) (A D : Option Addr) (cs : List Clm) (B cap capD : Nat) (P : Int) (ds : List Int) (f : Clm) (w : World) (hm : cs.length ≤ cap) (hcm : cap ≤ maxLen) (hok : ClmsOk cs) (hfs : f.name.size ≤ maxLen) (hR : RdN 4 encClm w B A cs) (hB : B ≤ w.heap.size) (hD : Rd1 iv w B D ds) (hE : truthE lo hi cs P ds = 0) (h8 : cs.length ≠ 8) (h3 : toldE cs f ≠ 0) :
    Calls Try.prog 30 #[.agg #[.int .i64 lo, .int .i64 hi, .slice A cs.length cap], .agg #[.int .i64 P, .slice D ds.length capD], .agg #[.string f.name, .int .i64 f.rank, .int .i64 f.lo, .int .i64 f.hi]] w (TruthNo (toldE cs f) w) := by
  have hb0 : Below w.heap.size w _ := belowA (belowA (belowA (belowR w) (.cells #[.int .i64 lo, .int .i64 hi, .slice A cs.length cap] 42)) (.cells #[.int .i64 P, .slice D ds.length capD] 44)) (.cells #[.string f.name, .int .i64 f.rank, .int .i64 f.lo, .int .i64 f.hi] 46)
  have hop := truth_yes lo hi A D cs B cap capD P ds (((w.alloc (.cells #[.int .i64 lo, .int .i64 hi, .slice A cs.length cap] 42)).alloc (.cells #[.int .i64 P, .slice D ds.length capD] 44)).alloc (.cells #[.string f.name, .int .i64 f.rank, .int .i64 f.lo, .int .i64 f.hi] 46)) hm hcm hok (hR.below hb0 hB) (Nat.le_trans hB hb0.size) (hD.below hb0 hB) hE
  have HOP := Lib.hid hop
  clear hop
  have h8b : ((cs.length : Int) == 8) = false := beq_eq_false_iff_ne.2 (by omega)
  obtain ⟨htr, _, _⟩ := truthE_ok hE
  have hest := est_ok htr.est
  have hl1 := hest.len.1
  have hl7 : cs.length ≤ 7 := by have := hest.len.2; omega
  have hk9 : cs.length + 1 ≤ maxLen := by unfold maxLen; omega
  have hk40 : (cs.length + 1) * 40 ≤ 140737488355328 := by omega
  have hk24 : (cs.length + 1) * 24 ≤ 140737488355328 := by omega
  obtain ⟨i4, hi4, hz40, hz41, hz42⟩ := info_parts Try.info46
  obtain ⟨T, hT⟩ : ∃ T, toldE cs f = T := ⟨_, rfl⟩
  rw [hT] at h3 ⊢
  have hne : (T != 0) = true := by simpa using h3
  have HTOLD := Lib.hid hT
  clear hT h3
  obtain ⟨name, rank, flo, fhi⟩ := f
  simp only at *
  have HTR := Lib.hid htr
  clear h8 hE htr hest
  go_enter Try.func30, Try.ntmps30
  go_wp2_with fail
  refine HOP.out.mono ?_
  rintro e w1 ⟨A1, cap1, rfl, hown, hb⟩
  have hB1 := belowT hb0 hb
  have r2 : w1.cell? ⟨w.heap.size, 2, none⟩ = some (.slice A cs.length cap) := keepC hb (by go_simp)
  have t0 : w1.cell? ⟨w.heap.size + 1, 0, none⟩ = some (.int .i64 P) := keepC hb (by go_simp)
  have f0 : w1.cell? ⟨w.heap.size + 1 + 1, 0, none⟩ = some (.string name) := keepC hb (by go_simp)
  have f1 : w1.cell? ⟨w.heap.size + 1 + 1, 1, none⟩ = some (.int .i64 rank) := keepC hb (by go_simp)
  have f2 : w1.cell? ⟨w.heap.size + 1 + 1, 2, none⟩ = some (.int .i64 flo) := keepC hb (by go_simp)
  have f3 : w1.cell? ⟨w.heap.size + 1 + 1, 3, none⟩ = some (.int .i64 fhi) := keepC hb (by go_simp)
  have hlt2 : w.heap.size + 1 + 1 < w1.heap.size := lt_of_cell f0
  have hq : ∀ W' : World, (∀ b o v, b < w1.heap.size → w1.cell? ⟨b, o, none⟩ = some v → W'.cell? ⟨b, o, none⟩ = some v) → (W'.cell? ⟨w.heap.size, 2, none⟩ = some (.slice A cs.length cap) ∧ W'.cell? ⟨w.heap.size + 1 + 1, 0, none⟩ = some (.string name) ∧ W'.cell? ⟨w.heap.size + 1 + 1, 1, none⟩ = some (.int .i64 rank) ∧ W'.cell? ⟨w.heap.size + 1 + 1, 2, none⟩ = some (.int .i64 flo) ∧ W'.cell? ⟨w.heap.size + 1 + 1, 3, none⟩ = some (.int .i64 fhi)) := fun W' h => ⟨h _ _ _ (by omega) r2, h _ _ _ (by omega) f0, h _ _ _ (by omega) f1, h _ _ _ (by omega) f2, h _ _ _ (by omega) f3⟩
  have HQ := Lib.hid hq
  have hR1 := (hR.below hB1 hB)
  have hz1 := hB1.size
  have HC1 := Lib.hid (clone4_any A cs B cap w1.drew hl1 (by omega) (hR1.keep (fun _ _ => rfl)))
  have HC2 := Lib.hid (clone4_any A cs B cap (w1.alloc (.cells #[.string name, .int .i64 rank, .int .i64 flo, .int .i64 fhi] 46)).drew hl1 (by omega) ((hR1.alloc (Nat.le_trans hB hz1) (.cells #[.string name, .int .i64 rank, .int .i64 flo, .int .i64 fhi] 46)).keep (fun _ _ => rfl)))
  have HOWN := Lib.hid hown
  have HB1 := Lib.hid hB1
  have HT0 := Lib.hid t0
  have HF := Lib.hid (And.intro f1 (And.intro f2 f3))
  clear hb hb0 hq hR hD hown hR1 HOP t0 hB1
  go_wp2
  have HNB : Hid (∀ W, Below (w1.alloc (.cells #[.string name, .int .i64 rank, .int .i64 flo, .int .i64 fhi] 46)).drew.heap.size (w1.alloc (.cells #[.string name, .int .i64 rank, .int .i64 flo, .int .i64 fhi] 46)).drew W → ∀ j u, ([.string name, .int .i64 rank, .int .i64 flo, .int .i64 fhi] : List Value)[j]? = some u → W.cell? ((⟨w1.heap.size, 0, none⟩ : Addr).add j) = some u) := Lib.hid (fun W hb j u hu => by
    have h1 := cells4_new w1 (.string name) (.int .i64 rank) (.int .i64 flo) (.int .i64 fhi) 46 j u hu
    have h2 : ((⟨w1.heap.size, 0, none⟩ : Addr).add j) = ⟨w1.heap.size, j, none⟩ := by
      rcases Nat.eq_zero_or_pos j with rfl | hj
      · rfl
      · unfold Addr.add; rw [if_neg (by omega)]; simp
    rw [h2] at h1 ⊢
    exact keepC hb h1)
  go_region_held3 (fun w' => w'.cell? ⟨w.heap.size, 2, none⟩ = some (.slice A cs.length cap) ∧ w'.cell? ⟨w.heap.size + 1 + 1, 0, none⟩ = some (.string name) ∧ w'.cell? ⟨w.heap.size + 1 + 1, 1, none⟩ = some (.int .i64 rank) ∧ w'.cell? ⟨w.heap.size + 1 + 1, 2, none⟩ = some (.int .i64 flo) ∧ w'.cell? ⟨w.heap.size + 1 + 1, 3, none⟩ = some (.int .i64 fhi)) (first | exact HQ.out _ (fun _ _ _ _ h => keepC hB6 h) | exact HQ.out _ (fun _ _ _ _ h => keepC hB5 h) | exact HQ.out _ (fun _ _ _ _ h => keepA (keepC hb3 h) _) | exact HQ.out _ (fun _ _ _ _ h => keepC hb3 (keepA h _)) | exact HQ.out _ (fun _ _ _ _ h => keepC hb3 h) | exact HQ.out _ (fun _ _ _ _ h => keepA h _) | exact HQ.out _ (fun _ _ _ _ h => h)) (first | (have hownA := hown3A.alloc (.cells #[.string name, .int .i64 rank, .int .i64 flo, .int .i64 fhi] 46); have hbA : Below w1.heap.size w1 _ := belowA (undrew0 hb3) (.cells #[.string name, .int .i64 rank, .int .i64 flo, .int .i64 fhi] 46); refine step_append_lies _ (by rfl) _ _ _ (by rfl) w1.heap.size 46 i4 _ 4 40 Try.underlying40 hi4 hz40 hz41 hz42 rfl (by omega) _ cs.length _ (by rfl) hownA ⟨w3.heap.size, 0, none⟩ 1 1 [.string name, .int .i64 rank, .int .i64 flo, .int .i64 fhi] (by rfl) (by rfl) (World.news_of_block (cs := #[.string name, .int .i64 rank, .int .i64 flo, .int .i64 fhi]) (t := 46) (fr := (0, 0)) (heap_alloc_new w3 _)) (by simp [Value.oneCell']) (by omega) hk9 hk40 hbA.size _ rfl ?_; intro gg cap9 w5 hown5 hgrow hat hlt5; have hB5 : Below w1.heap.size w1 w5 := grownB hownA hgrow (Nat.le_refl _) hbA) | (have hownA := hown3B; have hbA : Below w1.heap.size w1 _ := belowT (belowA (belowR _) (.cells #[.string name, .int .i64 rank, .int .i64 flo, .int .i64 fhi] 46)) (undrew0 hb3); refine step_append_lies _ (by rfl) _ _ _ (by rfl) w1.heap.size 46 i4 _ 4 40 Try.underlying40 hi4 hz40 hz41 hz42 rfl (by omega) _ cs.length _ (by rfl) hownA ⟨w1.heap.size, 0, none⟩ 1 1 [.string name, .int .i64 rank, .int .i64 flo, .int .i64 fhi] (by rfl) (by rfl) (HNB.out w3 hb3) (by simp [Value.oneCell']) (by omega) hk9 hk40 hbA.size _ rfl ?_; intro gg cap9 w5 hown5 hgrow hat hlt5; have hB5 : Below w1.heap.size w1 w5 := grownB hownA hgrow (Nat.le_refl _) hbA) | (go_at_call 77; ((with_reducible refine HC1.out.mono ?_); rintro e w3 ⟨v3, rfl, hown3, hb3⟩; have hown3A : w3.ownsRow w1.heap.size 46 4 v3 cs.length (cs.flatMap encClm) := hown3)) | (go_at_call 77; ((with_reducible refine HC2.out.mono ?_); rintro e w3 ⟨v3, rfl, hown3, hb3⟩; have hown3B : w3.ownsRow w1.heap.size 46 4 v3 cs.length (cs.flatMap encClm) := ownsRow_base2 hown3 (by simp))) | (go_at_call 70; refine (told_own (f := ⟨name, rank, flo, fhi⟩) hown5 hfs).mono ?_; rintro e w6 ⟨he, hb6⟩; rw [HTOLD.out] at he; subst he; have hB6 := belowT hB5 hb6))
  all_goals
    have HB6 := Lib.hid hB6
    clear hown5 hgrow hownA hb3 hb6 hB5 hB6
    go_wp2
    refine bodyPost_ret (results_tmp2 rfl _ _ _) rfl ?_
    exact ⟨rfl, belowT HB1.out HB6.out⟩

end Go.Proofs.Ytblbbhenmhkknaa

namespace Go.Proofs.Ytblbbhenmhkknaa
open Go.RowKit

theorem jlF_len (cs : List Clm) (ds : List Int) (f : Clm) : (jlF cs ds f).length = cs.length + 1 := by simp [jlF, jl_len]
theorem jlF_ok {lo hi : Int} {cs : List Clm} {P : Int} {ds : List Int} {f : Clm} (h : TruthOk lo hi cs P ds) (hT : toldE cs f = 0) : C3Ok (jlF cs ds f) := by
  intro x hx
  rcases List.mem_append.1 hx with hx | hx
  · exact h.ok3 x hx
  · rw [List.mem_singleton] at hx
    subst hx
    have := toldE_ok hT
    simp only
    omega
theorem pay_own {w : World} {base g cap : Nat} {cs : List Clm} {ds : List Int} {f : Clm} {P : Int} (hown : w.ownsRow base 125 3 (.slice (some ⟨g, 0, none⟩) (cs.length + 1) cap) (cs.length + 1) ((jl cs ds).flatMap encC3 ++ [iv f.rank, iv f.lo, iv f.hi])) (hl : cs.length ≤ 7) (hok : C3Ok (jlF cs ds f)) (hP0 : 0 ≤ P) (hP9 : P ≤ 1000000000) :
    Calls Try.prog 74 #[.slice (some ⟨g, 0, none⟩) (cs.length + 1) cap, .int .i64 P] w fun e w' => ∃ A c2, e = .returned (.tuple #[.slice A (cs.length + 1) c2, iv (P - (pays (jlF cs ds f) P).sum)]) ∧ w'.ownsRow w.heap.size 3 1 (.slice A (cs.length + 1) c2) (cs.length + 1) ((pays (jlF cs ds f) P).map iv) ∧ Below w.heap.size w w' := by
  have e : (jl cs ds).flatMap encC3 ++ [iv f.rank, iv f.lo, iv f.hi] = (jlF cs ds f).flatMap encC3 := by unfold jlF; rw [List.flatMap_append]; rfl
  have hl2 := jlF_len cs ds f
  rw [e, ← hl2] at hown
  obtain ⟨A, cap2, e2, hrd, _, _, _⟩ := own_rdN enc3_len hown
  injection e2 with e21 e22 e23
  subst e21
  have h := pay_any (some ⟨g, 0, none⟩) (jlF cs ds f) w.heap.size cap P w (by omega) hP0 hP9 hok hrd (Nat.le_refl _)
  unfold PayPost at h
  rw [hl2] at h
  exact h
theorem grownSetO (w : World) (c o : Nat) (u : Value) : w.grownBy (w.setCell ⟨c, o, none⟩ u) (some c) :=
  ⟨rfl, rfl, rfl, by simp [World.setCell], fun k _ hne => Below.heap_setCell _ _ _ _ (fun e => hne (by rw [e]))⟩
theorem pays_at {l : List Cl3} {P : Int} (hok : C3Ok l) {k : Nat} (hk : k < l.length) : ∃ x, (pays l P)[k]? = some x ∧ 0 ≤ x ∧ x ≤ 1000000000 := by
  obtain ⟨c, hc⟩ : ∃ c, l[k]? = some c := ⟨_, List.getElem?_eq_getElem hk⟩
  have h1 := payAt_bound (P := P) hok (List.mem_of_getElem? hc)
  have h2 := hok c (List.mem_of_getElem? hc)
  exact ⟨payAt l P c, by simp [pays, hc], by omega, by omega⟩

set_option maxRecDepth 100000 in
set_option maxHeartbeats 4000000 in
theorem cost_arg (lo hi : Int) (A D : Option Addr) (cs : List Clm) (B cap capD : Nat) (P : Int) (ds : List Int) (f : Clm) (w : World) (hm : cs.length ≤ cap) (hcm : cap ≤ maxLen) (hok : ClmsOk cs) (hfs : f.name.size ≤ maxLen) (hR : RdN 4 encClm w B A cs) (hB : B ≤ w.heap.size) (hD : Rd1 iv w B D ds) (hE : truthE lo hi cs P ds = 0) (h8 : cs.length ≠ 8) (hT : toldE cs f = 0) (hne : f.lo ≠ f.hi) :
    Calls Try.prog 30 #[.agg #[.int .i64 lo, .int .i64 hi, .slice A cs.length cap], .agg #[.int .i64 P, .slice D ds.length capD], .agg #[.string f.name, .int .i64 f.rank, .int .i64 f.lo, .int .i64 f.hi]] w (TruthNo 2 w) := by
  have hb0 : Below w.heap.size w _ := belowA (belowA (belowA (belowR w) (.cells #[.int .i64 lo, .int .i64 hi, .slice A cs.length cap] 42)) (.cells #[.int .i64 P, .slice D ds.length capD] 44)) (.cells #[.string f.name, .int .i64 f.rank, .int .i64 f.lo, .int .i64 f.hi] 46)
  have hop := truth_yes lo hi A D cs B cap capD P ds (((w.alloc (.cells #[.int .i64 lo, .int .i64 hi, .slice A cs.length cap] 42)).alloc (.cells #[.int .i64 P, .slice D ds.length capD] 44)).alloc (.cells #[.string f.name, .int .i64 f.rank, .int .i64 f.lo, .int .i64 f.hi] 46)) hm hcm hok (hR.below hb0 hB) (Nat.le_trans hB hb0.size) (hD.below hb0 hB) hE
  have HOP := Lib.hid hop
  clear hop
  have h8b : ((cs.length : Int) == 8) = false := beq_eq_false_iff_ne.2 (by omega)
  obtain ⟨htr, _, _⟩ := truthE_ok hE
  have hest := est_ok htr.est
  have hl1 := hest.len.1
  have hl7 : cs.length ≤ 7 := by have := hest.len.2; omega
  have hk9 : cs.length + 1 ≤ maxLen := by unfold maxLen; omega
  have hk40 : (cs.length + 1) * 40 ≤ 140737488355328 := by omega
  have hk24 : (cs.length + 1) * 24 ≤ 140737488355328 := by omega
  obtain ⟨i4, hi4, hz40, hz41, hz42⟩ := info_parts Try.info46
  have HTOLD := Lib.hid hT
  have hne' : (f.hi == f.lo) = false := beq_eq_false_iff_ne.2 (fun h => hne h.symm)
  clear hT hne
  obtain ⟨name, rank, flo, fhi⟩ := f
  simp only at *
  have HTR := Lib.hid htr
  clear h8 hE htr hest
  go_enter Try.func30, Try.ntmps30
  go_wp2_with fail
  refine HOP.out.mono ?_
  rintro e w1 ⟨A1, cap1, rfl, hown, hb⟩
  have hB1 := belowT hb0 hb
  have r2 : w1.cell? ⟨w.heap.size, 2, none⟩ = some (.slice A cs.length cap) := keepC hb (by go_simp)
  have t0 : w1.cell? ⟨w.heap.size + 1, 0, none⟩ = some (.int .i64 P) := keepC hb (by go_simp)
  have f0 : w1.cell? ⟨w.heap.size + 1 + 1, 0, none⟩ = some (.string name) := keepC hb (by go_simp)
  have f1 : w1.cell? ⟨w.heap.size + 1 + 1, 1, none⟩ = some (.int .i64 rank) := keepC hb (by go_simp)
  have f2 : w1.cell? ⟨w.heap.size + 1 + 1, 2, none⟩ = some (.int .i64 flo) := keepC hb (by go_simp)
  have f3 : w1.cell? ⟨w.heap.size + 1 + 1, 3, none⟩ = some (.int .i64 fhi) := keepC hb (by go_simp)
  have hlt2 : w.heap.size + 1 + 1 < w1.heap.size := lt_of_cell f0
  have hq : ∀ W' : World, (∀ b o v, b < w1.heap.size → w1.cell? ⟨b, o, none⟩ = some v → W'.cell? ⟨b, o, none⟩ = some v) → (W'.cell? ⟨w.heap.size, 2, none⟩ = some (.slice A cs.length cap) ∧ W'.cell? ⟨w.heap.size + 1 + 1, 0, none⟩ = some (.string name) ∧ W'.cell? ⟨w.heap.size + 1 + 1, 1, none⟩ = some (.int .i64 rank) ∧ W'.cell? ⟨w.heap.size + 1 + 1, 2, none⟩ = some (.int .i64 flo) ∧ W'.cell? ⟨w.heap.size + 1 + 1, 3, none⟩ = some (.int .i64 fhi)) := fun W' h => ⟨h _ _ _ (by omega) r2, h _ _ _ (by omega) f0, h _ _ _ (by omega) f1, h _ _ _ (by omega) f2, h _ _ _ (by omega) f3⟩
  have HQ := Lib.hid hq
  have hR1 := (hR.below hB1 hB)
  have hz1 := hB1.size
  have HC1 := Lib.hid (clone4_any A cs B cap w1.drew hl1 (by omega) (hR1.keep (fun _ _ => rfl)))
  have HC2 := Lib.hid (clone4_any A cs B cap (w1.alloc (.cells #[.string name, .int .i64 rank, .int .i64 flo, .int .i64 fhi] 46)).drew hl1 (by omega) ((hR1.alloc (Nat.le_trans hB hz1) (.cells #[.string name, .int .i64 rank, .int .i64 flo, .int .i64 fhi] 46)).keep (fun _ _ => rfl)))
  have HOWN : Hid (w1.ownsRow (w.heap.size + 1 + 1 + 1) 125 3 (.slice A1 cs.length cap1) cs.length ((jl cs ds).flatMap encC3)) := Lib.hid (by have := hown; simp only [World.size_alloc] at this; exact this)
  have HB1 := Lib.hid hB1
  have HT0 := Lib.hid t0
  have HF := Lib.hid (And.intro f1 (And.intro f2 f3))
  clear hb hb0 hq hR hD hown hR1 HOP t0 hB1
  go_wp2
  have HNB : Hid (∀ W, Below (w1.alloc (.cells #[.string name, .int .i64 rank, .int .i64 flo, .int .i64 fhi] 46)).drew.heap.size (w1.alloc (.cells #[.string name, .int .i64 rank, .int .i64 flo, .int .i64 fhi] 46)).drew W → ∀ j u, ([.string name, .int .i64 rank, .int .i64 flo, .int .i64 fhi] : List Value)[j]? = some u → W.cell? ((⟨w1.heap.size, 0, none⟩ : Addr).add j) = some u) := Lib.hid (fun W hb j u hu => by
    have h1 := cells4_new w1 (.string name) (.int .i64 rank) (.int .i64 flo) (.int .i64 fhi) 46 j u hu
    have h2 : ((⟨w1.heap.size, 0, none⟩ : Addr).add j) = ⟨w1.heap.size, j, none⟩ := by
      rcases Nat.eq_zero_or_pos j with rfl | hj
      · rfl
      · unfold Addr.add; rw [if_neg (by omega)]; simp
    rw [h2] at h1 ⊢
    exact keepC hb h1)
  go_region_held3 (fun w' => w'.cell? ⟨w.heap.size, 2, none⟩ = some (.slice A cs.length cap) ∧ w'.cell? ⟨w.heap.size + 1 + 1, 0, none⟩ = some (.string name) ∧ w'.cell? ⟨w.heap.size + 1 + 1, 1, none⟩ = some (.int .i64 rank) ∧ w'.cell? ⟨w.heap.size + 1 + 1, 2, none⟩ = some (.int .i64 flo) ∧ w'.cell? ⟨w.heap.size + 1 + 1, 3, none⟩ = some (.int .i64 fhi)) (first | exact HQ.out _ (fun _ _ _ _ h => keepC hB6 h) | exact HQ.out _ (fun _ _ _ _ h => keepC hB5 h) | exact HQ.out _ (fun _ _ _ _ h => keepA (keepC hb3 h) _) | exact HQ.out _ (fun _ _ _ _ h => keepC hb3 (keepA h _)) | exact HQ.out _ (fun _ _ _ _ h => keepC hb3 h) | exact HQ.out _ (fun _ _ _ _ h => keepA h _) | exact HQ.out _ (fun _ _ _ _ h => h)) (first | (have hownA := hown3A.alloc (.cells #[.string name, .int .i64 rank, .int .i64 flo, .int .i64 fhi] 46); have hbA : Below w1.heap.size w1 _ := belowA (undrew0 hb3) (.cells #[.string name, .int .i64 rank, .int .i64 flo, .int .i64 fhi] 46); refine step_append_lies _ (by rfl) _ _ _ (by rfl) w1.heap.size 46 i4 _ 4 40 Try.underlying40 hi4 hz40 hz41 hz42 rfl (by omega) _ cs.length _ (by rfl) hownA ⟨w3.heap.size, 0, none⟩ 1 1 [.string name, .int .i64 rank, .int .i64 flo, .int .i64 fhi] (by rfl) (by rfl) (World.news_of_block (cs := #[.string name, .int .i64 rank, .int .i64 flo, .int .i64 fhi]) (t := 46) (fr := (0, 0)) (heap_alloc_new w3 _)) (by simp [Value.oneCell']) (by omega) hk9 hk40 hbA.size _ rfl ?_; intro gg cap9 w5 hown5 hgrow hat hlt5; have hB5 : Below w1.heap.size w1 w5 := grownB hownA hgrow (Nat.le_refl _) hbA) | (have hownA := hown3B; have hbA : Below w1.heap.size w1 _ := belowT (belowA (belowR _) (.cells #[.string name, .int .i64 rank, .int .i64 flo, .int .i64 fhi] 46)) (undrew0 hb3); refine step_append_lies _ (by rfl) _ _ _ (by rfl) w1.heap.size 46 i4 _ 4 40 Try.underlying40 hi4 hz40 hz41 hz42 rfl (by omega) _ cs.length _ (by rfl) hownA ⟨w1.heap.size, 0, none⟩ 1 1 [.string name, .int .i64 rank, .int .i64 flo, .int .i64 fhi] (by rfl) (by rfl) (HNB.out w3 hb3) (by simp [Value.oneCell']) (by omega) hk9 hk40 hbA.size _ rfl ?_; intro gg cap9 w5 hown5 hgrow hat hlt5; have hB5 : Below w1.heap.size w1 w5 := grownB hownA hgrow (Nat.le_refl _) hbA) | (go_at_call 77; ((with_reducible refine HC1.out.mono ?_); rintro e w3 ⟨v3, rfl, hown3, hb3⟩; have hown3A : w3.ownsRow w1.heap.size 46 4 v3 cs.length (cs.flatMap encClm) := hown3)) | (go_at_call 77; ((with_reducible refine HC2.out.mono ?_); rintro e w3 ⟨v3, rfl, hown3, hb3⟩; have hown3B : w3.ownsRow w1.heap.size 46 4 v3 cs.length (cs.flatMap encClm) := ownsRow_base2 hown3 (by simp))) | (go_at_call 70; refine (told_own (f := ⟨name, rank, flo, fhi⟩) hown5 hfs).mono ?_; rintro e w6 ⟨he, hb6⟩; rw [HTOLD.out] at he; subst he; have hB6 := belowT hB5 hb6))
  all_goals
    obtain ⟨f1', f2', f3'⟩ := HF.out
    have g2 : w6.cell? ⟨w.heap.size + 1 + 1, 2, none⟩ = some (.int .i64 flo) := keepC hB6 f2'
    have g3 : w6.cell? ⟨w.heap.size + 1 + 1, 3, none⟩ = some (.int .i64 fhi) := keepC hB6 f3'
    have HB6 := Lib.hid hB6
    have HC78 := Lib.hid (one_any flo w6.drew)
    clear hown5 hgrow hownA hb3 hb6 hB5 hB6 r2 f0 f1 f2 f3 f1' f2' f3'
    go_wp2
    go_region_held3 (fun w' => w'.cell? ⟨w.heap.size + 1 + 1, 2, none⟩ = some (.int .i64 flo) ∧ w'.cell? ⟨w.heap.size + 1 + 1, 3, none⟩ = some (.int .i64 fhi)) (first | exact ⟨g2, g3⟩ | exact ⟨keepC hb7 g2, keepC hb7 g3⟩) (first | (go_at_call 78; refine HC78.out.mono ?_; rintro e w7 ⟨rfl, hb7⟩))
    have hB7 : Below w6.heap.size w6 w7 := undrew0 hb7
    have HB7 := Lib.hid hB7
    clear hb7 hB7 g2 g3
    go_wp2
    refine bodyPost_ret (results_tmp2 rfl _ _ _) rfl ?_
    exact ⟨rfl, belowT (belowT HB1.out HB6.out) HB7.out⟩

set_option maxRecDepth 100000 in
set_option maxHeartbeats 4000000 in
theorem cost_yes (lo hi : Int) (A D : Option Addr) (cs : List Clm) (B cap capD : Nat) (P : Int) (ds : List Int) (f : Clm) (w : World) (hm : cs.length ≤ cap) (hcm : cap ≤ maxLen) (hok : ClmsOk cs) (hfs : f.name.size ≤ maxLen) (hR : RdN 4 encClm w B A cs) (hB : B ≤ w.heap.size) (hD : Rd1 iv w B D ds) (hE : truthE lo hi cs P ds = 0) (h8 : cs.length ≠ 8) (hT : toldE cs f = 0) (hne : f.lo = f.hi) :
    Calls Try.prog 30 #[.agg #[.int .i64 lo, .int .i64 hi, .slice A cs.length cap], .agg #[.int .i64 P, .slice D ds.length capD], .agg #[.string f.name, .int .i64 f.rank, .int .i64 f.lo, .int .i64 f.hi]] w (CostYes cs P ds f w) := by
  have hb0 : Below w.heap.size w _ := belowA (belowA (belowA (belowR w) (.cells #[.int .i64 lo, .int .i64 hi, .slice A cs.length cap] 42)) (.cells #[.int .i64 P, .slice D ds.length capD] 44)) (.cells #[.string f.name, .int .i64 f.rank, .int .i64 f.lo, .int .i64 f.hi] 46)
  have hop := truth_yes lo hi A D cs B cap capD P ds (((w.alloc (.cells #[.int .i64 lo, .int .i64 hi, .slice A cs.length cap] 42)).alloc (.cells #[.int .i64 P, .slice D ds.length capD] 44)).alloc (.cells #[.string f.name, .int .i64 f.rank, .int .i64 f.lo, .int .i64 f.hi] 46)) hm hcm hok (hR.below hb0 hB) (Nat.le_trans hB hb0.size) (hD.below hb0 hB) hE
  have HOP := Lib.hid hop
  clear hop
  have h8b : ((cs.length : Int) == 8) = false := beq_eq_false_iff_ne.2 (by omega)
  obtain ⟨htr, _, _⟩ := truthE_ok hE
  have hest := est_ok htr.est
  have hl1 := hest.len.1
  have hl7 : cs.length ≤ 7 := by have := hest.len.2; omega
  have hk9 : cs.length + 1 ≤ maxLen := by unfold maxLen; omega
  have hk40 : (cs.length + 1) * 40 ≤ 140737488355328 := by omega
  have hk24 : (cs.length + 1) * 24 ≤ 140737488355328 := by omega
  obtain ⟨i4, hi4, hz40, hz41, hz42⟩ := info_parts Try.info46
  have hokF := jlF_ok htr hT
  have hok3 := htr.ok3
  have hp0 : 0 ≤ P := by have := hest.span; have := htr.pro; omega
  have hp9 : P ≤ 1000000000 := by have := hest.span; have := htr.pro; omega
  have hpy := fun W A capL (hR : RdN 3 encC3 W W.heap.size A (jl cs ds)) => pay_any A (jl cs ds) W.heap.size capL P W (by rw [jl_len]; omega) hp0 hp9 hok3 hR (Nat.le_refl _)
  unfold PayPost at hpy
  rw [jl_len] at hpy
  have HPY := Lib.hid hpy
  have HOKF := Lib.hid hokF
  have HOK3 := Lib.hid hok3
  have HTOLD := Lib.hid hT
  have HEQ := Lib.hid hne
  obtain ⟨i5, hi5, hz50, hz51, hz52⟩ := info_parts Try.info125
  obtain ⟨i3, hi3, hz30, hz31, hz32⟩ := info_parts Try.info3
  unfold CostYes
  obtain ⟨CL, hCL⟩ : ∃ CL, costL cs P ds f = CL := ⟨_, rfl⟩
  rw [hCL]
  have HCL := Lib.hid hCL
  clear hT hne hpy hokF hok3 hCL
  obtain ⟨name, rank, flo, fhi⟩ := f
  simp only at *
  obtain rfl : flo = fhi := HEQ.out
  have HTR := Lib.hid htr
  clear h8 hE htr hest
  go_enter Try.func30, Try.ntmps30
  go_wp2_with fail
  refine HOP.out.mono ?_
  rintro e w1 ⟨A1, cap1, rfl, hown, hb⟩
  have hB1 := belowT hb0 hb
  have r2 : w1.cell? ⟨w.heap.size, 2, none⟩ = some (.slice A cs.length cap) := keepC hb (by go_simp)
  have t0 : w1.cell? ⟨w.heap.size + 1, 0, none⟩ = some (.int .i64 P) := keepC hb (by go_simp)
  have f0 : w1.cell? ⟨w.heap.size + 1 + 1, 0, none⟩ = some (.string name) := keepC hb (by go_simp)
  have f1 : w1.cell? ⟨w.heap.size + 1 + 1, 1, none⟩ = some (.int .i64 rank) := keepC hb (by go_simp)
  have f2 : w1.cell? ⟨w.heap.size + 1 + 1, 2, none⟩ = some (.int .i64 flo) := keepC hb (by go_simp)
  have f3 : w1.cell? ⟨w.heap.size + 1 + 1, 3, none⟩ = some (.int .i64 flo) := keepC hb (by go_simp)
  have hlt2 : w.heap.size + 1 + 1 < w1.heap.size := lt_of_cell f0
  have hq : ∀ W' : World, (∀ b o v, b < w1.heap.size → w1.cell? ⟨b, o, none⟩ = some v → W'.cell? ⟨b, o, none⟩ = some v) → (W'.cell? ⟨w.heap.size, 2, none⟩ = some (.slice A cs.length cap) ∧ W'.cell? ⟨w.heap.size + 1 + 1, 0, none⟩ = some (.string name) ∧ W'.cell? ⟨w.heap.size + 1 + 1, 1, none⟩ = some (.int .i64 rank) ∧ W'.cell? ⟨w.heap.size + 1 + 1, 2, none⟩ = some (.int .i64 flo) ∧ W'.cell? ⟨w.heap.size + 1 + 1, 3, none⟩ = some (.int .i64 flo)) := fun W' h => ⟨h _ _ _ (by omega) r2, h _ _ _ (by omega) f0, h _ _ _ (by omega) f1, h _ _ _ (by omega) f2, h _ _ _ (by omega) f3⟩
  have HQ := Lib.hid hq
  have hR1 := (hR.below hB1 hB)
  have hz1 := hB1.size
  have HC1 := Lib.hid (clone4_any A cs B cap w1.drew hl1 (by omega) (hR1.keep (fun _ _ => rfl)))
  have HC2 := Lib.hid (clone4_any A cs B cap (w1.alloc (.cells #[.string name, .int .i64 rank, .int .i64 flo, .int .i64 flo] 46)).drew hl1 (by omega) ((hR1.alloc (Nat.le_trans hB hz1) (.cells #[.string name, .int .i64 rank, .int .i64 flo, .int .i64 flo] 46)).keep (fun _ _ => rfl)))
  have HOWN : Hid (w1.ownsRow (w.heap.size + 1 + 1 + 1) 125 3 (.slice A1 cs.length cap1) cs.length ((jl cs ds).flatMap encC3)) := Lib.hid (by have := hown; simp only [World.size_alloc] at this; exact this)
  have HB1 := Lib.hid hB1
  have HT0 := Lib.hid t0
  have HF := Lib.hid (And.intro f1 (And.intro f2 f3))
  clear hb hb0 hq hR hD hown hR1 HOP t0 hB1
  go_wp2
  have HNB : Hid (∀ W, Below (w1.alloc (.cells #[.string name, .int .i64 rank, .int .i64 flo, .int .i64 flo] 46)).drew.heap.size (w1.alloc (.cells #[.string name, .int .i64 rank, .int .i64 flo, .int .i64 flo] 46)).drew W → ∀ j u, ([.string name, .int .i64 rank, .int .i64 flo, .int .i64 flo] : List Value)[j]? = some u → W.cell? ((⟨w1.heap.size, 0, none⟩ : Addr).add j) = some u) := Lib.hid (fun W hb j u hu => by
    have h1 := cells4_new w1 (.string name) (.int .i64 rank) (.int .i64 flo) (.int .i64 flo) 46 j u hu
    have h2 : ((⟨w1.heap.size, 0, none⟩ : Addr).add j) = ⟨w1.heap.size, j, none⟩ := by
      rcases Nat.eq_zero_or_pos j with rfl | hj
      · rfl
      · unfold Addr.add; rw [if_neg (by omega)]; simp
    rw [h2] at h1 ⊢
    exact keepC hb h1)
  go_region_held3 (fun w' => w'.cell? ⟨w.heap.size, 2, none⟩ = some (.slice A cs.length cap) ∧ w'.cell? ⟨w.heap.size + 1 + 1, 0, none⟩ = some (.string name) ∧ w'.cell? ⟨w.heap.size + 1 + 1, 1, none⟩ = some (.int .i64 rank) ∧ w'.cell? ⟨w.heap.size + 1 + 1, 2, none⟩ = some (.int .i64 flo) ∧ w'.cell? ⟨w.heap.size + 1 + 1, 3, none⟩ = some (.int .i64 flo)) (first | exact HQ.out _ (fun _ _ _ _ h => keepC hB6 h) | exact HQ.out _ (fun _ _ _ _ h => keepC hB5 h) | exact HQ.out _ (fun _ _ _ _ h => keepA (keepC hb3 h) _) | exact HQ.out _ (fun _ _ _ _ h => keepC hb3 (keepA h _)) | exact HQ.out _ (fun _ _ _ _ h => keepC hb3 h) | exact HQ.out _ (fun _ _ _ _ h => keepA h _) | exact HQ.out _ (fun _ _ _ _ h => h)) (first | (have hownA := hown3A.alloc (.cells #[.string name, .int .i64 rank, .int .i64 flo, .int .i64 flo] 46); have hbA : Below w1.heap.size w1 _ := belowA (undrew0 hb3) (.cells #[.string name, .int .i64 rank, .int .i64 flo, .int .i64 flo] 46); refine step_append_lies _ (by rfl) _ _ _ (by rfl) w1.heap.size 46 i4 _ 4 40 Try.underlying40 hi4 hz40 hz41 hz42 rfl (by omega) _ cs.length _ (by rfl) hownA ⟨w3.heap.size, 0, none⟩ 1 1 [.string name, .int .i64 rank, .int .i64 flo, .int .i64 flo] (by rfl) (by rfl) (World.news_of_block (cs := #[.string name, .int .i64 rank, .int .i64 flo, .int .i64 flo]) (t := 46) (fr := (0, 0)) (heap_alloc_new w3 _)) (by simp [Value.oneCell']) (by omega) hk9 hk40 hbA.size _ rfl ?_; intro gg cap9 w5 hown5 hgrow hat hlt5; have hB5 : Below w1.heap.size w1 w5 := grownB hownA hgrow (Nat.le_refl _) hbA) | (have hownA := hown3B; have hbA : Below w1.heap.size w1 _ := belowT (belowA (belowR _) (.cells #[.string name, .int .i64 rank, .int .i64 flo, .int .i64 flo] 46)) (undrew0 hb3); refine step_append_lies _ (by rfl) _ _ _ (by rfl) w1.heap.size 46 i4 _ 4 40 Try.underlying40 hi4 hz40 hz41 hz42 rfl (by omega) _ cs.length _ (by rfl) hownA ⟨w1.heap.size, 0, none⟩ 1 1 [.string name, .int .i64 rank, .int .i64 flo, .int .i64 flo] (by rfl) (by rfl) (HNB.out w3 hb3) (by simp [Value.oneCell']) (by omega) hk9 hk40 hbA.size _ rfl ?_; intro gg cap9 w5 hown5 hgrow hat hlt5; have hB5 : Below w1.heap.size w1 w5 := grownB hownA hgrow (Nat.le_refl _) hbA) | (go_at_call 77; ((with_reducible refine HC1.out.mono ?_); rintro e w3 ⟨v3, rfl, hown3, hb3⟩; have hown3A : w3.ownsRow w1.heap.size 46 4 v3 cs.length (cs.flatMap encClm) := hown3)) | (go_at_call 77; ((with_reducible refine HC2.out.mono ?_); rintro e w3 ⟨v3, rfl, hown3, hb3⟩; have hown3B : w3.ownsRow w1.heap.size 46 4 v3 cs.length (cs.flatMap encClm) := ownsRow_base2 hown3 (by simp))) | (go_at_call 70; refine (told_own (f := ⟨name, rank, flo, flo⟩) hown5 hfs).mono ?_; rintro e w6 ⟨he, hb6⟩; rw [HTOLD.out] at he; subst he; have hB6 := belowT hB5 hb6))
  all_goals
    obtain ⟨f1', f2', f3'⟩ := HF.out
    have g2 : w6.cell? ⟨w.heap.size + 1 + 1, 2, none⟩ = some (.int .i64 flo) := keepC hB6 f2'
    have g3 : w6.cell? ⟨w.heap.size + 1 + 1, 3, none⟩ = some (.int .i64 flo) := keepC hB6 f3'
    have HB6 := Lib.hid hB6
    have HC78 := Lib.hid (one_any flo w6.drew)
    clear hown5 hgrow hownA hb3 hb6 hB5 hB6 r2 f0 f1 f2 f3 f1' f2' f3'
    go_wp2
    go_region_held3 (fun w' => w'.cell? ⟨w.heap.size + 1 + 1, 2, none⟩ = some (.int .i64 flo) ∧ w'.cell? ⟨w.heap.size + 1 + 1, 3, none⟩ = some (.int .i64 flo)) (first | exact ⟨g2, g3⟩ | exact ⟨keepC hb7 g2, keepC hb7 g3⟩) (first | (go_at_call 78; refine HC78.out.mono ?_; rintro e w7 ⟨rfl, hb7⟩))
    have hB7 : Below w6.heap.size w6 w7 := undrew0 hb7
    have HB7 := Lib.hid hB7
    clear hb7 hB7 g2 g3
    have k0 : w7.cell? ⟨w.heap.size + 1, 0, none⟩ = some (.int .i64 P) := keepC HB7.out (keepC HB6.out HT0.out)
    have own7 := own_below (own_below HOWN.out HB6.out) HB7.out
    have hrd7 : RdN 3 encC3 w7 w7.heap.size A1 (jl cs ds) := by
      have := own7
      rw [← jl_len cs ds] at this
      obtain ⟨A6, cap6, e6, hrd6, _⟩ := own_rdN enc3_len this
      injection e6 with e61 e62 e63
      subst e61
      exact hrd6
    have HRD7 := Lib.hid hrd7
    have HO7 := Lib.hid own7
    clear hrd7 own7
    go_wp2_with fail
    refine (HPY.out _ _ _ HRD7.out).mono ?_
    rintro e w8 ⟨A2, cap2, rfl, hown8, hb8⟩
    obtain ⟨g1, cap1', e1, hg1, hg1', _⟩ := own_form HO7.out hl1
    injection e1 with e1 _ e1c
    subst e1
    clear e1c
    obtain ⟨g2, cap2', e2, hg2, hg2', _⟩ := own_form hown8 hl1
    injection e2 with e2 _ e2c
    subst e2
    clear e2c
    have own8 := own_below HO7.out hb8
    have HO8 : Hid (w8.ownsRow (w.heap.size + 1 + 1 + 1) 125 3 (.slice (some ⟨g1, 0, none⟩) cs.length cap1) cs.length ((jl cs ds).flatMap encC3)) := Lib.hid own8
    have HC8 := Lib.hid hown8
    have hB8 : Below w.heap.size w w8 := belowT (belowT (belowT HB1.out HB6.out) HB7.out) hb8
    have HB8 := Lib.hid hB8
    have hz8 := hB8.size
    have hz7 : w.heap.size ≤ w7.heap.size := (belowT (belowT HB1.out HB6.out) HB7.out).size
    have m0 : w8.cell? ⟨w.heap.size + 1, 0, none⟩ = some (.int .i64 P) := keepC hb8 k0
    have m1 : w8.cell? ⟨w.heap.size + 1 + 1, 1, none⟩ = some (.int .i64 rank) := keepC hb8 (keepC HB7.out (keepC HB6.out HF.out.1))
    have m2 : w8.cell? ⟨w.heap.size + 1 + 1, 2, none⟩ = some (.int .i64 flo) := keepC hb8 (keepC HB7.out (keepC HB6.out HF.out.2.1))
    have m3 : w8.cell? ⟨w.heap.size + 1 + 1, 3, none⟩ = some (.int .i64 flo) := keepC hb8 (keepC HB7.out (keepC HB6.out HF.out.2.2))
    have HQ2 : Hid (∀ W' : World, (∀ b o v, b < w.heap.size + 1 + 1 + 1 → w8.cell? ⟨b, o, none⟩ = some v → W'.cell? ⟨b, o, none⟩ = some v) → (W'.cell? ⟨w.heap.size + 1, 0, none⟩ = some (.int .i64 P) ∧ W'.cell? ⟨w.heap.size + 1 + 1, 1, none⟩ = some (.int .i64 rank) ∧ W'.cell? ⟨w.heap.size + 1 + 1, 2, none⟩ = some (.int .i64 flo) ∧ W'.cell? ⟨w.heap.size + 1 + 1, 3, none⟩ = some (.int .i64 flo))) := Lib.hid (fun W' h => ⟨h _ _ _ (by omega) m0, h _ _ _ (by omega) m1, h _ _ _ (by omega) m2, h _ _ _ (by omega) m3⟩)
    have hz8b : w.heap.size + 1 + 1 + 1 ≤ w8.heap.size := by have := lt_of_cell m1; omega
    clear own8 hown8 hb8 hB8 k0
    go_wp2
    go_region_held3 (fun w' => w'.cell? ⟨w.heap.size + 1, 0, none⟩ = some (.int .i64 P) ∧ w'.cell? ⟨w.heap.size + 1 + 1, 1, none⟩ = some (.int .i64 rank) ∧ w'.cell? ⟨w.heap.size + 1 + 1, 2, none⟩ = some (.int .i64 flo) ∧ w'.cell? ⟨w.heap.size + 1 + 1, 3, none⟩ = some (.int .i64 flo)) (first | exact HQ2.out _ (fun _ _ _ hlt h => keepC hb10 (grownC hownB hgrowB hlt (keepA h _))) | exact HQ2.out _ (fun _ _ _ hlt h => grownC hownB hgrowB hlt (keepA h _)) | exact HQ2.out _ (fun _ _ _ _ h => keepA h _) | exact HQ2.out _ (fun _ _ _ _ h => h)) (first | (have hownB := (HO8.out.alloc (.cells #[.int .i64 rank, .int .i64 flo, .int .i64 flo] 125)).drew; refine step_append_lies _ (by rfl) _ _ _ (by rfl) (w.heap.size + 1 + 1 + 1) 125 i5 _ 3 24 Try.underlying115 hi5 hz50 hz51 hz52 rfl (by omega) _ cs.length _ (by rfl) hownB ⟨w8.heap.size, 0, none⟩ 1 1 [.int .i64 rank, .int .i64 flo, .int .i64 flo] (by rfl) (by rfl) (World.news_of_block (cs := #[.int .i64 rank, .int .i64 flo, .int .i64 flo]) (t := 125) (fr := (0, 0)) (heap_alloc_new w8 _)) (by simp [Value.oneCell']) (by omega) hk9 hk24 (by simp; omega) _ rfl ?_; intro gg3 cap9b w9 hown9 hgrowB hat9 hlt9) | (go_at_call 74; refine (pay_own (f := ⟨name, rank, flo, flo⟩) hown9 hl7 HOKF.out hp0 hp9).mono ?_; rintro e w10 ⟨A4, cap4, rfl, hown10, hb10⟩))
    have hB9 : Below w.heap.size w w9 := grownB hownB hgrowB (by omega) (belowN (belowA HB8.out _) 1)
    have hC9 := HC8.out.alloc (.cells #[.int .i64 rank, .int .i64 flo, .int .i64 flo] 125)
    have hC9' := (hC9.drew).kept hgrowB (.inr (by intro e; have e' : some g2 = some g1 := e; injection e' with e'; omega))
    have hC10 := own_below hC9' hb10
    have hz9 : w.heap.size ≤ w9.heap.size := hB9.size
    have hz79 : g2 < w9.heap.size := (hC9'.lt _ rfl).2
    obtain ⟨g4, cap4', e4, hg4, hg4', _⟩ := own_form hown10 (by omega)
    injection e4 with e4 _ e4c
    subst e4
    clear e4c
    have hB10 := belowT hB9 hb10
    obtain ⟨a, ha⟩ : ∃ a, pays (jl cs ds) P = a := ⟨_, rfl⟩
    obtain ⟨bb, hbb⟩ : ∃ bb, pays (jlF cs ds ⟨name, rank, flo, flo⟩) P = bb := ⟨_, rfl⟩
    rw [ha] at hC10
    rw [hbb] at hown10
    have HA := Lib.hid ha
    have HBB := Lib.hid hbb
    have HC10 : Hid (w10.ownsRow w7.heap.size 3 1 (.slice (some ⟨g2, 0, none⟩) cs.length cap2) cs.length ((costTo a bb 0).map iv)) := Lib.hid (by rw [costTo_zero]; exact hC10)
    have HO10 := Lib.hid hown10
    have HB10 := Lib.hid hB10
    clear ha hbb hC10 hown10 hB10 hC9 hC9' hB9 hownB hgrowB hb10 hown9 m0 m1 m2 m3 hat9 hlt9
    go_wp2
    go_loopw [69] (fun vk wr => ∃ k : Nat, k ≤ cs.length ∧ vk = .int .i64 k ∧ Hid (wr.ownsRow w7.heap.size 3 1 (.slice (some ⟨g2, 0, none⟩) cs.length cap2) cs.length ((costTo a bb k).map iv)) ∧ Hid (wr.ownsRow w9.heap.size 3 1 (.slice (some ⟨g4, 0, none⟩) (cs.length + 1) cap4) (cs.length + 1) (bb.map iv)) ∧ Hid (Below w.heap.size w wr)) (fun vk _ => cs.length - (intOf vk).toNat)
    case atStart => exact ⟨0, Nat.zero_le _, rfl, HC10, HO10, HB10⟩
    case round =>
      clear HC10 HO10 HB10
      obtain ⟨k, hk, rfl, HC, HO, HBr⟩ := hrel
      by_cases hlt : k < cs.length
      · obtain ⟨x, hx, hx0, hx9⟩ := pays_at (P := P) HOK3.out (k := k) (by rw [jl_len]; exact hlt)
        obtain ⟨y, hy, hy0, hy9⟩ := pays_at (P := P) HOKF.out (k := k) (by rw [jlF_len]; omega)
        rw [HA.out] at hx
        rw [HBB.out] at hy
        have hc1 := HC.out.cellAt k (by omega)
        have hc2 := HO.out.cellAt k (by omega)
        rw [List.getElem?_map, costTo_at hx] at hc1
        rw [List.getElem?_map, hy] at hc2
        simp only [Option.map_some] at hc1 hc2
        have hfz := HC.out.frozenAt k
        have hst := (HC.out.stored k (iv (x - y))).1
        have hset := costTo_succ hx hy
        rw [← List.map_set, ← hset] at hst
        have hst2 := HO.out.kept (grownSetO wr g2 k (iv (x - y))) (.inr (by intro e; have e' : some g4 = some g2 := e; injection e' with e'; omega))
        have HST := Lib.hid hst
        have HST2 := Lib.hid hst2
        have hBS : Below w.heap.size w (wr.setCell ⟨g2, k, none⟩ (iv (x - y))) := belowS HBr.out (by simp; omega) _
        have HBS := Lib.hid hBS
        have hkz : (k : Int) < (cs.length : Int) := by omega
        have hkz2 : (k : Int) < (cs.length : Int) + 1 := by omega
        have hk0 : (0 : Int) ≤ (k : Int) := by omega
        clear hst hst2 hset hx hy hBS HC HO HBr
        go_wp2
        go_still_tail 9, (by kernel_rfl)
        change wpList _ _ _ _ _ wr.drew
        go_wp2
        go_roundw
        case rel => exact ⟨k + 1, by omega, by go_num, Lib.hid (HST.out.drew), Lib.hid (HST2.out.drew), Lib.hid (belowDr HBS.out)⟩
        case measure => simp [intOf]; omega
      · obtain rfl : k = cs.length := by omega
        go_wp2
        refine bodyPost_ret (results_tmp2 rfl _ _ _) rfl ?_
        exact ⟨_, cap2, rfl, by rw [← HCL.out]; unfold costL; rw [HA.out, HBB.out]; exact ownsRow_base2 HC.out hz7, HBr.out⟩

end Go.Proofs.Ytblbbhenmhkknaa
