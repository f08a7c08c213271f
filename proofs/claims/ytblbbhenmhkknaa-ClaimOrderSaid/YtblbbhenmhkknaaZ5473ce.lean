/- claim.told: the error of the last one of some claims. claim.Check: the error of an estate. -/
import Derived.Test.YtblbbhenmhkknaaZea0523
import Derived.Test.YtblbbhenmhkknaaZ307368
namespace Go.Proofs.Ytblbbhenmhkknaa
open Go.RowKit

/-- Whether a claim of this name is among some. -/
def taken (l : List Clm) (s : ByteArray) : Bool := l.any fun c => c.name.toList == s.toList
theorem taken_snoc (l : List Clm) (s : ByteArray) (k : Nat) (x : Clm) (hx : l[k]? = some x) : taken (l.take (k + 1)) s = (taken (l.take k) s || x.name.toList == s.toList) := by
  unfold taken
  obtain ⟨h, rfl⟩ := List.getElem?_eq_some_iff.1 hx
  rw [List.take_succ_eq_append_getElem h, List.any_append]; simp
theorem taken_yes {l : List Clm} {s : ByteArray} {k : Nat} {x : Clm} (hx : l[k]? = some x) (h : (x.name.toList == s.toList) = true) : taken l s = true := by
  unfold taken
  rw [List.any_eq_true]
  exact ⟨x, List.mem_of_getElem? hx, h⟩

theorem same_any (name s : ByteArray) (rank lo hi : Int) (a : Addr) (w : World) (hc : w.cell? ⟨a.block, 0, none⟩ = some (.string s)) (ha : a = ⟨a.block, 0, none⟩) :
    Calls Try.prog 102 #[.agg #[.string name, .int .i64 rank, .int .i64 lo, .int .i64 hi], .pointer (some a)] w fun e w' => e = .returned (.bool (name.toList == s.toList)) ∧ Below w.heap.size w w' := by
  obtain ⟨b, hb⟩ : ∃ b, a.block = b := ⟨_, rfl⟩
  rw [hb] at ha hc
  subst ha
  have hlt := lt_of_cell hc
  have hca := fun ob => keepA hc ob
  go_enter Try.func102, Try.ntmps102
  go_wp2
  go_ret
  exact ⟨rfl, belowA (belowR _) _⟩

def IdxPostB (b : Bool) (w : World) (e : Ending) (w' : World) : Prop := ∃ r : Int, e = .returned (iv r) ∧ decide (0 ≤ r) = b ∧ Below w.heap.size w w'

set_option maxRecDepth 100000 in
set_option maxHeartbeats 1000000 in
theorem indexClm_any (A : Option Addr) (xs : List Clm) (B cap g : Nat) (s : ByteArray) (w : World) (hm : xs.length ≤ maxLen)
    (hR : RdN 4 encClm w B A xs) (hB : B ≤ w.heap.size) (ha : w.cell? ⟨g, 0, none⟩ = some (.string s)) :
    Calls Try.prog 123 #[.slice A xs.length cap, .func (.func 102) #[] #[.pointer (some ⟨g, 0, none⟩)]] w (IdxPostB (taken xs s) w) := by
  unfold maxLen at hm
  go_enter Try.func123, Try.ntmps123
  go_wp2
  go_loopw [8] (fun i wr => ∃ k : Nat, k ≤ xs.length ∧ i = .int .i64 k ∧ taken (xs.take k) s = false ∧ Below w.heap.size w wr) (fun i _ => xs.length - (intOf i).toNat)
  case atStart => exact ⟨0, Nat.zero_le _, rfl, by simp [taken], belowR _⟩
  case round =>
    obtain ⟨k, hk, rfl, hn, hbw⟩ := hrel
    by_cases hlt : k < xs.length
    · obtain ⟨x, hx⟩ : ∃ x, xs[k]? = some x := ⟨_, List.getElem?_eq_getElem hlt⟩
      obtain ⟨b, off, rfl, _, c0, c1, c2, c3⟩ := clmAt (hR.below hbw hB) hx
      have hg := keepC hbw ha
      obtain ⟨name, rank, lo, hi⟩ := x
      simp only at c0 c1 c2 c3
      have Hx := Lib.hid hx
      clear hx
      by_cases hp : (name.toList == s.toList) = true
      · go_wp2_with (go_at_call 102; refine (same_any name s rank lo hi ⟨g, 0, none⟩ _ hg rfl).mono ?_; rintro e w1 ⟨rfl, hb1⟩)
        go_ret
        exact ⟨k, rfl, by rw [taken_yes Hx.out hp]; simp, belowT hbw hb1⟩
      · have hp' : (name.toList == s.toList) = false := by simpa using hp
        go_wp2_with (go_at_call 102; refine (same_any name s rank lo hi ⟨g, 0, none⟩ _ hg rfl).mono ?_; rintro e w1 ⟨rfl, hb1⟩)
        go_roundw
        case rel => exact ⟨k + 1, by omega, by go_num, by rw [taken_snoc _ _ _ _ Hx.out, hn, hp']; rfl, belowT hbw hb1⟩
        case measure => simp [intOf]; omega
    · go_wp2
      go_ret
      refine ⟨-1, rfl, ?_, hbw⟩
      rw [List.take_of_length_le (by omega)] at hn
      rw [hn]; rfl

theorem containsClm_any (A : Option Addr) (xs : List Clm) (B cap g : Nat) (s : ByteArray) (w : World) (hm : xs.length ≤ maxLen)
    (hR : RdN 4 encClm w B A xs) (hB : B ≤ w.heap.size) (ha : w.cell? ⟨g, 0, none⟩ = some (.string s)) :
    Calls Try.prog 101 #[.slice A xs.length cap, .func (.func 102) #[] #[.pointer (some ⟨g, 0, none⟩)]] w fun e w' => e = .returned (.bool (taken xs s)) ∧ Below w.heap.size w w' := by
  go_enter Try.func101, Try.ntmps101
  go_wp2_with (go_at_call 123; refine (indexClm_any _ xs B cap g s _ hm hR hB ha).mono ?_; rintro e w' ⟨r, rfl, hr, hb⟩)
  go_ret
  exact ⟨by rw [← hr]; rfl, hb⟩

/-- The error of a claim behind some others. -/
def toldE (l : List Clm) (c : Clm) : Int := if nameB c.name then (if taken l c.name then 5 else (if inB 1 5 c.rank then rangeE 0 1000000000 c.lo c.hi else 7)) else 6

set_option maxRecDepth 100000 in
set_option maxHeartbeats 1000000 in
theorem told_any (A : Option Addr) (l : List Clm) (n : Nat) (c : Clm) (B cap : Nat) (w : World) (hm : n + 1 ≤ cap) (hcm : cap ≤ maxLen) (hn : l[n]? = some c) (hs : c.name.size ≤ maxLen) (hR : RdN 4 encClm w B A l) (hB : B ≤ w.heap.size) :
    Calls Try.prog 70 #[.slice A (n + 1) cap] w fun e w' => e = .returned (iv (toldE (l.take n) c)) ∧ Below w.heap.size w w' := by
  have hm' := hm
  unfold maxLen at hcm
  have hnl : n < l.length := (List.getElem?_eq_some_iff.1 hn).1
  obtain ⟨b, off, rfl, _, c0, c1, c2, c3⟩ := clmAt hR hn
  have htl : (l.take n).length = n := by rw [List.length_take]; omega
  have hRt : RdN 4 encClm w B (some ⟨b, off, none⟩) (l.take n) := hR.take n
  obtain ⟨name, rank, lo, hi⟩ := c
  simp only at c0 c1 c2 c3 hs
  cases h1 : nameB name
  · have hr : toldE (l.take n) ⟨name, rank, lo, hi⟩ = 6 := by simp [toldE, h1]
    have HR := Lib.hid hr
    clear hr htl hRt
    go_enter Try.func70, Try.ntmps70
    go_wp2_with (go_at_call 54; refine (name_any _ _ (by assumption)).mono ?_; rintro e w1 ⟨rfl, hb⟩; obtain ⟨hc, hfr⟩ := bcell hb)
    go_ret
    exact ⟨by rw [HR.out]; rfl, belowT (belowA (belowR _) _) hb⟩
  have hcl : ∀ w1 : World, RdN 4 encClm w1 B (some ⟨b, off, none⟩) l → B ≤ w1.heap.size → w1.cell? ⟨w.heap.size, 0, none⟩ = some (.string name) → Calls Try.prog 101 #[.slice (some ⟨b, off, none⟩) n cap, .func (.func 102) #[] #[.pointer (some ⟨w.heap.size, 0, none⟩)]] w1 fun e w' => e = .returned (.bool (taken (l.take n) name)) ∧ Below w1.heap.size w1 w' := fun w1 hR1 hB1 hc => by
    have := containsClm_any (some ⟨b, off, none⟩) (l.take n) B cap w.heap.size name w1 (by rw [htl]; unfold maxLen; omega) (hR1.take n) hB1 hc
    rwa [htl] at this
  have HCL := Lib.hid hcl
  clear hcl hRt htl
  cases h2 : taken (l.take n) name
  case true =>
    have hr : toldE (l.take n) ⟨name, rank, lo, hi⟩ = 5 := by simp [toldE, h1, h2]
    have HR := Lib.hid hr
    clear hr
    go_enter Try.func70, Try.ntmps70
    go_wp2_with (first | (go_at_call 54; refine (name_any _ _ (by assumption)).mono ?_; rintro e w1 ⟨rfl, hb⟩; obtain ⟨hc, hfr⟩ := bcell hb; have hB1 := belowT (belowA (belowR _) _) hb; have z1 : w.heap.size ≤ w1.heap.size := hB1.size; have z1l : w.heap.size < w1.heap.size := (by have := hb.size; simp only [World.size_alloc] at this; omega); have q0 : w1.cell? ⟨w.heap.size, 0, none⟩ = some (.string name) := keepC hb (by go_simp)) | (go_at_call 101; refine (HCL.out w1 (hR.below hB1 hB) (Nat.le_trans hB z1) q0).mono ?_; rintro e w2 ⟨rfl, hb2⟩; have hB2 := belowT hB1 hb2; have z2 : w.heap.size ≤ w2.heap.size := hB2.size; have z2l : w.heap.size < w2.heap.size := (by have := hb2.size; omega); have p1 : w2.cell? ⟨w.heap.size, 1, none⟩ = some (.int .i64 rank) := keepC hb2 (keepC hb (by go_simp)); have p2 : w2.cell? ⟨w.heap.size, 2, none⟩ = some (.int .i64 lo) := keepC hb2 (keepC hb (by go_simp)); have p3 : w2.cell? ⟨w.heap.size, 3, none⟩ = some (.int .i64 hi) := keepC hb2 (keepC hb (by go_simp)); clear hc hfr))
    go_ret
    exact ⟨by rw [HR.out]; rfl, hB2⟩
  cases h3 : inB 1 5 rank
  · have hr : toldE (l.take n) ⟨name, rank, lo, hi⟩ = 7 := by simp [toldE, h1, h2, h3]
    have HR := Lib.hid hr
    clear hr
    go_enter Try.func70, Try.ntmps70
    go_wp2_with (first | (go_at_call 54; refine (name_any _ _ (by assumption)).mono ?_; rintro e w1 ⟨rfl, hb⟩; obtain ⟨hc, hfr⟩ := bcell hb; have hB1 := belowT (belowA (belowR _) _) hb; have z1 : w.heap.size ≤ w1.heap.size := hB1.size; have z1l : w.heap.size < w1.heap.size := (by have := hb.size; simp only [World.size_alloc] at this; omega); have q0 : w1.cell? ⟨w.heap.size, 0, none⟩ = some (.string name) := keepC hb (by go_simp)) | (go_at_call 101; refine (HCL.out w1 (hR.below hB1 hB) (Nat.le_trans hB z1) q0).mono ?_; rintro e w2 ⟨rfl, hb2⟩; have hB2 := belowT hB1 hb2; have z2 : w.heap.size ≤ w2.heap.size := hB2.size; have z2l : w.heap.size < w2.heap.size := (by have := hb2.size; omega); have p1 : w2.cell? ⟨w.heap.size, 1, none⟩ = some (.int .i64 rank) := keepC hb2 (keepC hb (by go_simp)); have p2 : w2.cell? ⟨w.heap.size, 2, none⟩ = some (.int .i64 lo) := keepC hb2 (keepC hb (by go_simp)); have p3 : w2.cell? ⟨w.heap.size, 3, none⟩ = some (.int .i64 hi) := keepC hb2 (keepC hb (by go_simp)); clear hc hfr) | (go_at_call 55; refine (out_one _ _ rank _ _ (by go_simp) (by simp)).mono ?_; rintro e w3 ⟨rfl, hb3⟩; have hB3 := belowT (belowA hB2 _) hb3; have z3l : w.heap.size < w3.heap.size := (by have := hb3.size; simp only [World.size_alloc] at this; omega); have r2 : w3.cell? ⟨w.heap.size, 2, none⟩ = some (.int .i64 lo) := keepC hb3 (keepA p2 _); have r3 : w3.cell? ⟨w.heap.size, 3, none⟩ = some (.int .i64 hi) := keepC hb3 (keepA p3 _)))
    go_ret
    exact ⟨by rw [HR.out]; rfl, hB3⟩
  · have hr : toldE (l.take n) ⟨name, rank, lo, hi⟩ = rangeE 0 1000000000 lo hi := by simp [toldE, h1, h2, h3]
    have HR := Lib.hid hr
    clear hr
    go_enter Try.func70, Try.ntmps70
    go_wp2_with (first | (go_at_call 54; refine (name_any _ _ (by assumption)).mono ?_; rintro e w1 ⟨rfl, hb⟩; obtain ⟨hc, hfr⟩ := bcell hb; have hB1 := belowT (belowA (belowR _) _) hb; have z1 : w.heap.size ≤ w1.heap.size := hB1.size; have z1l : w.heap.size < w1.heap.size := (by have := hb.size; simp only [World.size_alloc] at this; omega); have q0 : w1.cell? ⟨w.heap.size, 0, none⟩ = some (.string name) := keepC hb (by go_simp)) | (go_at_call 101; refine (HCL.out w1 (hR.below hB1 hB) (Nat.le_trans hB z1) q0).mono ?_; rintro e w2 ⟨rfl, hb2⟩; have hB2 := belowT hB1 hb2; have z2 : w.heap.size ≤ w2.heap.size := hB2.size; have z2l : w.heap.size < w2.heap.size := (by have := hb2.size; omega); have p1 : w2.cell? ⟨w.heap.size, 1, none⟩ = some (.int .i64 rank) := keepC hb2 (keepC hb (by go_simp)); have p2 : w2.cell? ⟨w.heap.size, 2, none⟩ = some (.int .i64 lo) := keepC hb2 (keepC hb (by go_simp)); have p3 : w2.cell? ⟨w.heap.size, 3, none⟩ = some (.int .i64 hi) := keepC hb2 (keepC hb (by go_simp)); clear hc hfr) | (go_at_call 55; refine (out_one _ _ rank _ _ (by go_simp) (by simp)).mono ?_; rintro e w3 ⟨rfl, hb3⟩; have hB3 := belowT (belowA hB2 _) hb3; have z3l : w.heap.size < w3.heap.size := (by have := hb3.size; simp only [World.size_alloc] at this; omega); have r2 : w3.cell? ⟨w.heap.size, 2, none⟩ = some (.int .i64 lo) := keepC hb3 (keepA p2 _); have r3 : w3.cell? ⟨w.heap.size, 3, none⟩ = some (.int .i64 hi) := keepC hb3 (keepA p3 _)) | (go_at_call 69; refine (spanned_any lo hi _).mono ?_; rintro e w4 ⟨rfl, hb4⟩))
    go_ret
    exact ⟨by rw [HR.out]; rfl, belowT hB3 hb4⟩
end Go.Proofs.Ytblbbhenmhkknaa

namespace Go.Proofs.Ytblbbhenmhkknaa
open Go.RowKit

def ClmsOk (cs : List Clm) : Prop := ∀ c ∈ cs, c.name.size ≤ maxLen
def toldAt (cs : List Clm) (i : Nat) : Int := match cs[i]? with | some c => toldE (cs.take i) c | none => 0
def estE (lo hi : Int) (cs : List Clm) : Int × Int × Int :=
  if rangeE 0 1000000000 lo hi = 0 then (if inB 1 8 (cs.length : Int) then (match firstBad (toldAt cs) cs.length with | none => (0, 0, 0) | some (i, e) => (2, i, e)) else (1, 0, 3)) else (1, 0, rangeE 0 1000000000 lo hi)

set_option maxRecDepth 100000 in
set_option maxHeartbeats 1000000 in
theorem check_any (lo hi : Int) (A : Option Addr) (cs : List Clm) (B cap : Nat) (w : World) (hm : cs.length ≤ cap) (hcm : cap ≤ maxLen) (hok : ClmsOk cs) (hR : RdN 4 encClm w B A cs) (hB : B ≤ w.heap.size) :
    Calls Try.prog 26 #[.agg #[.int .i64 lo, .int .i64 hi, .slice A cs.length cap]] w fun e w' => e = .returned (ret3 (estE lo hi cs)) ∧ Below w.heap.size w w' := by
  have hcm' := hcm
  unfold maxLen at hcm'
  obtain ⟨E, hE⟩ : ∃ E, rangeE 0 1000000000 lo hi = E := ⟨_, rfl⟩
  by_cases h1 : E = 0
  case neg =>
    have hr : estE lo hi cs = (1, 0, E) := by simp [estE, hE, h1]
    have hne : (E != 0) = true := by simpa using h1
    have HR := Lib.hid hr
    have HE := Lib.hid hE
    clear hr hE h1
    go_enter Try.func26, Try.ntmps26
    go_wp2_with (go_at_call 69; refine (spanned_any lo hi _).mono ?_; rintro e w1 ⟨he, hb⟩; rw [HE.out] at he; subst he)
    go_ret3
    exact ⟨by rw [HR.out]; rfl, belowT (belowA (belowR _) _) hb⟩
  subst h1
  have HE := Lib.hid hE
  cases h2 : inB 1 8 (cs.length : Int)
  · have hr : estE lo hi cs = (1, 0, 3) := by simp [estE, hE, h2]
    have HR := Lib.hid hr
    clear hr hE
    go_enter Try.func26, Try.ntmps26
    go_wp2_with (first | (go_at_call 69; refine (spanned_any lo hi _).mono ?_; rintro e w1 ⟨he, hb⟩; rw [HE.out] at he; subst he; have hB1 := belowT (belowA (belowR _) _) hb; have z1 : w.heap.size ≤ w1.heap.size := hB1.size; have z1l : w.heap.size < w1.heap.size := (by have := hb.size; simp only [World.size_alloc] at this; omega); have q2 : w1.cell? ⟨w.heap.size, 2, none⟩ = some (.slice A cs.length cap) := keepC hb (by go_simp)) | (go_at_call 55; refine (out_one _ _ (cs.length : Int) _ _ (by go_simp) (by simp)).mono ?_; rintro e w2 ⟨rfl, hb2⟩))
    go_ret3
    exact ⟨by rw [HR.out]; rfl, belowT (belowA hB1 _) hb2⟩
  · have hr : estE lo hi cs = (match firstBad (toldAt cs) cs.length with | none => (0, 0, 0) | some (i, e) => (2, i, e)) := by simp only [estE, hE, h2, if_true]
    have HR := Lib.hid hr
    clear hr hE
    go_enter Try.func26, Try.ntmps26
    go_wp2_with (first | (go_at_call 69; refine (spanned_any lo hi _).mono ?_; rintro e w1 ⟨he, hb⟩; rw [HE.out] at he; subst he; have hB1 := belowT (belowA (belowR _) _) hb; have z1 : w.heap.size ≤ w1.heap.size := hB1.size; have z1l : w.heap.size < w1.heap.size := (by have := hb.size; simp only [World.size_alloc] at this; omega); have q2 : w1.cell? ⟨w.heap.size, 2, none⟩ = some (.slice A cs.length cap) := keepC hb (by go_simp)) | (go_at_call 55; refine (out_one _ _ (cs.length : Int) _ _ (by go_simp) (by simp)).mono ?_; rintro e w2 ⟨rfl, hb2⟩; have hB2 := belowT (belowA hB1 _) hb2; have z2l : w.heap.size < w2.heap.size := (by have := hb2.size; simp only [World.size_alloc] at this; omega); have p2 : w2.cell? ⟨w.heap.size, 2, none⟩ = some (.slice A cs.length cap) := keepC hb2 (keepA q2 _)))
    clear hb q2 hb2
    have hcs8 : cs.length ≤ 8 := by have := inB_t h2; omega
    go_loopw [20] (fun i wr => ∃ k : Nat, k ≤ cs.length ∧ i = .int .i64 k ∧ Below w.heap.size w wr ∧ w.heap.size < wr.heap.size ∧ wr.cell? ⟨w.heap.size, 2, none⟩ = some (.slice A cs.length cap) ∧ firstBad (toldAt cs) k = none) (fun i _ => cs.length - (intOf i).toNat)
    case atStart => exact ⟨0, Nat.zero_le _, rfl, hB2, z2l, p2, rfl⟩
    case round =>
      clear p2 z2l hB2 z1 z1l hB1
      obtain ⟨k, hk, rfl, hbw, hzl, p2, hn⟩ := hrel
      have HN := Lib.hid hn
      clear hn
      by_cases hlt : k < cs.length
      · obtain ⟨c, hx⟩ : ∃ x, cs[k]? = some x := ⟨_, List.getElem?_eq_getElem hlt⟩
        have hsn := hok c (List.mem_of_getElem? hx)
        have ht := fun w1 (hR1 : RdN 4 encClm w1 B A cs) (hB1 : B ≤ w1.heap.size) => told_any A cs k c B cap w1 (by omega) hcm hx hsn hR1 hB1
        have he : toldAt cs k = toldE (cs.take k) c := by simp [toldAt, hx]
        obtain ⟨b, off, rfl, _, _⟩ := clmAt hR hx
        obtain ⟨T, hT⟩ : ∃ T, toldE (cs.take k) c = T := ⟨_, rfl⟩
        rw [hT] at he ht
        have HT := Lib.hid ht
        have HE2 := Lib.hid he
        clear ht he hT hx
        by_cases hT0 : T = 0
        · subst hT0
          go_wp2_with (go_at_call 70; refine (HT.out _ (hR.below hbw hB) (Nat.le_trans hB hbw.size)).mono ?_; rintro e w3 ⟨rfl, hb3⟩)
          go_roundw
          case rel => exact ⟨k + 1, by omega, by go_num, belowT hbw hb3, by have := hb3.size; omega, keepC hb3 p2, firstBad_succ HN.out HE2.out⟩
          case measure => simp [intOf]; omega
        · have hne : (T != 0) = true := by simpa using hT0
          go_wp2_with (go_at_call 70; refine (HT.out _ (hR.below hbw hB) (Nat.le_trans hB hbw.size)).mono ?_; rintro e w3 ⟨rfl, hb3⟩)
          go_ret3
          exact ⟨by rw [HR.out, firstBad_at HN.out (by rw [HE2.out]; exact hT0) hlt, HE2.out]; rfl, belowT hbw hb3⟩
      · go_wp2
        go_ret3
        obtain rfl : k = cs.length := by omega
        exact ⟨by rw [HR.out, HN.out]; rfl, hbw⟩
end Go.Proofs.Ytblbbhenmhkknaa
