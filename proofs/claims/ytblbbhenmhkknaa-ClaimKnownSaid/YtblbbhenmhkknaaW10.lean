/- The contract of claim.open: a ship on a day. -/
import Derived.Test.YtblbbhenmhkknaaW6
import Derived.Test.YtblbbhenmhkknaaW9
import Derived.Test.YtblbbhenmhkknaaSrt
namespace Go.Proofs.Ytblbbhenmhkknaa
open Go.RowKit Go.Sort

theorem Try.info3 : (Try.prog.info? 3).map (fun i => (i.zero, i.size, i.bytes)) = some (some (.int .i64 0), 1, 8) := by kernel_rfl

/-- The papers up to a day, among the first ones. -/
def upTo (ps : List Pap) (day : Int) (k : Nat) : List Nat := (List.range k).filter fun i => decide (dayOf ps i ≤ day)
theorem upTo_yes {ps : List Pap} {day : Int} {k : Nat} (h : dayOf ps k ≤ day) : upTo ps day (k + 1) = upTo ps day k ++ [k] := by
  unfold upTo; rw [List.range_succ, List.filter_append]; simp [h]
theorem upTo_no {ps : List Pap} {day : Int} {k : Nat} (h : ¬ dayOf ps k ≤ day) : upTo ps day (k + 1) = upTo ps day k := by
  unfold upTo; rw [List.range_succ, List.filter_append]; simp [h]
theorem upTo_le (ps : List Pap) (day : Int) (k : Nat) : (upTo ps day k).length ≤ k := by
  unfold upTo; exact Nat.le_trans (List.length_filter_le _ _) (by simp)
theorem upTo_asc (ps : List Pap) (day : Int) (k : Nat) : (upTo ps day k).Pairwise (· < ·) := by
  unfold upTo; exact List.Pairwise.filter _ List.pairwise_lt_range
theorem upTo_mem (ps : List Pap) (day : Int) (k x : Nat) : x ∈ upTo ps day k ↔ x < k ∧ dayOf ps x ≤ day := by
  unfold upTo; simp

structure IsOrder (ps : List Pap) (day : Int) (o : List Nat) : Prop where
  sorted : o.Pairwise (KO (dayOf ps))
  mem : ∀ x, x ∈ o ↔ x < ps.length ∧ dayOf ps x ≤ day
  len : o.length ≤ ps.length
theorem IsOrder.unique {ps : List Pap} {day : Int} {o o' : List Nat} (h : IsOrder ps day o) (h' : IsOrder ps day o') : o = o' :=
  KO_unique _ _ _ h.sorted h'.sorted fun x => (h.mem x).trans (h'.mem x).symm
theorem sorted_order (ps : List Pap) (day : Int) : IsOrder ps day (Sort.insertionSort (ltD ps) (upTo ps day ps.length).toArray 0 (upTo ps day ps.length).toArray.size).toList := by
  obtain ⟨o, ho, hs, hm, hl⟩ := insertionSort_list (dayOf ps) (upTo ps day ps.length).toArray (by simpa using upTo_asc ps day ps.length)
  have e : (Sort.insertionSort (ltD ps) (upTo ps day ps.length).toArray 0 (upTo ps day ps.length).toArray.size).toList = o := ho
  rw [e]
  refine ⟨hs, fun x => ?_, ?_⟩
  · rw [hm x]; simp [upTo_mem]
  · rw [hl]; simpa using upTo_le ps day ps.length

def shipErr (first : ByteArray) (ps : List Pap) (forged : Int) : Int := (shipE first ps forged).2.2
def openE (first : ByteArray) (ps : List Pap) (forged day : Int) : Int := if shipErr first ps forged = 0 then (if inB 0 40000 day then 0 else 7) else shipErr first ps forged

theorem firstBad_none {f : Nat → Int} {n : Nat} (h : firstBad f n = none) {i : Nat} (hi : i < n) : f i = 0 := by
  unfold firstBad at h
  rw [List.findSome?_eq_none_iff] at h
  have := h i (by simpa using hi)
  by_cases h0 : f i = 0
  · exact h0
  · simp [h0] at this
theorem firstBad_some {f : Nat → Int} {n i : Nat} {e : Int} (h : firstBad f n = some (i, e)) : e ≠ 0 ∧ i < n ∧ e = f i := by
  unfold firstBad at h
  obtain ⟨j, hj, h2⟩ := List.exists_of_findSome?_eq_some h
  by_cases h0 : f j = 0
  · simp [h0] at h2
  · simp [h0] at h2
    obtain ⟨rfl, rfl⟩ := h2
    exact ⟨h0, by simpa using hj, rfl⟩
theorem papE_ok {p : Pap} (h : papE p = 0) : inB 0 40000 p.day = true ∧ nameB p.src = true ∧ nameB p.dst = true ∧ (p.src.toList == p.dst.toList) = false := by
  unfold papE at h
  cases h1 : inB 0 40000 p.day
  · simp [h1] at h
  cases h2 : nameB p.src
  · simp [h1, h2] at h
  cases h3 : nameB p.dst
  · simp [h1, h2, h3] at h
  cases h4 : (p.src.toList == p.dst.toList)
  · simp
  · rw [h1, h2, h3, h4] at h; simp at h
structure ShipOk (first : ByteArray) (ps : List Pap) (forged : Int) : Prop where
  first : nameB first = true
  len : ps.length ≤ 8
  forged : inB 0 8 forged = true
  paps : ∀ p ∈ ps, papE p = 0
theorem shipErr_ok {first : ByteArray} {ps : List Pap} {forged : Int} (h : shipErr first ps forged = 0) : ShipOk first ps forged := by
  unfold shipErr shipE at h
  cases h1 : nameB first
  · simp [h1] at h
  by_cases h2 : ps.length ≤ 8
  case neg => simp [h1, h2] at h
  cases h3 : inB 0 8 forged
  · simp [h1, h2, h3] at h
  cases h4 : firstBad (papsE ps) ps.length with
  | some r =>
    obtain ⟨i, e⟩ := r
    obtain ⟨h5, _⟩ := firstBad_some h4
    simp [h1, h2, h3, h4] at h
    exact absurd h h5
  | none =>
    refine ⟨h1, h2, h3, fun p hp => ?_⟩
    obtain ⟨i, hi⟩ := List.mem_iff_getElem?.1 hp
    have := firstBad_none h4 (List.getElem?_eq_some_iff.1 hi).1
    simpa [papsE, hi] using this
theorem ShipOk.days {first : ByteArray} {ps : List Pap} {forged : Int} (h : ShipOk first ps forged) : ∀ p ∈ ps, 0 ≤ p.day ∧ p.day ≤ 40000 :=
  fun p hp => inB_t (papE_ok (h.paps p hp)).1

def OpenPost (first : ByteArray) (A : Option Addr) (ps : List Pap) (cap : Nat) (forged day : Int) (w : World) (e : Ending) (w' : World) : Prop :=
  ∃ A' capO o, IsOrder ps day o ∧ e = .returned (.tuple #[.agg #[.string first, .slice A ps.length cap, .int .i64 forged, .slice A' o.length capO], iv 0]) ∧ Rd1 nv w' w'.heap.size A' o ∧ Below w.heap.size w w'
def OpenNo (err : Int) (w : World) (e : Ending) (w' : World) : Prop := e = .returned (.tuple #[.agg #[.string { data := #[] }, .slice none 0 0, .int .i64 0, .slice none 0 0], iv err]) ∧ Below w.heap.size w w'

set_option maxRecDepth 100000 in
set_option maxHeartbeats 1000000 in
theorem open_no (first : ByteArray) (A : Option Addr) (ps : List Pap) (B cap : Nat) (forged day : Int) (w : World) (hf : first.size ≤ maxLen) (hm : ps.length ≤ maxLen) (hok : PapsOk ps) (hR : RdN 3 encPap w B A ps) (hB : B ≤ w.heap.size)
    (hE : openE first ps forged day ≠ 0) :
    Calls Try.prog 58 #[.agg #[.string first, .slice A ps.length cap, .int .i64 forged], .int .i64 day] w (OpenNo (openE first ps forged day) w) := by
  by_cases hs : shipErr first ps forged = 0
  · have hday : inB 0 40000 day = false := by
      cases h : inB 0 40000 day
      · rfl
      · simp [openE, hs, h] at hE
    have he2 : openE first ps forged day = 7 := by simp [openE, hs, hday]
    obtain ⟨r, hr⟩ : ∃ r, shipE first ps forged = r := ⟨_, rfl⟩
    have hs2 : r.2.2 = 0 := by rw [← hr]; exact hs
    obtain ⟨r1, r2, r3⟩ := r
    simp only at hs2
    subst hs2
    have HE := Lib.hid he2
    have HR := Lib.hid hr
    clear hr hs he2 hE
    go_enter Try.func58, Try.ntmps58
    go_wp2_with fail
    refine (checkShip_any first A ps B cap forged _ hf hm hok (by exact hR.below (B' := w.heap.size) (belowA (belowA (belowR _) _) _) hB) (by simp; omega)).mono ?_
    rintro e w1 ⟨he, hb⟩
    rw [HR.out] at he
    simp only [ret3] at he
    subst he
    have hB1 := belowT (belowA (belowA (belowR _) _) _) hb
    have z1 : w.heap.size ≤ w1.heap.size := hB1.size
    have z1l : w.heap.size + 1 < w1.heap.size := (by have := hb.size; simp only [World.size_alloc] at this; omega)
    have z1m : w.heap.size < w1.heap.size := (by omega)
    have q0 : w1.cell? ⟨w.heap.size + 1, 0, none⟩ = some (.string { data := #[] }) := keepC hb (by go_simp)
    have q1 : w1.cell? ⟨w.heap.size + 1, 1, none⟩ = some (.slice none 0 0) := keepC hb (by go_simp)
    have q2 : w1.cell? ⟨w.heap.size + 1, 2, none⟩ = some (.int .i64 0) := keepC hb (by go_simp)
    have q3 : w1.cell? ⟨w.heap.size + 1, 3, none⟩ = some (.slice none 0 0) := keepC hb (by go_simp)
    have f0 : ∀ o v, w1.cell? ⟨w.heap.size + 1, o, none⟩ = some v → w1.frozen? ⟨w.heap.size + 1, o, none⟩ = false := (fun o v _ => (hb.frozen (p := ⟨w.heap.size + 1, o, none⟩) (by simp)).trans (by go_simp))
    have r0 : w1.cell? ⟨w.heap.size, 0, none⟩ = some (.string first) := keepC hb (by go_simp)
    have r1 : w1.cell? ⟨w.heap.size, 1, none⟩ = some (.slice A ps.length cap) := keepC hb (by go_simp)
    have r2 : w1.cell? ⟨w.heap.size, 2, none⟩ = some (.int .i64 forged) := keepC hb (by go_simp)
    obtain ⟨hc, hfr⟩ := bcell hb
    go_wp2_with fail
    refine (out_one _ _ day _ _ (by go_simp) (by simp)).mono ?_
    rintro e w2 ⟨rfl, hb2⟩
    have hB2 := belowT (belowA hB1 _) hb2
    have z2 : w.heap.size ≤ w2.heap.size := hB2.size
    have z2l : w.heap.size + 1 < w2.heap.size := (by have := hb2.size; simp only [World.size_alloc] at this; omega)
    have p0 : w2.cell? ⟨w.heap.size + 1, 0, none⟩ = some (.string { data := #[] }) := keepC hb2 (keepA q0 _)
    have p1 : w2.cell? ⟨w.heap.size + 1, 1, none⟩ = some (.slice none 0 0) := keepC hb2 (keepA q1 _)
    have p2 : w2.cell? ⟨w.heap.size + 1, 2, none⟩ = some (.int .i64 0) := keepC hb2 (keepA q2 _)
    have p3 : w2.cell? ⟨w.heap.size + 1, 3, none⟩ = some (.slice none 0 0) := keepC hb2 (keepA q3 _)
    have fz : ∀ o, w2.frozen? ⟨w.heap.size + 1, o, none⟩ = false := (fun o => (hb2.frozen (p := ⟨w.heap.size + 1, o, none⟩) (by simp; omega)).trans ((World.frozen?_of_block (a := ⟨w.heap.size + 1, o, none⟩) (Below.heap_alloc w1 _ _ z1l)).trans ((hb.frozen (p := ⟨w.heap.size + 1, o, none⟩) (by simp)).trans (by go_simp))))
    have s0 : w2.cell? ⟨w.heap.size, 0, none⟩ = some (.string first) := keepC hb2 (keepA r0 _)
    have s1 : w2.cell? ⟨w.heap.size, 1, none⟩ = some (.slice A ps.length cap) := keepC hb2 (keepA r1 _)
    have s2 : w2.cell? ⟨w.heap.size, 2, none⟩ = some (.int .i64 forged) := keepC hb2 (keepA r2 _)
    go_wp2
    exact bodyPost_ret (v := .tuple #[.agg #[.string { data := #[] }, .slice none 0 0, .int .i64 0, .slice none 0 0], iv 7]) (by simp [results, Try.results58, go_sem, p0, p1, p2, p3]) rfl ⟨by rw [HE.out], belowS (belowS (belowS (belowS hB2 (by simp) _) (by simp) _) (by simp) _) (by simp) _⟩
  · have he : openE first ps forged day = shipErr first ps forged := by simp [openE, hs]
    obtain ⟨r, hr⟩ : ∃ r, shipE first ps forged = r := ⟨_, rfl⟩
    have he2 : openE first ps forged day = r.2.2 := by rw [he, ← hr]; rfl
    have hs2 : r.2.2 ≠ 0 := by rw [← hr]; exact hs
    obtain ⟨r1, r2, r3⟩ := r
    have HE := Lib.hid he2
    have HR := Lib.hid hr
    have hne : (r3 != 0) = true := by simpa using hs2
    clear hr hs he he2 hE hs2
    go_enter Try.func58, Try.ntmps58
    go_wp2_with (go_at_call 17; refine (checkShip_any first A ps B cap forged _ hf hm hok (by exact hR.below (B' := w.heap.size) (belowA (belowA (belowR _) _) _) hB) (by simp; omega)).mono ?_; rintro e w1 ⟨he, hb⟩; rw [HR.out] at he; simp only [ret3] at he; subst he; have hB1 := belowT (belowA (belowA (belowR _) _) _) hb; have z1 : w.heap.size ≤ w1.heap.size := hB1.size; have z1l : w.heap.size + 1 < w1.heap.size := (by have := hb.size; simp only [World.size_alloc] at this; omega); have z1m : w.heap.size < w1.heap.size := (by omega); have q0 : w1.cell? ⟨w.heap.size + 1, 0, none⟩ = some (.string { data := #[] }) := keepC hb (by go_simp); have q1 : w1.cell? ⟨w.heap.size + 1, 1, none⟩ = some (.slice none 0 0) := keepC hb (by go_simp); have q2 : w1.cell? ⟨w.heap.size + 1, 2, none⟩ = some (.int .i64 0) := keepC hb (by go_simp); have q3 : w1.cell? ⟨w.heap.size + 1, 3, none⟩ = some (.slice none 0 0) := keepC hb (by go_simp); have f0 : ∀ o v, w1.cell? ⟨w.heap.size + 1, o, none⟩ = some v → w1.frozen? ⟨w.heap.size + 1, o, none⟩ = false := (fun o v _ => (hb.frozen (p := ⟨w.heap.size + 1, o, none⟩) (by simp)).trans (by go_simp)); have r0 : w1.cell? ⟨w.heap.size, 0, none⟩ = some (.string first) := keepC hb (by go_simp); have r1 : w1.cell? ⟨w.heap.size, 1, none⟩ = some (.slice A ps.length cap) := keepC hb (by go_simp); have r2 : w1.cell? ⟨w.heap.size, 2, none⟩ = some (.int .i64 forged) := keepC hb (by go_simp); obtain ⟨hc, hfr⟩ := bcell hb)
    exact bodyPost_ret (v := .tuple #[.agg #[.string { data := #[] }, .slice none 0 0, .int .i64 0, .slice none 0 0], iv r3]) (by simp [results, Try.results58, go_sem, q0, q1, q2, q3]) rfl ⟨by rw [HE.out], belowS (belowS (belowS (belowS hB1 (by simp) _) (by simp) _) (by simp) _) (by simp) _⟩
end Go.Proofs.Ytblbbhenmhkknaa
