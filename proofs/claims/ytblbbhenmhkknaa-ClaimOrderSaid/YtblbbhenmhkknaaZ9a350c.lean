/- The contract of claim.open: a ship on a day. The contract of claim.open, where ship and day are valid. -/
import Derived.Test.YtblbbhenmhkknaaZ307368
import Derived.Test.YtblbbhenmhkknaaZ103278
import Derived.Test.YtblbbhenmhkknaaYSrt
namespace Go.Proofs.Ytblbbhenmhkknaa
open Go.RowKit Go.Sort

theorem Try.info3 : (Try.prog.info? 3).map (fun i => (i.zero, i.size, i.bytes)) = some (some (.int .i64 0), 1, 8) := by kernel_rfl

/-- The papers up to a day, among the first ones. -/
def upTo (ps : List Pap) (day : Int) (k : Nat) : List Nat := (List.range k).filter fun i => decide (dayOf ps i ≤ day)
theorem upTo_yes {ps : List Pap} {day : Int} {k : Nat} (h : dayOf ps k ≤ day) : upTo ps day (k + 1) = upTo ps day k ++ [k] := by
  unfold upTo; rw [List.range_succ, List.filter_append]; simp [h]
theorem upTo_no {ps : List Pap} {day : Int} {k : Nat} (h : ¬ dayOf ps k ≤ day) : upTo ps day (k + 1) = upTo ps day k := by
  unfold upTo; rw [List.range_succ, List.filter_append]; simp [h]
theorem upTo_le (ps : List Pap) (day : Int) (k : Nat) : (upTo ps day k).length ≤ k := by
  unfold upTo; exact Nat.le_trans (List.length_filter_le _ _) (by simp)
theorem upTo_asc (ps : List Pap) (day : Int) (k : Nat) : (upTo ps day k).Pairwise (· < ·) := by
  unfold upTo; exact List.Pairwise.filter _ List.pairwise_lt_range
theorem upTo_mem (ps : List Pap) (day : Int) (k x : Nat) : x ∈ upTo ps day k ↔ x < k ∧ dayOf ps x ≤ day := by
  unfold upTo; simp

structure IsOrder (ps : List Pap) (day : Int) (o : List Nat) : Prop where
  sorted : o.Pairwise (KO (dayOf ps))
  mem : ∀ x, x ∈ o ↔ x < ps.length ∧ dayOf ps x ≤ day
  len : o.length ≤ ps.length
theorem IsOrder.unique {ps : List Pap} {day : Int} {o o' : List Nat} (h : IsOrder ps day o) (h' : IsOrder ps day o') : o = o' :=
  KO_unique _ _ _ h.sorted h'.sorted fun x => (h.mem x).trans (h'.mem x).symm
theorem sorted_order (ps : List Pap) (day : Int) : IsOrder ps day (Sort.insertionSort (ltD ps) (upTo ps day ps.length).toArray 0 (upTo ps day ps.length).toArray.size).toList := by
  obtain ⟨o, ho, hs, hm, hl⟩ := insertionSort_list (dayOf ps) (upTo ps day ps.length).toArray (by simpa using upTo_asc ps day ps.length)
  have e : (Sort.insertionSort (ltD ps) (upTo ps day ps.length).toArray 0 (upTo ps day ps.length).toArray.size).toList = o := ho
  rw [e]
  refine ⟨hs, fun x => ?_, ?_⟩
  · rw [hm x]; simp [upTo_mem]
  · rw [hl]; simpa using upTo_le ps day ps.length

def shipErr (first : ByteArray) (ps : List Pap) (forged : Int) : Int := (shipE first ps forged).2.2
def openE (first : ByteArray) (ps : List Pap) (forged day : Int) : Int := if shipErr first ps forged = 0 then (if inB 0 40000 day then 0 else 7) else shipErr first ps forged

theorem firstBad_none {f : Nat → Int} {n : Nat} (h : firstBad f n = none) {i : Nat} (hi : i < n) : f i = 0 := by
  unfold firstBad at h
  rw [List.findSome?_eq_none_iff] at h
  have := h i (by simpa using hi)
  by_cases h0 : f i = 0
  · exact h0
  · simp [h0] at this
theorem firstBad_some {f : Nat → Int} {n i : Nat} {e : Int} (h : firstBad f n = some (i, e)) : e ≠ 0 ∧ i < n ∧ e = f i := by
  unfold firstBad at h
  obtain ⟨j, hj, h2⟩ := List.exists_of_findSome?_eq_some h
  by_cases h0 : f j = 0
  · simp [h0] at h2
  · simp [h0] at h2
    obtain ⟨rfl, rfl⟩ := h2
    exact ⟨h0, by simpa using hj, rfl⟩
theorem papE_ok {p : Pap} (h : papE p = 0) : inB 0 40000 p.day = true ∧ nameB p.src = true ∧ nameB p.dst = true ∧ (p.src.toList == p.dst.toList) = false := by
  unfold papE at h
  cases h1 : inB 0 40000 p.day
  · simp [h1] at h
  cases h2 : nameB p.src
  · simp [h1, h2] at h
  cases h3 : nameB p.dst
  · simp [h1, h2, h3] at h
  cases h4 : (p.src.toList == p.dst.toList)
  · simp
  · rw [h1, h2, h3, h4] at h; simp at h
structure ShipOk (first : ByteArray) (ps : List Pap) (forged : Int) : Prop where
  first : nameB first = true
  len : ps.length ≤ 8
  forged : inB 0 8 forged = true
  paps : ∀ p ∈ ps, papE p = 0
theorem shipErr_ok {first : ByteArray} {ps : List Pap} {forged : Int} (h : shipErr first ps forged = 0) : ShipOk first ps forged := by
  unfold shipErr shipE at h
  cases h1 : nameB first
  · simp [h1] at h
  by_cases h2 : ps.length ≤ 8
  case neg => simp [h1, h2] at h
  cases h3 : inB 0 8 forged
  · simp [h1, h2, h3] at h
  cases h4 : firstBad (papsE ps) ps.length with
  | some r =>
    obtain ⟨i, e⟩ := r
    obtain ⟨h5, _⟩ := firstBad_some h4
    simp [h1, h2, h3, h4] at h
    exact absurd h h5
  | none =>
    refine ⟨h1, h2, h3, fun p hp => ?_⟩
    obtain ⟨i, hi⟩ := List.mem_iff_getElem?.1 hp
    have := firstBad_none h4 (List.getElem?_eq_some_iff.1 hi).1
    simpa [papsE, hi] using this
theorem ShipOk.days {first : ByteArray} {ps : List Pap} {forged : Int} (h : ShipOk first ps forged) : ∀ p ∈ ps, 0 ≤ p.day ∧ p.day ≤ 40000 :=
  fun p hp => inB_t (papE_ok (h.paps p hp)).1

def OpenPost (first : ByteArray) (A : Option Addr) (ps : List Pap) (cap : Nat) (forged day : Int) (w : World) (e : Ending) (w' : World) : Prop :=
  ∃ A' capO o, IsOrder ps day o ∧ e = .returned (.tuple #[.agg #[.string first, .slice A ps.length cap, .int .i64 forged, .slice A' o.length capO], iv 0]) ∧ Rd1 nv w' w'.heap.size A' o ∧ Below w.heap.size w w'
def OpenNo (err : Int) (w : World) (e : Ending) (w' : World) : Prop := e = .returned (.tuple #[.agg #[.string { data := #[] }, .slice none 0 0, .int .i64 0, .slice none 0 0], iv err]) ∧ Below w.heap.size w w'

set_option maxRecDepth 100000 in
set_option maxHeartbeats 1000000 in
theorem open_no (first : ByteArray) (A : Option Addr) (ps : List Pap) (B cap : Nat) (forged day : Int) (w : World) (hf : first.size ≤ maxLen) (hm : ps.length ≤ maxLen) (hok : PapsOk ps) (hR : RdN 3 encPap w B A ps) (hB : B ≤ w.heap.size)
    (hE : openE first ps forged day ≠ 0) :
    Calls Try.prog 58 #[.agg #[.string first, .slice A ps.length cap, .int .i64 forged], .int .i64 day] w (OpenNo (openE first ps forged day) w) := by
  by_cases hs : shipErr first ps forged = 0
  · have hday : inB 0 40000 day = false := by
      cases h : inB 0 40000 day
      · rfl
      · simp [openE, hs, h] at hE
    have he2 : openE first ps forged day = 7 := by simp [openE, hs, hday]
    obtain ⟨r, hr⟩ : ∃ r, shipE first ps forged = r := ⟨_, rfl⟩
    have hs2 : r.2.2 = 0 := by rw [← hr]; exact hs
    obtain ⟨r1, r2, r3⟩ := r
    simp only at hs2
    subst hs2
    have HE := Lib.hid he2
    have HR := Lib.hid hr
    clear hr hs he2 hE
    go_enter Try.func58, Try.ntmps58
    go_wp2_with fail
    refine (checkShip_any first A ps B cap forged _ hf hm hok (by exact hR.below (B' := w.heap.size) (belowA (belowA (belowR _) _) _) hB) (by simp; omega)).mono ?_
    rintro e w1 ⟨he, hb⟩
    rw [HR.out] at he
    simp only [ret3] at he
    subst he
    have hB1 := belowT (belowA (belowA (belowR _) _) _) hb
    have z1 : w.heap.size ≤ w1.heap.size := hB1.size
    have z1l : w.heap.size + 1 < w1.heap.size := (by have := hb.size; simp only [World.size_alloc] at this; omega)
    have z1m : w.heap.size < w1.heap.size := (by omega)
    have q0 : w1.cell? ⟨w.heap.size + 1, 0, none⟩ = some (.string { data := #[] }) := keepC hb (by go_simp)
    have q1 : w1.cell? ⟨w.heap.size + 1, 1, none⟩ = some (.slice none 0 0) := keepC hb (by go_simp)
    have q2 : w1.cell? ⟨w.heap.size + 1, 2, none⟩ = some (.int .i64 0) := keepC hb (by go_simp)
    have q3 : w1.cell? ⟨w.heap.size + 1, 3, none⟩ = some (.slice none 0 0) := keepC hb (by go_simp)
    have f0 : ∀ o v, w1.cell? ⟨w.heap.size + 1, o, none⟩ = some v → w1.frozen? ⟨w.heap.size + 1, o, none⟩ = false := (fun o v _ => (hb.frozen (p := ⟨w.heap.size + 1, o, none⟩) (by simp)).trans (by go_simp))
    have r0 : w1.cell? ⟨w.heap.size, 0, none⟩ = some (.string first) := keepC hb (by go_simp)
    have r1 : w1.cell? ⟨w.heap.size, 1, none⟩ = some (.slice A ps.length cap) := keepC hb (by go_simp)
    have r2 : w1.cell? ⟨w.heap.size, 2, none⟩ = some (.int .i64 forged) := keepC hb (by go_simp)
    obtain ⟨hc, hfr⟩ := bcell hb
    go_wp2_with fail
    refine (out_one _ _ day _ _ (by go_simp) (by simp)).mono ?_
    rintro e w2 ⟨rfl, hb2⟩
    have hB2 := belowT (belowA hB1 _) hb2
    have z2 : w.heap.size ≤ w2.heap.size := hB2.size
    have z2l : w.heap.size + 1 < w2.heap.size := (by have := hb2.size; simp only [World.size_alloc] at this; omega)
    have p0 : w2.cell? ⟨w.heap.size + 1, 0, none⟩ = some (.string { data := #[] }) := keepC hb2 (keepA q0 _)
    have p1 : w2.cell? ⟨w.heap.size + 1, 1, none⟩ = some (.slice none 0 0) := keepC hb2 (keepA q1 _)
    have p2 : w2.cell? ⟨w.heap.size + 1, 2, none⟩ = some (.int .i64 0) := keepC hb2 (keepA q2 _)
    have p3 : w2.cell? ⟨w.heap.size + 1, 3, none⟩ = some (.slice none 0 0) := keepC hb2 (keepA q3 _)
    have fz : ∀ o, w2.frozen? ⟨w.heap.size + 1, o, none⟩ = false := (fun o => (hb2.frozen (p := ⟨w.heap.size + 1, o, none⟩) (by simp; omega)).trans ((World.frozen?_of_block (a := ⟨w.heap.size + 1, o, none⟩) (Below.heap_alloc w1 _ _ z1l)).trans ((hb.frozen (p := ⟨w.heap.size + 1, o, none⟩) (by simp)).trans (by go_simp))))
    have s0 : w2.cell? ⟨w.heap.size, 0, none⟩ = some (.string first) := keepC hb2 (keepA r0 _)
    have s1 : w2.cell? ⟨w.heap.size, 1, none⟩ = some (.slice A ps.length cap) := keepC hb2 (keepA r1 _)
    have s2 : w2.cell? ⟨w.heap.size, 2, none⟩ = some (.int .i64 forged) := keepC hb2 (keepA r2 _)
    go_wp2
    exact bodyPost_ret (v := .tuple #[.agg #[.string { data := #[] }, .slice none 0 0, .int .i64 0, .slice none 0 0], iv 7]) (by simp [results, Try.results58, go_sem, p0, p1, p2, p3]) rfl ⟨by rw [HE.out], belowS (belowS (belowS (belowS hB2 (by simp) _) (by simp) _) (by simp) _) (by simp) _⟩
  · have he : openE first ps forged day = shipErr first ps forged := by simp [openE, hs]
    obtain ⟨r, hr⟩ : ∃ r, shipE first ps forged = r := ⟨_, rfl⟩
    have he2 : openE first ps forged day = r.2.2 := by rw [he, ← hr]; rfl
    have hs2 : r.2.2 ≠ 0 := by rw [← hr]; exact hs
    obtain ⟨r1, r2, r3⟩ := r
    have HE := Lib.hid he2
    have HR := Lib.hid hr
    have hne : (r3 != 0) = true := by simpa using hs2
    clear hr hs he he2 hE hs2
    go_enter Try.func58, Try.ntmps58
    go_wp2_with (go_at_call 17; refine (checkShip_any first A ps B cap forged _ hf hm hok (by exact hR.below (B' := w.heap.size) (belowA (belowA (belowR _) _) _) hB) (by simp; omega)).mono ?_; rintro e w1 ⟨he, hb⟩; rw [HR.out] at he; simp only [ret3] at he; subst he; have hB1 := belowT (belowA (belowA (belowR _) _) _) hb; have z1 : w.heap.size ≤ w1.heap.size := hB1.size; have z1l : w.heap.size + 1 < w1.heap.size := (by have := hb.size; simp only [World.size_alloc] at this; omega); have z1m : w.heap.size < w1.heap.size := (by omega); have q0 : w1.cell? ⟨w.heap.size + 1, 0, none⟩ = some (.string { data := #[] }) := keepC hb (by go_simp); have q1 : w1.cell? ⟨w.heap.size + 1, 1, none⟩ = some (.slice none 0 0) := keepC hb (by go_simp); have q2 : w1.cell? ⟨w.heap.size + 1, 2, none⟩ = some (.int .i64 0) := keepC hb (by go_simp); have q3 : w1.cell? ⟨w.heap.size + 1, 3, none⟩ = some (.slice none 0 0) := keepC hb (by go_simp); have f0 : ∀ o v, w1.cell? ⟨w.heap.size + 1, o, none⟩ = some v → w1.frozen? ⟨w.heap.size + 1, o, none⟩ = false := (fun o v _ => (hb.frozen (p := ⟨w.heap.size + 1, o, none⟩) (by simp)).trans (by go_simp)); have r0 : w1.cell? ⟨w.heap.size, 0, none⟩ = some (.string first) := keepC hb (by go_simp); have r1 : w1.cell? ⟨w.heap.size, 1, none⟩ = some (.slice A ps.length cap) := keepC hb (by go_simp); have r2 : w1.cell? ⟨w.heap.size, 2, none⟩ = some (.int .i64 forged) := keepC hb (by go_simp); obtain ⟨hc, hfr⟩ := bcell hb)
    exact bodyPost_ret (v := .tuple #[.agg #[.string { data := #[] }, .slice none 0 0, .int .i64 0, .slice none 0 0], iv r3]) (by simp [results, Try.results58, go_sem, q0, q1, q2, q3]) rfl ⟨by rw [HE.out], belowS (belowS (belowS (belowS hB1 (by simp) _) (by simp) _) (by simp) _) (by simp) _⟩
end Go.Proofs.Ytblbbhenmhkknaa

namespace Go.Proofs.Ytblbbhenmhkknaa
open Go.RowKit Go.Sort

theorem keepAF {w : World} {b : Nat} (h : b < w.heap.size) (o : Nat) (ob : Obj) : (w.alloc ob).frozen? ⟨b, o, none⟩ = w.frozen? ⟨b, o, none⟩ :=
  World.frozen?_of_block (a := ⟨b, o, none⟩) (Below.heap_alloc w ob b h)
theorem grownFz {w w' : World} {v : Value} {base : Nat} {e : TypeId} {size n : Nat} {xs : List Value} (h : w.ownsRow base e size v n xs) (hg : w.grownBy w' v.ownBlock) {b : Nat} (o : Nat) (hb : b < base) (hc : b < w.heap.size) :
    w'.frozen? ⟨b, o, none⟩ = w.frozen? ⟨b, o, none⟩ :=
  World.frozen?_of_block (a := ⟨b, o, none⟩) (hg.block b hc (fun e2 => by have := (h.lt b e2.symm).1; omega))

theorem belowPut {α : Type} [Inhabited α] {a w : World} (h : Below a.heap.size a w) {g : Nat} (hg : a.heap.size ≤ g) (enc : α → Value) (off : Nat) (d : Array α) : Below a.heap.size a (putRow enc w g off d) :=
  h.trans ⟨rfl, rfl, rfl, by simp [putRow, mapBlock], fun k hk => by
    simp only [putRow, mapBlock, Array.getElem?_modify]
    rw [if_neg (by omega)]⟩

/-- What stands in memory while the papers are gone through: the ship at block h, what is made of it at block h + 1. -/
structure OpenInv (h base : Nat) (w wr : World) (first : ByteArray) (A : Option Addr) (n cap : Nat) (forged : Int) (v : Value) (o : List Nat) : Prop where
  c0 : wr.cell? ⟨h + 1, 0, none⟩ = some (.string first)
  c1 : wr.cell? ⟨h + 1, 1, none⟩ = some (.slice A n cap)
  c2 : wr.cell? ⟨h + 1, 2, none⟩ = some (.int .i64 forged)
  c3 : wr.cell? ⟨h + 1, 3, none⟩ = some v
  fz : ∀ o, wr.frozen? ⟨h + 1, o, none⟩ = false
  s1 : wr.cell? ⟨h, 1, none⟩ = some (.slice A n cap)
  own : wr.ownsRow base 3 1 v o.length (o.map nv)
  size : base ≤ wr.heap.size
  below : Below w.heap.size w wr

set_option maxRecDepth 100000 in
set_option maxHeartbeats 2000000 in
theorem open_yes (first : ByteArray) (A : Option Addr) (ps : List Pap) (B cap : Nat) (forged day : Int) (w : World) (hf : first.size ≤ maxLen) (hm : ps.length ≤ maxLen) (hok : PapsOk ps) (hR : RdN 3 encPap w B A ps) (hB : B ≤ w.heap.size)
    (hE : openE first ps forged day = 0) :
    Calls Try.prog 58 #[.agg #[.string first, .slice A ps.length cap, .int .i64 forged], .int .i64 day] w (OpenPost first A ps cap forged day w) := by
  obtain ⟨i0, hi, hz0, hz1, hz2⟩ := info_parts Try.info3
  have hs : shipErr first ps forged = 0 := by
    by_cases h : shipErr first ps forged = 0
    · exact h
    · simp [openE, h] at hE
  have hday : inB 0 40000 day = true := by
    cases h : inB 0 40000 day
    · simp [openE, hs, h] at hE
    · rfl
  have hOK := shipErr_ok hs
  have hd := hOK.days
  have hl8 := hOK.len
  obtain ⟨r, hr⟩ : ∃ r, shipE first ps forged = r := ⟨_, rfl⟩
  have hs2 : r.2.2 = 0 := by rw [← hr]; exact hs
  obtain ⟨r1, r2, r3⟩ := r
  simp only at hs2
  subst hs2
  have HR := Lib.hid hr
  have HD := Lib.hid hd
  clear hr hs hE hOK hd
  go_enter Try.func58, Try.ntmps58
  go_wp2_with fail
  refine (checkShip_any first A ps B cap forged _ hf hm hok (by exact hR.below (B' := w.heap.size) (belowA (belowA (belowR _) _) _) hB) (by simp; omega)).mono ?_
  rintro e w1 ⟨he, hb⟩
  rw [HR.out] at he
  simp only [ret3] at he
  subst he
  have hB1 := belowT (belowA (belowA (belowR _) _) _) hb
  have z1 : w.heap.size ≤ w1.heap.size := hB1.size
  have z1l : w.heap.size + 1 < w1.heap.size := (by have := hb.size; simp only [World.size_alloc] at this; omega)
  have z1m : w.heap.size < w1.heap.size := (by omega)
  have q0 : w1.cell? ⟨w.heap.size + 1, 0, none⟩ = some (.string { data := #[] }) := keepC hb (by go_simp)
  have q1 : w1.cell? ⟨w.heap.size + 1, 1, none⟩ = some (.slice none 0 0) := keepC hb (by go_simp)
  have q2 : w1.cell? ⟨w.heap.size + 1, 2, none⟩ = some (.int .i64 0) := keepC hb (by go_simp)
  have q3 : w1.cell? ⟨w.heap.size + 1, 3, none⟩ = some (.slice none 0 0) := keepC hb (by go_simp)
  have f0 : ∀ o v, w1.cell? ⟨w.heap.size + 1, o, none⟩ = some v → w1.frozen? ⟨w.heap.size + 1, o, none⟩ = false := (fun o v _ => (hb.frozen (p := ⟨w.heap.size + 1, o, none⟩) (by simp)).trans (by go_simp))
  have r0 : w1.cell? ⟨w.heap.size, 0, none⟩ = some (.string first) := keepC hb (by go_simp)
  have r1 : w1.cell? ⟨w.heap.size, 1, none⟩ = some (.slice A ps.length cap) := keepC hb (by go_simp)
  have r2 : w1.cell? ⟨w.heap.size, 2, none⟩ = some (.int .i64 forged) := keepC hb (by go_simp)
  obtain ⟨hc, hfr⟩ := bcell hb
  go_wp2_with fail
  refine (out_one _ _ day _ _ (by go_simp) (by simp)).mono ?_
  rintro e w2 ⟨rfl, hb2⟩
  have hB2 := belowT (belowA hB1 _) hb2
  have z2 : w.heap.size ≤ w2.heap.size := hB2.size
  have z2l : w.heap.size + 1 < w2.heap.size := (by have := hb2.size; simp only [World.size_alloc] at this; omega)
  have p0 : w2.cell? ⟨w.heap.size + 1, 0, none⟩ = some (.string { data := #[] }) := keepC hb2 (keepA q0 _)
  have p1 : w2.cell? ⟨w.heap.size + 1, 1, none⟩ = some (.slice none 0 0) := keepC hb2 (keepA q1 _)
  have p2 : w2.cell? ⟨w.heap.size + 1, 2, none⟩ = some (.int .i64 0) := keepC hb2 (keepA q2 _)
  have p3 : w2.cell? ⟨w.heap.size + 1, 3, none⟩ = some (.slice none 0 0) := keepC hb2 (keepA q3 _)
  have fz : ∀ o, w2.frozen? ⟨w.heap.size + 1, o, none⟩ = false := (fun o => (hb2.frozen (p := ⟨w.heap.size + 1, o, none⟩) (by simp; omega)).trans ((World.frozen?_of_block (a := ⟨w.heap.size + 1, o, none⟩) (Below.heap_alloc w1 _ _ z1l)).trans ((hb.frozen (p := ⟨w.heap.size + 1, o, none⟩) (by simp)).trans (by go_simp))))
  have s0 : w2.cell? ⟨w.heap.size, 0, none⟩ = some (.string first) := keepC hb2 (keepA r0 _)
  have s1 : w2.cell? ⟨w.heap.size, 1, none⟩ = some (.slice A ps.length cap) := keepC hb2 (keepA r1 _)
  have s2 : w2.cell? ⟨w.heap.size, 2, none⟩ = some (.int .i64 forged) := keepC hb2 (keepA r2 _)
  clear hc hfr q0 q1 q2 q3 f0 r0 r1 r2 hb hb2 z1 z1l z1m hB1
  go_wp2
  have hinv : OpenInv w.heap.size w2.heap.size w (((w2.setCell ⟨w.heap.size + 1, 0, none⟩ (.string first)).setCell ⟨w.heap.size + 1, 1, none⟩ (.slice A ps.length cap)).setCell ⟨w.heap.size + 1, 2, none⟩ (.int .i64 forged)) first A ps.length cap forged (.slice none 0 0) (upTo ps day 0) := by
    refine ⟨by go_simp, by go_simp, by go_simp, by go_simp, fun o => by go_simp, by go_simp, World.ownsRow_nil _ _ _ _, by simp [World.setCell], ?_⟩
    exact belowS (belowS (belowS hB2 (by simp) _) (by simp) _) (by simp) _
  have HINV := Lib.hid hinv
  clear hinv p0 p1 p2 p3 fz s0 s1 s2 hB2
  go_loopw [27] (fun i wr => ∃ (k : Nat) (v : Value), k ≤ ps.length ∧ i = .int .i64 k ∧ Hid (OpenInv w.heap.size w2.heap.size w wr first A ps.length cap forged v (upTo ps day k))) (fun i _ => ps.length - (intOf i).toNat)
  case atStart => exact ⟨0, _, Nat.zero_le _, rfl, HINV⟩
  case round =>
    clear HINV
    obtain ⟨k, v, hk, rfl, HI⟩ := hrel
    obtain ⟨c0, c1, c2, c3, fz, s1, own, hsz, hbw⟩ := HI.out
    have hzw := hbw.size
    have zr := lt_of_cell c3
    by_cases hlt : k < ps.length
    · obtain ⟨p, hx⟩ : ∃ x, ps[k]? = some x := ⟨_, List.getElem?_eq_getElem hlt⟩
      obtain ⟨b, off, rfl, hbB, e0, e1, e2⟩ := papAt (hR.below hbw hB) hx
      have hdk : dayOf ps k = p.day := by simp [dayOf, hx]
      obtain ⟨pd, psrc, pdst⟩ := p
      simp only at e0 e1 e2 hdk
      have HX := Lib.hid hx
      have HDK := Lib.hid hdk
      have OWN := Lib.hid own
      clear hx hdk own HD
      by_cases hle : pd ≤ day
      · have HU := Lib.hid (upTo_yes (ps := ps) (day := day) (k := k) (by rw [HDK.out]; exact hle))
        have hnew : ∀ j u, [Value.int .i64 (k : Int)][j]? = some u → ((wr.alloc (.cells #[iv pd, .string psrc, .string pdst] 72)).alloc (.cells #[.int .i64 (k : Int)] 3)).cell? ((⟨wr.heap.size + 1, 0, none⟩ : Addr).add j) = some u := by
          rw [show wr.heap.size + 1 = (wr.alloc (.cells #[iv pd, .string psrc, .string pdst] 72)).heap.size from by simp]
          exact one_new _ _ _
        have HN := Lib.hid hnew
        clear hnew
        go_wp2_with (at_builtin; refine wpList_append_own _ rfl _ _ 32 rfl w2.heap.size 3 i0 (.int .i64 0) 1 8 Try.underlying32 hi hz0 hz1 hz2 rfl (by decide) _ _ _ rfl ((OWN.out.alloc _).alloc _) ⟨wr.heap.size + 1, 0, none⟩ 1 1 [.int .i64 (k : Int)] rfl rfl ?c1 ?c2 ?c3 ?c4 ?c5 ?_)
        case c1 => exact HN.out
        case c2 => simp [Value.oneCell']
        case c3 => have := upTo_le ps day k; unfold maxLen; omega
        case c4 => have := upTo_le ps day k; omega
        case c5 => simp; omega
        intro v' w3 hown' hgrow _
        obtain ⟨g', cap', rfl, hg1, hg2, hg3⟩ := own_form hown' (by omega)
        have d0 := grownC ((OWN.out.alloc _).alloc _) hgrow z2l (keepA (keepA c0 _) _)
        have d1 := grownC ((OWN.out.alloc _).alloc _) hgrow z2l (keepA (keepA c1 _) _)
        have d2 := grownC ((OWN.out.alloc _).alloc _) hgrow z2l (keepA (keepA c2 _) _)
        have d3 := grownC ((OWN.out.alloc _).alloc _) hgrow z2l (keepA (keepA c3 _) _)
        have t1 := grownC ((OWN.out.alloc _).alloc _) hgrow (show w.heap.size < w2.heap.size by omega) (keepA (keepA s1 _) _)
        have hB3 : Below w.heap.size w w3 := grownB ((OWN.out.alloc _).alloc _) hgrow z2 (belowA (belowA hbw _) _)
        have hz3 : w2.heap.size ≤ w3.heap.size := by omega
        have hfz : ∀ o, w3.frozen? ⟨w.heap.size + 1, o, none⟩ = false := fun o => by
          rw [grownFz ((OWN.out.alloc _).alloc _) hgrow o z2l (by simp; omega), keepAF (by simp; omega), keepAF zr, fz]
        have f3 := hfz 3
        have HF := Lib.hid hfz
        have HG := Lib.hid hgrow
        have HO' := Lib.hid hown'
        clear hfz hgrow hown' fz c0 c1 c2 c3 s1
        go_wp2
        go_roundw
        case rel =>
          refine ⟨k + 1, .slice (some ⟨g', 0, none⟩) ((upTo ps day k).length + 1) cap', by omega, by go_num, ?_⟩
          rw [HU.out]
          have hfz := HF.out
          refine ⟨by go_simp, by go_simp, by go_simp, by go_simp, fun o => by go_simp, by go_simp, ?_, by simpa [World.setCell] using hz3, belowS hB3 (by simp) _⟩
          rw [List.length_append, List.map_append]
          exact ownsRow_setCell_below HO'.out (a := ⟨w.heap.size + 1, 3, none⟩) z2l _
        case measure => simp [intOf]; omega
      · have HU := Lib.hid (upTo_no (ps := ps) (day := day) (k := k) (by rw [HDK.out]; exact hle))
        go_wp2
        go_roundw
        case rel =>
          refine ⟨k + 1, v, by omega, by go_num, ?_⟩
          rw [HU.out]
          exact ⟨keepA c0 _, keepA c1 _, keepA c2 _, keepA c3 _, fun o => by rw [keepAF zr, fz], keepA s1 _, OWN.out.alloc _, by simp; omega, belowA hbw _⟩
        case measure => simp [intOf]; omega
    · obtain rfl : k = ps.length := by omega
      have hord := sorted_order ps day
      have hlen := upTo_le ps day ps.length
      obtain ⟨o, ho⟩ : ∃ o, upTo ps day ps.length = o := ⟨_, rfl⟩
      have hmem : ∀ x ∈ o, x < ps.length := fun x hx => ((upTo_mem ps day ps.length x).1 (by rw [ho]; exact hx)).1
      have hasc := upTo_asc ps day ps.length
      rw [ho] at own hord hlen hasc
      have HASC := Lib.hid hasc
      obtain ⟨A', cap', rfl, hrd, hfresh⟩ := own_rd1 own
      have HRD := Lib.hid hrd
      have HORD := Lib.hid hord
      have HOWN := Lib.hid own
      have HMEM := Lib.hid hmem
      have HFZ := Lib.hid fz
      have HFRE := Lib.hid hfresh
      clear hord own hrd hmem fz hfresh ho hasc
      rcases Nat.eq_zero_or_pos o.length with h0 | h0
      · have hon : o = [] := List.length_eq_zero_iff.1 h0
        subst hon
        have hfz := HFZ.out
        go_wp2_with (go_at_call 93; refine (sortStable_none _ _ _ _).mono ?_; rintro e w3 ⟨rfl, rfl⟩)
        exact bodyPost_ret (v := .tuple #[.agg #[.string first, .slice A ps.length cap, .int .i64 forged, .slice A' 0 cap'], iv 0]) (by simp [results, Try.results58, go_sem, c0, c1, c2, c3]) rfl
          ⟨A', cap', [], by
            have h := HORD.out
            have e : (Sort.insertionSort (ltD ps) #[] 0 0).toList = [] := by unfold Sort.insertionSort; rw [insOuter, if_neg (by omega)]
            simpa [e] using h, rfl, Rd1.nil, belowS (belowS (belowS (belowS hbw (by simp) _) (by simp) _) (by simp) _) (by simp) _⟩
      · obtain ⟨g, rfl⟩ : ∃ g, A' = some ⟨g, 0, none⟩ := by
          obtain ⟨b, off, e, _⟩ := HRD.out 0 _ (List.getElem?_eq_getElem h0)
          obtain ⟨_, rfl⟩ := HFRE.out b off e
          exact ⟨b, e⟩
        have hgl := (HFRE.out g 0 rfl).1
        have hholds := own_holds HOWN.out
        have hsrt := sortStable_any A ps B cap w.heap.size g 0 cap' o.toArray wr (hR.below hbw hB) s1 (by omega) (by omega) HD.out hholds (by
          intro j hj
          have hj' : j < o.length := by simpa using hj
          have : o.toArray[j]! = o[j] := by simp [hj']
          rw [this]; exact HMEM.out _ (List.getElem_mem hj')) (by simp; omega)
        have hsz2 : (Sort.insertionSort (ltD ps) o.toArray 0 o.toArray.size).size = o.toArray.size := by
          obtain ⟨o2, ho2, _, _, hl2⟩ := insertionSort_list (dayOf ps) o.toArray (by simpa using HASC.out)
          have h := congrArg List.length ho2
          rw [Array.length_toList, hl2] at h
          exact h
        rw [List.size_toArray] at hsrt
        obtain ⟨d', hd'⟩ : ∃ d', Sort.insertionSort (ltD ps) o.toArray 0 o.length = d' := ⟨_, rfl⟩
        rw [hd'] at hsrt
        obtain ⟨w4, hw4⟩ : ∃ w4, putRow nv wr g 0 d' = w4 := ⟨_, rfl⟩
        rw [hw4] at hsrt
        have HS := Lib.hid hsrt
        have e0 : w4.cell? ⟨w.heap.size + 1, 0, none⟩ = some (.string first) := by rw [← hw4]; exact (cell?_putRow_other nv wr g 0 d' _ (.inl (by simp; omega))).trans c0
        have e1 : w4.cell? ⟨w.heap.size + 1, 1, none⟩ = some (.slice A ps.length cap) := by rw [← hw4]; exact (cell?_putRow_other nv wr g 0 d' _ (.inl (by simp; omega))).trans c1
        have e2 : w4.cell? ⟨w.heap.size + 1, 2, none⟩ = some (.int .i64 forged) := by rw [← hw4]; exact (cell?_putRow_other nv wr g 0 d' _ (.inl (by simp; omega))).trans c2
        have e3 : w4.cell? ⟨w.heap.size + 1, 3, none⟩ = some (.slice (some ⟨g, 0, none⟩) o.length cap') := by rw [← hw4]; exact (cell?_putRow_other nv wr g 0 d' _ (.inl (by simp; omega))).trans c3
        have ef : ∀ o, w4.frozen? ⟨w.heap.size + 1, o, none⟩ = false := fun o => by rw [← hw4, frozen?_putRow]; exact HFZ.out o
        have HW4 := Lib.hid hw4
        have HD' := Lib.hid hd'
        have HHO := Lib.hid hholds
        have HSZ := Lib.hid hsz2
        clear hsrt hw4 hd' hholds hsz2
        go_wp2_with (go_at_call 93; refine HS.out.mono ?_; rintro e w5 ⟨rfl, n, rfl⟩)
        have hds : d'.size = o.length := by
          have h := HSZ.out
          have h2 := HD'.out
          simp only [List.size_toArray] at h
          rw [h2] at h
          exact h
        have hh4 : Holds nv w4 g 0 d' := by
          rw [← HW4.out]
          exact holds_putRow nv wr g 0 o.toArray d' HHO.out (by simpa using hds)
        have hdl : d'.toList.length = o.length := by rw [Array.length_toList, hds]
        have hb4 : Below w.heap.size w w4 := by
          rw [← HW4.out]
          exact belowPut hbw (by omega) nv 0 d'
        have hrd4 : Rd1 nv w4 w4.heap.size (some ⟨g, 0, none⟩) d'.toList := by
          intro i x hx
          have hi : i < d'.size := by
            rw [← Array.length_toList]; exact (List.getElem?_eq_some_iff.1 hx).1
          obtain ⟨hc1, _⟩ := hh4 i hi
          have e : d'[i]! = x := by
            rw [getElem!_def, ← Array.getElem?_toList, hx]
          rw [e] at hc1
          exact ⟨g, 0, rfl, lt_of_cell hc1, hc1⟩
        have HO2 : Hid (IsOrder ps day d'.toList) := by
          have := HORD.out
          rw [List.size_toArray, HD'.out] at this
          exact this
        have HDL := Lib.hid hdl
        have HRD4 := Lib.hid hrd4
        clear hdl hrd4 hh4
        go_wp2
        refine bodyPost_ret (v := .tuple #[.agg #[.string first, .slice A ps.length cap, .int .i64 forged, .slice (some ⟨g, 0, none⟩) o.length cap'], iv 0]) (by simp [results, Try.results58, go_sem, e0, e1, e2, e3]) rfl
          ⟨some ⟨g, 0, none⟩, cap', d'.toList, HO2, by rw [HDL.out], ?_, ?_⟩
        · intro i x hx
          obtain ⟨b, off, e, hb, hc⟩ := HRD4.out i x hx
          injection e with e
          injection e with e1 e2
          subst e1 e2
          refine ⟨g, 0, rfl, by simpa [World.setCell] using hb, ?_⟩
          have hne : ∀ o, (⟨w.heap.size + 1, o, none⟩ : Addr) ≠ ⟨g, 0 + i, none⟩ := fun o e => by injection e with e1 _; omega
          rw [World.cell?_setCell_other _ _ _ _ (hne 3), World.cell?_setCell_other _ _ _ _ (hne 2), World.cell?_setCell_other _ _ _ _ (hne 1), World.cell?_setCell_other _ _ _ _ (hne 0), World.cell?_drewN]
          exact hc
        · exact belowS (belowS (belowS (belowS (belowN hb4 _) (by simp) _) (by simp) _) (by simp) _) (by simp) _
end Go.Proofs.Ytblbbhenmhkknaa
