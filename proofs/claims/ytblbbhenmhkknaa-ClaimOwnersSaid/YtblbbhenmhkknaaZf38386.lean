/- The reference: Owners (F20). The reference: before (F66). The reference: Forged (F23). -/
import Derived.Deep.DeepCutAuto
import Derived.Deep.QuietTactic
import Derived.BigQuiet
import Derived.Test.YtblbbhenmhkknaaZ7757ab
import Derived.Test.YtblbbhenmhkknaaZb23095
import Derived.Test.YtblbbhenmhkknaaYO2
import Derived.Test.YtblbbhenmhkknaaZe04daa
namespace Go.Proofs.Ytblbbhenmhkknaa
open Go.RowKit Go.Sort

theorem papersL_mem (s n i : Nat) : i ∈ papersL s n ↔ i < n ∧ hasB s i = true := by
  unfold papersL; simp
theorem papersL_asc (s n : Nat) : Asc (papersL s n) n := by
  refine ⟨?_, fun x hx => ((papersL_mem s n x).1 hx).1⟩
  unfold papersL
  exact List.Pairwise.filter _ List.pairwise_lt_range
theorem papersL_has (s n i : Nat) (h : i < n) : memB (papersL s n) i = hasB s i := by
  rw [Bool.eq_iff_iff]
  unfold memB
  rw [List.contains_iff_mem, papersL_mem]
  exact ⟨fun h => h.2, fun h2 => ⟨h, h2⟩⟩
theorem hasB_out {s n i : Nat} (h : s < 2 ^ n) (hi : n ≤ i) : hasB s i = false := by
  rw [hasB_bit]
  exact Nat.testBit_lt_two_pow (Nat.lt_of_lt_of_le h (Nat.pow_le_pow_right (by omega) hi))
theorem papersL_more {s n : Nat} (h : s < 2 ^ n) : ∀ d, papersL s (n + d) = papersL s n
  | 0 => rfl
  | d + 1 => by
    rw [← Nat.add_assoc, papersL_succ, papersL_more h d, hasB_out h (by omega)]
    simp
theorem papersL_many {s n : Nat} (h : s < 2 ^ n) (hn : n ≤ 8) : (papersL s n).length = manyN s 8 := by
  have := papersL_more h (8 - n)
  rw [show n + (8 - n) = 8 by omega] at this
  rw [← this]; rfl

/-- The sets below k that count. -/
def preS (f n k : Nat) : List (List Nat) := ((List.range k).filter fun t => decide (manyN t 8 ≤ f)).map fun t => papersL t n
theorem preS_seen (first : ByteArray) (ps : List Pap) (o : List Nat) (f n k : Nat) (x : List UInt8) : Seen first ps o (preS f n (k + 1)) x ↔ Seen first ps o (preS f n k) x ∨ (manyN k 8 ≤ f ∧ x = bs (ownerL first ps o (papersL k n))) := by
  unfold Seen preS
  rw [List.range_succ, List.filter_append, List.map_append]
  constructor
  · rintro ⟨s, hs, e⟩
    rcases List.mem_append.1 hs with hs | hs
    · exact .inl ⟨s, hs, e⟩
    · obtain ⟨t, ht, rfl⟩ := List.mem_map.1 hs
      rw [List.mem_filter, List.mem_singleton] at ht
      obtain ⟨rfl, ht⟩ := ht
      exact .inr ⟨by simpa using ht, e.symm⟩
  · rintro (⟨s, hs, e⟩ | ⟨h, e⟩)
    · exact ⟨s, List.mem_append_left _ hs, e⟩
    · refine ⟨papersL k n, List.mem_append_right _ (List.mem_map.2 ⟨k, ?_, rfl⟩), e.symm⟩
      rw [List.mem_filter]
      exact ⟨by simp, by simpa using h⟩
theorem preS_all (first : ByteArray) (ps : List Pap) (o : List Nat) (f n : Nat) (hn : n ≤ 8) (x : List UInt8) : Seen first ps o (preS f n (2 ^ n)) x ↔ Seen first ps o (setsTo n (min f n + 1)) x := by
  unfold Seen preS
  constructor
  · rintro ⟨s, hs, e⟩
    obtain ⟨t, ht, rfl⟩ := List.mem_map.1 hs
    rw [List.mem_filter, List.mem_range] at ht
    refine ⟨_, ?_, e⟩
    rw [mem_setsTo]
    have h1 := papersL_len t n
    have h2 := papersL_many ht.1 hn
    have h3 : manyN t 8 ≤ f := by simpa using ht.2
    exact ⟨by omega, (papersL_asc t n).1, (papersL_asc t n).2⟩
  · rintro ⟨s, hs, e⟩
    rw [mem_setsTo] at hs
    have ha : Asc s n := ⟨hs.2.1, hs.2.2⟩
    refine ⟨papersL (bitsS s) n, List.mem_map.2 ⟨bitsS s, ?_, rfl⟩, ?_⟩
    · rw [List.mem_filter, List.mem_range]
      refine ⟨(bitsS_spec s n ha).1, ?_⟩
      rw [bitsS_many ha hn]
      have := hs.1
      simp
      omega
    · rw [show papersL (bitsS s) n = s from bitsS_list ha (Nat.le_refl _)]
      exact e

theorem inserted_any (os : List (List UInt8)) (x : ByteArray) (A : Option Addr) (cap : Nat) (w : World) (hn9 : os.length ≤ 256) (hs : os.Pairwise (· < ·)) (hR : SlS w A cap os) :
    Calls Try.prog 63 #[.slice A os.length cap, .string x] w (InsPost os (bs x) w) := by
  have ex : (⟨(bs x).toArray⟩ : ByteArray) = x := sb_bs x
  by_cases h0 : os = []
  · obtain ⟨rfl, rfl⟩ := hR.nil h0
    subst h0
    have := inserted_nil (bs x) w
    rw [ex] at this
    exact this
  · have hl : 0 < os.length := List.length_pos_iff.2 h0
    obtain ⟨y, hy⟩ : ∃ y, os[0]? = some y := ⟨_, List.getElem?_eq_getElem hl⟩
    obtain ⟨b, off, e, _, _⟩ := hR.rd 0 y hy
    subst e
    have := inserted_some os (bs x) w.heap.size b off cap w hl hn9 hR.fit hR.top hs hR.rd (Nat.le_refl _)
    rw [ex] at this
    exact this

theorem refOwners_no (first : ByteArray) (A : Option Addr) (ps : List Pap) (B cap : Nat) (forged day : Int) (w : World) (hf : first.size ≤ maxLen) (hm : ps.length ≤ maxLen) (hok : PapsOk ps) (hR : RdN 3 encPap w B A ps) (hB : B ≤ w.heap.size)
    (hE : openE first ps forged day ≠ 0) :
    Calls Try.prog 20 #[.agg #[.string first, .slice A ps.length cap, .int .i64 forged], .int .i64 day] w fun e w' => e = .returned (.tuple #[.slice none 0 0, iv (openE first ps forged day)]) ∧ Below w.heap.size w w' := by
  obtain ⟨E, hEE⟩ : ∃ E, openE first ps forged day = E := ⟨_, rfl⟩
  have hop := fun w (hR : RdN 3 encPap w B A ps) (hB : B ≤ w.heap.size) => dated_any first A ps B cap forged day w hf hm hok hR hB
  rw [hEE] at hE hop ⊢
  have hne : (E != 0) = true := by simpa using hE
  have HOP := Lib.hid hop
  clear hop hEE hE
  go_enter Try.func20, Try.ntmps20
  go_wp2_with fail
  refine (HOP.out _ (hR.below (B' := w.heap.size) (belowA (belowR _) _) hB) (by simp; omega)).mono ?_
  rintro e w1 ⟨rfl, hb⟩
  have hB1 := belowT (belowA (belowR _) _) hb
  clear hb
  go_wp2
  go_ret2
  exact ⟨rfl, hB1⟩

set_option maxRecDepth 100000 in
set_option maxHeartbeats 4000000 in
theorem refOwners_yes (first : ByteArray) (A : Option Addr) (ps : List Pap) (B cap : Nat) (f : Nat) (day : Int) (w : World) (hf : first.size ≤ maxLen) (hm : ps.length ≤ maxLen) (hok : PapsOk ps) (hd : ∀ p ∈ ps, 0 ≤ p.day ∧ p.day ≤ 40000) (hR : RdN 3 encPap w B A ps) (hB : B ≤ w.heap.size)
    (hE : openE first ps f day = 0) (hp8 : ps.length ≤ 8) :
    Calls Try.prog 20 #[.agg #[.string first, .slice A ps.length cap, .int .i64 f], .int .i64 day] w (OwnersPost first ps f day w) := by
  obtain ⟨o, ho⟩ : ∃ o, IsOrder ps day o := ⟨_, sorted_order ps day⟩
  have hop := fun w (hR : RdN 3 encPap w B A ps) (hB : B ≤ w.heap.size) => dated_any first A ps B cap f day w hf hm hok hR hB
  rw [hE] at hop
  have hos : ∀ s, (ownerL first ps o s).size ≤ maxLen := fun s => ownerL_size hf hok o s
  have hown := fun (s : Nat) (W : World) (hs : s ≤ 65536) (hR : RdN 3 encPap W B A ps) (hB : B ≤ W.heap.size) => refOwner_any first A ps B cap f day s o (papersL s ps.length) W hp8 hd hs ho (fun i hi => papersL_has s ps.length i hi) hR hB
  have hfin : ∀ os A' cap' w', Below w.heap.size w w' → SlS w' A' cap' os → os.Pairwise (· < ·) → (∀ x, x ∈ os ↔ Seen first ps o (preS f ps.length (2 ^ ps.length)) x) → OwnersPost first ps f day w (.returned (.tuple #[.slice A' os.length cap', iv 0])) w' := fun os A' cap' w' hb hsl hsrt hx => by
    refine ⟨hb, o, os, A', cap', ho, rfl, hsl.rd, hsrt, fun x => (hx x).trans (preS_all first ps o f ps.length hp8 x), fun x h => ?_⟩
    obtain ⟨s, _, rfl⟩ := (hx x).1 h
    exact hos s
  have hfew : ∀ (k : Nat) (os : List (List UInt8)), os.Pairwise (· < ·) → (∀ x, x ∈ os ↔ Seen first ps o (preS f ps.length k) x) → os.length ≤ 256 := fun k os h1 h2 => by have := owners_fewA h1 h2; omega
  have hstep := preS_seen first ps o f ps.length
  have hnil : ∀ x, x ∈ ([] : List (List UInt8)) ↔ Seen first ps o (preS f ps.length 0) x := fun x => by simp [Seen, preS]
  have h2n : 2 ^ ps.length ≤ 256 := by
    have : 2 ^ ps.length ≤ 2 ^ 8 := Nat.pow_le_pow_right (by omega) hp8
    omega
  have hbit := fun W => bit_any ps.length W (by omega)
  obtain ⟨P2, hP2⟩ : ∃ p, 2 ^ ps.length = p := ⟨_, rfl⟩
  rw [hP2] at h2n hbit hfin
  have HOP := Lib.hid hop
  have HOWN := Lib.hid hown
  have HFIN := Lib.hid hfin
  have HFEW := Lib.hid hfew
  have HSTEP := Lib.hid hstep
  have HNIL := Lib.hid hnil
  have HBIT := Lib.hid hbit
  have HX : Hid (RdN 3 encPap w B A ps ∧ B ≤ w.heap.size) := Lib.hid ⟨hR, hB⟩
  clear hop hown hfin hfew hstep hnil hbit hE hos hf hok hd hR hB ho hP2
  obtain ⟨W1, hW1⟩ : ∃ W1, w.alloc (.cells #[.string first, .slice A ps.length cap, .int .i64 f] 24) = W1 := ⟨_, rfl⟩
  have hb0 : Below w.heap.size w W1 := by rw [← hW1]; exact belowA (belowR _) _
  have p0 : W1.cell? ⟨w.heap.size, 0, none⟩ = some (.string first) := by rw [← hW1]; clear hW1; go_simp
  have p1 : W1.cell? ⟨w.heap.size, 1, none⟩ = some (.slice A ps.length cap) := by rw [← hW1]; clear hW1; go_simp
  have p2 : W1.cell? ⟨w.heap.size, 2, none⟩ = some (.int .i64 f) := by rw [← hW1]; clear hW1; go_simp
  have hz1 : w.heap.size < W1.heap.size := lt_of_cell p0
  have HB0 := Lib.hid hb0
  have HR1 : Hid (RdN 3 encPap W1 B A ps ∧ B ≤ W1.heap.size) := Lib.hid ⟨HX.out.1.below hb0 HX.out.2, by have := HX.out.2; omega⟩
  clear hb0
  go_enter Try.func20, Try.ntmps20
  go_wp2_with fail
  have HP := Lib.hid (And.intro p0 (And.intro p1 p2))
  clear hW1 p0 p1 p2
  refine (HOP.out _ HR1.out.1 HR1.out.2).mono ?_
  rintro e w1 ⟨rfl, hb1⟩
  have HB1 := Lib.hid hb1
  clear hb1
  go_wp2
  go_loopw [7, 8] (fun vo vi wr => ∃ (k : Nat) (os : List (List UInt8)) (A' : Option Addr) (cap' : Nat), k ≤ P2 ∧ vi = .int .i64 k ∧ vo = .slice A' os.length cap' ∧ Hid (SlS wr A' cap' os ∧ os.Pairwise (· < ·) ∧ ∀ x, x ∈ os ↔ Seen first ps o (preS f ps.length k) x) ∧ Hid (Below W1.heap.size W1 wr)) (fun _ vi _ => P2 - (intOf vi).toNat)
  case atStart => exact ⟨0, [], none, 0, Nat.zero_le _, rfl, rfl, Lib.hid ⟨⟨fun k x h => by simp at h, fun _ => ⟨rfl, rfl⟩, Nat.le_refl _, Nat.zero_le _⟩, by simp, HNIL.out⟩, HB1⟩
  case round =>
    obtain ⟨k, os, A', cap', hk, rfl, rfl, HI, HBR⟩ := hrel
    have p0 := keepC HBR.out HP.out.1
    have p1 := keepC HBR.out HP.out.2.1
    have p2 := keepC HBR.out HP.out.2.2
    have hzr := HBR.out.size
    by_cases hlt : k < P2
    · have hst := HSTEP.out k
      have hcm : ∀ W, Calls Try.prog 46 #[.int .i64 k] W fun e w' => e = .returned (iv (manyN k 8 : Nat)) ∧ w' = W := fun W => (many_any k W (by omega)).mono fun _ _ h => ⟨h.1, h.2.symm⟩
      obtain ⟨M, hM⟩ : ∃ M, manyN k 8 = M := ⟨_, rfl⟩
      rw [hM] at hst hcm
      have HST := Lib.hid hst
      have HCM := Lib.hid hcm
      have hkz : (k : Int) < (P2 : Int) := by omega
      have hk0 : (0 : Int) ≤ (k : Int) := by omega
      clear hM hst hcm
      by_cases hle : M ≤ f
      · have HLE := Lib.hid hle
        have hd : decide ((M : Int) ≤ (f : Int)) = true := by simpa using hle
        have hd2 : decide (M ≤ f) = true := by simpa using hle
        go_wp2_with fail
        refine (HBIT.out _).mono ?_
        rintro e w5 ⟨rfl, rfl⟩
        go_upto_region 8 with fail
        go_quiet ((go_at_call 46; exact Calls.quiet_of_same (HCM.out _)))
        clear hd hd2 hle
        go_wp2_with fail
        refine (HOWN.out k _ (by omega) (HR1.out.1.below (belowN HBR.out _) HR1.out.2) (by have := HR1.out.2; simp; omega)).mono ?_
        rintro e w6 ⟨rfl, hb6⟩
        have HB6 := Lib.hid (belowT (belowN (belowR _) _) hb6)
        clear hb6
        go_wp2_with fail
        refine (inserted_any os _ A' cap' _ (HFEW.out k os HI.out.2.1 HI.out.2.2) HI.out.2.1 (HI.out.1.below HB6.out)).mono ?_
        rintro e w7 ⟨os2, A2, cap2, rfl, hsl2, hsrt2, hx2, hb7⟩
        have HI2 := Lib.hid (And.intro hsl2 (And.intro hsrt2 hx2))
        have HB7 := Lib.hid (belowT HB6.out hb7)
        clear hb7 hsl2 hsrt2 hx2
        go_wp2
        go_roundw
        case rel => exact ⟨k + 1, os2, A2, cap2, by omega, by go_num, rfl, Lib.hid ⟨HI2.out.1, HI2.out.2.1, fun x => (HI2.out.2.2 x).trans ⟨fun h => (HST.out x).2 (h.elim (fun h => .inl ((HI.out.2.2 x).1 h)) fun h => .inr ⟨HLE.out, h⟩), fun h => ((HST.out x).1 h).elim (fun h => .inl ((HI.out.2.2 x).2 h)) fun h => .inr h.2⟩⟩, Lib.hid (belowT HBR.out HB7.out)⟩
        case measure => simp [intOf]; omega
      · have hd : decide ((M : Int) ≤ (f : Int)) = false := by simpa using hle
        have hd2 : decide (M ≤ f) = false := by simpa using hle
        have HLE := Lib.hid hle
        go_wp2_with fail
        refine (HBIT.out _).mono ?_
        rintro e w5 ⟨rfl, rfl⟩
        go_upto_region 8 with fail
        go_quiet ((go_at_call 46; exact Calls.quiet_of_same (HCM.out _)))
        clear hd hd2 hle
        go_wp2
        go_roundw
        case rel => exact ⟨k + 1, os, A', cap', by omega, by go_num, rfl, Lib.hid ⟨HI.out.1.below (belowN (belowR _) _), HI.out.2.1, fun x => (HI.out.2.2 x).trans ⟨fun h => (HST.out x).2 (.inl h), fun h => ((HST.out x).1 h).resolve_right fun h => HLE.out h.1⟩⟩, Lib.hid (belowN HBR.out _)⟩
        case measure => simp [intOf]; omega
    · obtain rfl : k = P2 := by omega
      go_wp2_with fail
      refine (HBIT.out _).mono ?_
      rintro e w5 ⟨rfl, rfl⟩
      go_wp2
      go_ret2
      exact HFIN.out os A' cap' _ (belowT HB0.out HBR.out) HI.out.1 HI.out.2.1 HI.out.2.2
end Go.Proofs.Ytblbbhenmhkknaa

namespace Go.Proofs.Ytblbbhenmhkknaa
open Go.RowKit Go.Sort

theorem ltL_at {a b : List Nat} {k x y : Nat} (ha : a[k]? = some x) (hb : b[k]? = some y) : ltL (a.drop k) (b.drop k) = if x = y then ltL (a.drop (k + 1)) (b.drop (k + 1)) else decide (x < y) := by
  obtain ⟨h1, rfl⟩ := List.getElem?_eq_some_iff.1 ha
  obtain ⟨h2, rfl⟩ := List.getElem?_eq_some_iff.1 hb
  rw [List.drop_eq_getElem_cons h1, List.drop_eq_getElem_cons h2]
  rfl

set_option maxRecDepth 100000 in
set_option maxHeartbeats 4000000 in
theorem before_any (a b : List Nat) (A C : Option Addr) (ca cb B : Nat) (w : World) (hl : b.length = a.length) (h8 : a.length ≤ 8) (hA : Rd1 nv w B A a) (hC : Rd1 nv w B C b) :
    Calls Try.prog 66 #[.slice A a.length ca, .slice C b.length cb] w fun e w' => e = .returned (.bool (ltL a b)) ∧ Below w.heap.size w w' := by
  rw [hl]
  obtain ⟨n, hn⟩ : ∃ n, a.length = n := ⟨_, rfl⟩
  have hend : ltL (a.drop n) (b.drop n) = false := by rw [← hn, List.drop_length]; cases b.drop a.length <;> rfl
  have hat : ∀ k, k < n → ∃ x y b1 o1 b2 o2, A = some ⟨b1, o1, none⟩ ∧ C = some ⟨b2, o2, none⟩ ∧ b1 < B ∧ b2 < B ∧ w.cell? ⟨b1, o1 + k, none⟩ = some (nv x) ∧ w.cell? ⟨b2, o2 + k, none⟩ = some (nv y) ∧ ltL (a.drop k) (b.drop k) = if x = y then ltL (a.drop (k + 1)) (b.drop (k + 1)) else decide (x < y) := fun k hk => by
    obtain ⟨x, hx⟩ : ∃ x, a[k]? = some x := ⟨_, List.getElem?_eq_getElem (by omega)⟩
    obtain ⟨y, hy⟩ : ∃ y, b[k]? = some y := ⟨_, List.getElem?_eq_getElem (by omega)⟩
    obtain ⟨b1, o1, e1, l1, c1⟩ := hA k x hx
    obtain ⟨b2, o2, e2, l2, c2⟩ := hC k y hy
    exact ⟨x, y, b1, o1, b2, o2, e1, e2, l1, l2, c1, c2, ltL_at hx hy⟩
  have h0 : ltL a b = ltL (a.drop 0) (b.drop 0) := rfl
  rw [hn] at h8 ⊢
  have HAT := Lib.hid hat
  have HEND := Lib.hid hend
  have H0 := Lib.hid h0
  clear hat hend h0 hA hC hn hl
  go_enter Try.func66, Try.ntmps66
  go_wp2
  go_loopw [5] (fun vi wr => ∃ k : Nat, k ≤ n ∧ vi = .int .i64 k ∧ Hid (ltL a b = ltL (a.drop k) (b.drop k)) ∧ Hid (Below w.heap.size w wr)) (fun vi _ => n - (intOf vi).toNat)
  case atStart => exact ⟨0, Nat.zero_le _, rfl, H0, Lib.hid (belowR _)⟩
  case round =>
    obtain ⟨k, hk, rfl, HK, HBR⟩ := hrel
    by_cases hlt : k < n
    · obtain ⟨x, y, b1, o1, b2, o2, rfl, rfl, l1, l2, c1, c2, hst⟩ := HAT.out k hlt
      have d1 := keepC HBR.out c1
      have d2 := keepC HBR.out c2
      have d1 : wr.cell? ⟨b1, o1 + k, none⟩ = some (.int .i64 x) := d1
      have d2 : wr.cell? ⟨b2, o2 + k, none⟩ = some (.int .i64 y) := d2
      have hkz : (k : Int) < (n : Int) := by omega
      have hk0 : (0 : Int) ≤ (k : Int) := by omega
      clear c1 c2
      by_cases hxy : x = y
      · rw [if_pos hxy] at hst
        subst hxy
        have HST := Lib.hid (HK.out.trans hst)
        clear hst
        go_upto_region 4 with fail
        go_quiet (fail)
        go_wp2
        go_roundw
        case rel => exact ⟨k + 1, by omega, by go_num, HST, Lib.hid (belowN HBR.out _)⟩
        case measure => simp [intOf]; omega
      · rw [if_neg hxy] at hst
        have HST := Lib.hid (HK.out.trans hst)
        have hne : decide ((x : Int) = (y : Int)) = false := decide_eq_false (by omega)
        have hne2 : decide (x = y) = false := by simpa using hxy
        have hne3 : ((x : Int) == (y : Int)) = false := by rw [beq_eq_false_iff_ne]; omega
        have hne4 : ((x : Int) != (y : Int)) = true := by rw [bne_iff_ne]; omega
        have hdd : decide ((x : Int) < (y : Int)) = decide (x < y) := by simp
        obtain ⟨D, hD⟩ : ∃ D, decide (x < y) = D := ⟨_, rfl⟩
        rw [hD] at hdd HST
        clear hst hxy
        go_upto_region 4 with fail
        go_quiet (fail)
        go_upto_region 5 with fail
        go_quiet (fail)
        go_wp2
        go_ret
        exact ⟨congrArg (fun t => Ending.returned (Value.bool t)) HST.out.symm, belowN (belowN HBR.out _) _⟩
    · obtain rfl : k = n := by omega
      go_wp2
      go_ret
      exact ⟨congrArg (fun t => Ending.returned (Value.bool t)) (HK.out.trans HEND.out).symm, HBR.out⟩
end Go.Proofs.Ytblbbhenmhkknaa

namespace Go.Proofs.Ytblbbhenmhkknaa
open Go.RowKit Go.Sort

/-- The best of k papers among the sets below s. -/
def BestI (p : List Nat → Bool) (n k s : Nat) (fd : Bool) (l : List Nat) : Prop :=
  (fd = false → ∀ t < s, (papersL t n).length = k → p (papersL t n) = false) ∧
  (fd = true → l.length = k ∧ l ∈ combs n k 0 ∧ p l = true ∧ ∀ t < s, (papersL t n).length = k → p (papersL t n) = true → papersL t n = l ∨ ltL l (papersL t n) = true)
theorem best_start (p : List Nat → Bool) (n k : Nat) : BestI p n k 0 false [] := ⟨fun _ t h => by omega, fun h => by simp at h⟩
theorem best_skip {p : List Nat → Bool} {n k s : Nat} {fd : Bool} {l : List Nat} (h : BestI p n k s fd l) (hs : (papersL s n).length ≠ k ∨ p (papersL s n) = false) : BestI p n k (s + 1) fd l := by
  refine ⟨fun e t ht hk => ?_, fun e => ?_⟩
  · rcases Nat.lt_or_ge t s with h1 | h1
    · exact h.1 e t h1 hk
    · obtain rfl : t = s := by omega
      exact hs.resolve_left fun h => h hk
  · obtain ⟨a, b, c, d⟩ := h.2 e
    refine ⟨a, b, c, fun t ht hk hp => ?_⟩
    rcases Nat.lt_or_ge t s with h1 | h1
    · exact d t h1 hk hp
    · obtain rfl : t = s := by omega
      rcases hs with h | h
      · exact absurd hk h
      · rw [hp] at h; simp at h
theorem papersL_combs {s n k : Nat} (h : (papersL s n).length = k) : papersL s n ∈ combs n k 0 := by
  rw [mem_combs]
  exact ⟨h, (papersL_asc s n).1, fun x hx => ⟨Nat.zero_le _, (papersL_asc s n).2 x hx⟩⟩
theorem best_first {p : List Nat → Bool} {n k s : Nat} {l : List Nat} (h : BestI p n k s false l) (hk : (papersL s n).length = k) (hp : p (papersL s n) = true) : BestI p n k (s + 1) true (papersL s n) := by
  refine ⟨fun e => by simp at e, fun _ => ⟨hk, papersL_combs hk, hp, fun t ht hk2 hp2 => ?_⟩⟩
  rcases Nat.lt_or_ge t s with h1 | h1
  · have := h.1 rfl t h1 hk2
    rw [hp2] at this; simp at this
  · obtain rfl : t = s := by omega
    exact .inl rfl
theorem best_less {p : List Nat → Bool} {n k s : Nat} {l : List Nat} (h : BestI p n k s true l) (hk : (papersL s n).length = k) (hp : p (papersL s n) = true) (hl : ltL (papersL s n) l = true) : BestI p n k (s + 1) true (papersL s n) := by
  refine ⟨fun e => by simp at e, fun _ => ⟨hk, papersL_combs hk, hp, fun t ht hk2 hp2 => ?_⟩⟩
  rcases Nat.lt_or_ge t s with h1 | h1
  · rcases (h.2 rfl).2.2.2 t h1 hk2 hp2 with e | h3
    · rw [e]; exact .inr hl
    · exact .inr (ltL_trans hl h3)
  · obtain rfl : t = s := by omega
    exact .inl rfl
theorem best_keep {p : List Nat → Bool} {n k s : Nat} {l : List Nat} (h : BestI p n k s true l) (hk : (papersL s n).length = k) (hl : ltL (papersL s n) l = false) : BestI p n k (s + 1) true l := by
  obtain ⟨a, b, c, d⟩ := h.2 rfl
  refine ⟨fun e => by simp at e, fun _ => ⟨a, b, c, fun t ht hk2 hp2 => ?_⟩⟩
  rcases Nat.lt_or_ge t s with h1 | h1
  · exact d t h1 hk2 hp2
  · obtain rfl : t = s := by omega
    exact ltL_total (hk.trans a.symm) hl
theorem combs_papers {n k : Nat} {t : List Nat} (h : t ∈ combs n k 0) : bitsS t < 2 ^ n ∧ papersL (bitsS t) n = t ∧ t.length = k := by
  rw [mem_combs] at h
  have ha : Asc t n := ⟨h.2.1, fun x hx => (h.2.2 x hx).2⟩
  exact ⟨(bitsS_spec t n ha).1, bitsS_list ha (Nat.le_refl _), h.1⟩
theorem best_none {p : List Nat → Bool} {n k : Nat} {l : List Nat} (h : BestI p n k (2 ^ n) false l) : ∀ t ∈ combs n k 0, p t = false := fun t ht => by
  obtain ⟨a, b, c⟩ := combs_papers ht
  have := h.1 rfl (bitsS t) a (by rw [b]; exact c)
  rw [b] at this
  exact this
theorem best_some {p : List Nat → Bool} {n k m : Nat} {l : List Nat} (h : BestI p n k (2 ^ n) true l) (hk : k < m) (h0 : ∀ t ∈ setsTo n k, p t = false) : (setsTo n m).find? p = some l := by
  obtain ⟨a, b, c, d⟩ := h.2 rfl
  refine sets_first hk h0 b c fun t ht hp => ?_
  obtain ⟨e1, e2, e3⟩ := combs_papers ht
  have := d (bitsS t) e1 (by rw [e2]; exact e3) (by rw [e2]; exact hp)
  rw [e2] at this
  exact this

theorem refForged_no (first : ByteArray) (A : Option Addr) (ps : List Pap) (B cap : Nat) (forged day : Int) (name : ByteArray) (w : World) (hf : first.size ≤ maxLen) (hm : ps.length ≤ maxLen) (hok : PapsOk ps) (hR : RdN 3 encPap w B A ps) (hB : B ≤ w.heap.size)
    (hE : openE first ps forged day ≠ 0) :
    Calls Try.prog 23 #[.agg #[.string first, .slice A ps.length cap, .int .i64 forged], .int .i64 day, .string name] w fun e w' => e = .returned (.tuple #[.slice none 0 0, iv (openE first ps forged day)]) ∧ Below w.heap.size w w' := by
  obtain ⟨E, hEE⟩ : ∃ E, openE first ps forged day = E := ⟨_, rfl⟩
  have hop := fun w (hR : RdN 3 encPap w B A ps) (hB : B ≤ w.heap.size) => dated_any first A ps B cap forged day w hf hm hok hR hB
  rw [hEE] at hE hop ⊢
  have hne : (E != 0) = true := by simpa using hE
  have HOP := Lib.hid hop
  clear hop hEE hE
  go_enter Try.func23, Try.ntmps23
  go_wp2_with fail
  refine (HOP.out _ (hR.below (B' := w.heap.size) (belowA (belowR _) _) hB) (by simp; omega)).mono ?_
  rintro e w1 ⟨rfl, hb⟩
  have hB1 := belowT (belowA (belowR _) _) hb
  clear hb
  go_wp2
  go_ret2
  exact ⟨rfl, hB1⟩

set_option maxRecDepth 100000 in
set_option maxHeartbeats 4000000 in
theorem refForged_yes (first : ByteArray) (A : Option Addr) (ps : List Pap) (B cap : Nat) (f : Nat) (day : Int) (name : ByteArray) (w : World) (hf : first.size ≤ maxLen) (hm : ps.length ≤ maxLen) (hok : PapsOk ps) (hd : ∀ p ∈ ps, 0 ≤ p.day ∧ p.day ≤ 40000) (hR : RdN 3 encPap w B A ps) (hB : B ≤ w.heap.size)
    (hE : openE first ps f day = 0) (hp8 : ps.length ≤ 8) :
    Calls Try.prog 23 #[.agg #[.string first, .slice A ps.length cap, .int .i64 f], .int .i64 day, .string name] w (ForgedPost first ps f day name w) := by
  obtain ⟨o, ho⟩ : ∃ o, IsOrder ps day o := ⟨_, sorted_order ps day⟩
  have hop := fun w (hR : RdN 3 encPap w B A ps) (hB : B ≤ w.heap.size) => dated_any first A ps B cap f day w hf hm hok hR hB
  rw [hE] at hop
  have hown := fun (s : Nat) (W : World) (hs : s ≤ 65536) (hR : RdN 3 encPap W B A ps) (hB : B ≤ W.heap.size) => refOwner_any first A ps B cap f day s o (papersL s ps.length) W hp8 hd hs ho (fun i hi => papersL_has s ps.length i hi) hR hB
  have hpap : ∀ (s : Nat) (W : World), s < 2 ^ ps.length → Calls Try.prog 65 #[.int .i64 s] W fun e W' => ∃ A' cap', e = .returned (.slice A' (papersL s ps.length).length cap') ∧ Rd1 nv W' W'.heap.size A' (papersL s ps.length) ∧ Below W.heap.size W W' := fun s W hs => by
    have h65 : s ≤ 65536 := by
      have : 2 ^ ps.length ≤ 2 ^ 8 := Nat.pow_le_pow_right (by omega) hp8
      omega
    refine (papers_any s W h65).mono ?_
    rintro e w' ⟨v, rfl, hown, hb⟩
    have := papersL_more hs (8 - ps.length)
    rw [show ps.length + (8 - ps.length) = 8 by omega] at this
    rw [this] at hown
    obtain ⟨A', cap', rfl, h2, _⟩ := own_rd1 hown
    exact ⟨A', cap', rfl, h2, hb⟩
  obtain ⟨p, hp⟩ : ∃ p : List Nat → Bool, (fun s => (ownerL first ps o s).toList == name.toList) = p := ⟨_, rfl⟩
  have hpat : ∀ s, ((ownerL first ps o s).toList == name.toList) = p s := fun s => by rw [← hp]
  have hfin : ∀ k l A' cap' w', k < min f ps.length + 1 → (∀ t ∈ setsTo ps.length k, p t = false) → BestI p ps.length k (2 ^ ps.length) true l → Below w.heap.size w w' → Rd1 nv w' w'.heap.size A' l → ForgedPost first ps f day name w (.returned (.tuple #[.slice A' l.length cap', iv 0])) w' := fun k l A' cap' w' hk h0 hb hbw hrd =>
    ⟨hbw, o, ho, .inr ⟨l, A', cap', by unfold forgedF; rw [hp]; exact best_some hb hk h0, rfl, hrd⟩⟩
  have hnon : ∀ w', (∀ t ∈ setsTo ps.length (min f ps.length + 1), p t = false) → Below w.heap.size w w' → ForgedPost first ps f day name w (.returned (.tuple #[.slice none 0 0, iv 4])) w' := fun w' h0 hbw =>
    ⟨hbw, o, ho, .inl ⟨by unfold forgedF; rw [hp]; exact List.find?_eq_none.2 fun t ht => by rw [h0 t ht]; simp, rfl⟩⟩
  have hbn : ∀ k l, BestI p ps.length k (2 ^ ps.length) false l → (∀ t ∈ setsTo ps.length k, p t = false) → ∀ t ∈ setsTo ps.length (k + 1), p t = false := fun k l h h0 => sets_none h0 (best_none h)
  have hlen : ∀ s, (papersL s ps.length).length ≤ 8 := fun s => Nat.le_trans (papersL_len s ps.length) hp8
  have h2n : 2 ^ ps.length ≤ 256 := by
    have : 2 ^ ps.length ≤ 2 ^ 8 := Nat.pow_le_pow_right (by omega) hp8
    omega
  have hbit := fun W => bit_any ps.length W (by omega)
  obtain ⟨P2, hP2⟩ : ∃ p, 2 ^ ps.length = p := ⟨_, rfl⟩
  rw [hP2] at h2n hbit hfin hpap hbn
  have HOP := Lib.hid hop
  have HOWN := Lib.hid hown
  have HPAP := Lib.hid hpap
  have HPAT := Lib.hid hpat
  have HFIN := Lib.hid hfin
  have HNON := Lib.hid hnon
  have HBN := Lib.hid hbn
  have HLEN := Lib.hid hlen
  have HBIT := Lib.hid hbit
  have HX : Hid (RdN 3 encPap w B A ps ∧ B ≤ w.heap.size) := Lib.hid ⟨hR, hB⟩
  clear hop hown hpap hpat hfin hnon hbn hlen hbit hE hf hok hd hR hB ho hP2 hp
  obtain ⟨W1, hW1⟩ : ∃ W1, w.alloc (.cells #[.string first, .slice A ps.length cap, .int .i64 f] 24) = W1 := ⟨_, rfl⟩
  have hb0 : Below w.heap.size w W1 := by rw [← hW1]; exact belowA (belowR _) _
  have p0 : W1.cell? ⟨w.heap.size, 0, none⟩ = some (.string first) := by rw [← hW1]; clear hW1; go_simp
  have p1 : W1.cell? ⟨w.heap.size, 1, none⟩ = some (.slice A ps.length cap) := by rw [← hW1]; clear hW1; go_simp
  have p2 : W1.cell? ⟨w.heap.size, 2, none⟩ = some (.int .i64 f) := by rw [← hW1]; clear hW1; go_simp
  have hz1 : w.heap.size < W1.heap.size := lt_of_cell p0
  have HB0 := Lib.hid hb0
  have HR1 : Hid (RdN 3 encPap W1 B A ps ∧ B ≤ W1.heap.size) := Lib.hid ⟨HX.out.1.below hb0 HX.out.2, by have := HX.out.2; omega⟩
  clear hb0
  go_enter Try.func23, Try.ntmps23
  go_wp2_with fail
  have HP := Lib.hid (And.intro p0 (And.intro p1 p2))
  clear hW1 p0 p1 p2
  refine (HOP.out _ HR1.out.1 HR1.out.2).mono ?_
  rintro e w1 ⟨rfl, hb1⟩
  have HB1 := Lib.hid hb1
  clear hb1
  go_wp2
  go_loopw [9] (fun vi wr => ∃ k : Nat, k ≤ min f ps.length + 1 ∧ vi = .int .i64 k ∧ Hid (∀ t ∈ setsTo ps.length k, p t = false) ∧ Hid (Below W1.heap.size W1 wr)) (fun vi _ => min f ps.length + 1 - (intOf vi).toNat)
  case atStart => exact ⟨0, Nat.zero_le _, rfl, Lib.hid (by simp [setsTo]), HB1⟩
  case round =>
    obtain ⟨k, hk, rfl, HK, HBR⟩ := hrel
    have p0 := keepC HBR.out HP.out.1
    have p1 := keepC HBR.out HP.out.2.1
    have p2 := keepC HBR.out HP.out.2.2
    have hzr := HBR.out.size
    have hk0 : (0 : Int) ≤ (k : Int) := by omega
    by_cases hkm : k < min f ps.length + 1
    · have hkf : (k : Int) ≤ (f : Int) := by omega
      have hkn : (k : Int) ≤ (ps.length : Int) := by omega
      go_wp2
      go_loopw [10, 11, 12] (fun vb vf vi wq => ∃ (s : Nat) (fd : Bool) (l : List Nat) (A' : Option Addr) (cap' : Nat), s ≤ P2 ∧ vi = .int .i64 s ∧ vf = .bool fd ∧ vb = .slice A' l.length cap' ∧ Hid (BestI p ps.length k s fd l) ∧ Hid (Rd1 nv wq wq.heap.size A' l) ∧ Hid (Below W1.heap.size W1 wq)) (fun _ _ vi _ => P2 - (intOf vi).toNat)
      case atStart => exact ⟨0, false, [], none, 0, Nat.zero_le _, rfl, rfl, rfl, Lib.hid (best_start _ _ _), Lib.hid (fun i x h => by simp at h), HBR⟩
      case round =>
        obtain ⟨s, fd, l, A', cap', hs, rfl, rfl, rfl, HI, HL, HBQ⟩ := hrel
        clear p0 p1 p2
        have p0 := keepC HBQ.out HP.out.1
        have p1 := keepC HBQ.out HP.out.2.1
        have p2 := keepC HBQ.out HP.out.2.2
        have hzq := HBQ.out.size
        by_cases hst : s < P2
        · have hsz : (s : Int) < (P2 : Int) := by omega
          have hs0 : (0 : Int) ≤ (s : Int) := by omega
          have h8 := HLEN.out s
          go_wp2_with fail
          refine (HBIT.out _).mono ?_
          rintro e w5 ⟨rfl, rfl⟩
          go_wp2_with fail
          by_cases hq : (papersL s ps.length).length = k
          · have hpp := fun W => HPAP.out s W hst
            rw [hq] at hpp
            have HQ := Lib.hid hq
            clear hq
            refine (hpp _).mono ?_
            rintro e w6 ⟨A2, cap2, rfl, hrd6, hb6⟩
            clear hpp
            have HRD6 := Lib.hid hrd6
            have HB6 := Lib.hid hb6
            have HBQ6 := Lib.hid (belowT HBQ.out hb6)
            have hz6 := hb6.size
            clear p0 p1 p2 hrd6 hb6
            have p0 := keepC HBQ6.out HP.out.1
            have p1 := keepC HBQ6.out HP.out.2.1
            have p2 := keepC HBQ6.out HP.out.2.2
            go_wp2_with fail
            refine (HOWN.out s _ (by omega) (HR1.out.1.below HBQ6.out HR1.out.2) (by have := HR1.out.2; omega)).mono ?_
            rintro e w7 ⟨rfl, hb7⟩
            have hpat := HPAT.out (papersL s ps.length)
            obtain ⟨X, hX⟩ : ∃ X, ownerL first ps o (papersL s ps.length) = X := ⟨_, rfl⟩
            rw [hX] at hpat ⊢
            have HB7 := Lib.hid hb7
            have HBQ7 := Lib.hid (belowT HBQ6.out hb7)
            have hz7 := hb7.size
            clear hX hb7
            cases hc : p (papersL s ps.length)
            · rw [hc] at hpat
              have HC := Lib.hid hc
              clear hc
              go_wp2
              go_roundw
              case rel => exact ⟨s + 1, fd, l, A', cap', by omega, by go_num, rfl, rfl, Lib.hid (best_skip HI.out (.inr HC.out)), Lib.hid (((HL.out.below (belowT HB6.out HB7.out) (Nat.le_refl _)).more (by omega))), HBQ7⟩
              case measure => simp [intOf]; omega
            · rw [hc] at hpat
              have HC := Lib.hid hc
              clear hc
              cases fd
              · go_wp2
                go_roundw
                case rel => exact ⟨s + 1, true, papersL s ps.length, A2, cap2, by omega, by go_num, rfl, by rw [HQ.out], Lib.hid (best_first HI.out HQ.out HC.out), Lib.hid ((HRD6.out.below HB7.out (Nat.le_refl _)).more hz7), HBQ7⟩
                case measure => simp [intOf]; omega
              · have hll := (HI.out.2 rfl).1
                have hbf := before_any (papersL s ps.length) l A2 A' cap2 cap' w7.heap.size w7 (hll.trans HQ.out.symm) h8 ((HRD6.out.below HB7.out (Nat.le_refl _)).more hz7) ((HL.out.below (belowT HB6.out HB7.out) (Nat.le_refl _)).more (by omega))
                rw [HQ.out] at hbf
                have HBF := Lib.hid hbf
                clear hbf hll
                go_wp2_with fail
                refine HBF.out.mono ?_
                rintro e w8 ⟨rfl, hb8⟩
                have HB8 := Lib.hid hb8
                have HBQ8 := Lib.hid (belowT HBQ7.out hb8)
                have hz8 := hb8.size
                clear hb8
                cases hlt : ltL (papersL s ps.length) l
                · have HLT := Lib.hid hlt
                  clear hlt
                  go_wp2
                  go_roundw
                  case rel => exact ⟨s + 1, true, l, A', cap', by omega, by go_num, rfl, rfl, Lib.hid (best_keep HI.out HQ.out HLT.out), Lib.hid ((HL.out.below (belowT (belowT HB6.out HB7.out) HB8.out) (Nat.le_refl _)).more (by omega)), HBQ8⟩
                  case measure => simp [intOf]; omega
                · have HLT := Lib.hid hlt
                  clear hlt
                  go_wp2
                  go_roundw
                  case rel => exact ⟨s + 1, true, papersL s ps.length, A2, cap2, by omega, by go_num, rfl, by rw [HQ.out], Lib.hid (best_less HI.out HQ.out HC.out HLT.out), Lib.hid ((HRD6.out.below (belowT HB7.out HB8.out) (Nat.le_refl _)).more (by omega)), HBQ8⟩
                  case measure => simp [intOf]; omega
          · have hpp := fun W => HPAP.out s W hst
            have HQ := Lib.hid hq
            refine (hpp _).mono ?_
            rintro e w6 ⟨A2, cap2, rfl, hrd6, hb6⟩
            clear hpp hrd6
            have HB6 := Lib.hid hb6
            have hz6 := hb6.size
            clear hb6
            obtain ⟨q, hqq⟩ : ∃ q, (papersL s ps.length).length = q := ⟨_, rfl⟩
            rw [hqq] at hq h8 ⊢
            clear hqq
            have hn1 : decide ((q : Int) = (k : Int)) = false := decide_eq_false (by omega)
            have hn2 : ((q : Int) == (k : Int)) = false := by rw [beq_eq_false_iff_ne]; omega
            have hn3 : decide (q = k) = false := decide_eq_false hq
            go_wp2
            go_roundw
            case rel => exact ⟨s + 1, fd, l, A', cap', by omega, by go_num, rfl, rfl, Lib.hid (best_skip HI.out (.inl HQ.out)), Lib.hid ((HL.out.below HB6.out (Nat.le_refl _)).more hz6), Lib.hid (belowT HBQ.out HB6.out)⟩
            case measure => simp [intOf]; omega
        · obtain rfl : s = P2 := by omega
          go_wp2_with fail
          refine (HBIT.out _).mono ?_
          rintro e w5 ⟨rfl, rfl⟩
          cases fd
          · go_wp2
            go_roundw
            case rel => exact ⟨k + 1, by omega, by go_num, Lib.hid (HBN.out k l HI.out HK.out), HBQ⟩
            case measure => simp [intOf]; omega
          · go_wp2
            go_ret2
            exact HFIN.out k l A' cap' _ hkm HK.out HI.out (belowT HB0.out HBQ.out) HL.out
    · obtain rfl : k = min f ps.length + 1 := by omega
      by_cases hkf : min f ps.length + 1 ≤ f
      · have hkn : ¬ min f ps.length + 1 ≤ ps.length := by omega
        go_wp2
        go_ret2
        exact HNON.out _ HK.out (belowT HB0.out HBR.out)
      · go_wp2
        go_ret2
        exact HNON.out _ HK.out (belowT HB0.out HBR.out)
end Go.Proofs.Ytblbbhenmhkknaa
