/- The reference: a further string into an ascending list of strings (F63): the region that lays it. The reference: a further string into an ascending list of strings (F63). -/
import Derived.Deep.RegionHeld3
import Derived.WalkLawsBesides
import Derived.Test.YtblbbhenmhkknaaZb23095
import Derived.Test.YtblbbhenmhkknaaZd186c0
import Derived.Test.YtblbbhenmhkknaaYReg
namespace Go.Proofs.Ytblbbhenmhkknaa
open Go.RowKit Go.Sort

set_option maxRecDepth 1000000 in
set_option maxHeartbeats 4000000 in
theorem ins_reg_mid {Q : Exit → Act → World → Prop} {z2 z3 z4 z6 z7 z8 z9 z10 z11 z12 z13 z14 z15 z16 z17 z18 z19 z20 z21 z22 z23 z24 z25 z26 z27 z28 z29 z30 z31 z32 z33 z34 z35 z36 z37 z38 z39 z40 z41 z42 z43 z44 : Value} {n k cap B b off : Nat} (os : List (List UInt8)) (x : List UInt8) {V : World} (hk : k ≤ n) (hn : os.length = n) (hn9 : n ≤ 256) (hcap : n ≤ cap) (hlt : k < cap) (hR : Rd1 encStr V B (some ⟨b, off, none⟩) os) (hB : B ≤ V.heap.size)
    (hQ : ∀ u33 u34 u35 u36 u37 u38 u39 u40 u41 u42 u43 u44 u4 wx, wx.ownsRow V.heap.size 9 1 u4 (n + 1) ((os.take k ++ [x] ++ os.drop k).map encStr) → Below V.heap.size V wx → Q .normal ⟨#[.slice (some ⟨b, off, none⟩) n cap, .string ⟨x.toArray⟩, z2, z3, u4, .int .i64 k, z6, z7, z8, z9, z10, z11, z12, z13, z14, z15, z16, z17, z18, z19, z20, z21, z22, z23, z24, z25, z26, z27, z28, z29, z30, z31, z32, u33, u34, u35, u36, u37, u38, u39, u40, u41, u42, u43, u44], []⟩ wx) :
    (regionOf Try.f63 6).wp Try.prog Q ⟨#[.slice (some ⟨b, off, none⟩) n cap, .string ⟨x.toArray⟩, z2, z3, z4, .int .i64 k, z6, z7, z8, z9, z10, z11, z12, z13, z14, z15, z16, z17, z18, z19, z20, z21, z22, z23, z24, z25, z26, z27, z28, z29, z30, z31, z32, z33, z34, z35, z36, z37, z38, z39, z40, z41, z42, z43, z44], []⟩ V := by
  obtain ⟨i4, hi4, hz40, hz41, hz42⟩ := info_parts Try.info9
  have hk9b : k + 1 ≤ maxLen := by unfold maxLen; omega
  have hk9 : 0 + k ≤ maxLen := by rw [Nat.zero_add]; exact Nat.le_of_succ_le hk9b
  have hk9c : k + 1 + (n - k) ≤ maxLen := by rw [show k + 1 + (n - k) = n + 1 from by omega]; unfold maxLen; omega
  have hk16b : (k + 1) * 16 ≤ 140737488355328 := by omega
  have hk16 : (0 + k) * 16 ≤ 140737488355328 := by rw [Nat.zero_add]; omega
  have hk16c : (k + 1 + (n - k)) * 16 ≤ 140737488355328 := by rw [show k + 1 + (n - k) = n + 1 from by omega]; omega
  have hkz : (k : Int) ≤ (n : Int) := by omega
  have hk0 : (0 : Int) ≤ (k : Int) := by omega
  have hcz : (n : Int) ≤ (cap : Int) := by omega
  have hkc : (k : Int) ≤ (cap : Int) := by omega
  have hkl : (k : Int) < (cap : Int) := by omega
  have hkne : ¬ cap = k := by omega
  have hkne2 : ¬ k = cap := by omega
  have HS1 : Hid (∀ W' : World, (∀ b o v, b < V.heap.size → V.cell? ⟨b, o, none⟩ = some v → W'.cell? ⟨b, o, none⟩ = some v) → Srcs W' 1 (.slice (some ⟨b, off, none⟩) k cap) k ((os.take k).map encStr)) := Lib.hid (fun W' h => .inr ⟨⟨b, off, none⟩, _, rfl, (by rw [List.length_map]; simp [hn]; try omega), (fun j u hu => by
    rw [add_off]
    rw [List.getElem?_map] at hu
    cases hx : (os.take k)[j]? with
    | none => rw [hx] at hu; simp at hu
    | some y =>
      rw [hx] at hu
      simp only [Option.map_some, Option.some.injEq] at hu
      subst hu
      rw [List.getElem?_take] at hx
      split at hx
      · obtain ⟨b', o', ee, hb', hc⟩ := hR j y hx
        injection ee with ee
        injection ee with ee1 ee2
        subst ee1 ee2
        exact h _ _ _ (by omega) hc
      · cases hx), (fun u hu => by
    obtain ⟨y, _, rfl⟩ := List.mem_map.1 hu
    rfl)⟩)
  have HS2 : Hid (∀ W' : World, (∀ b o v, b < V.heap.size → V.cell? ⟨b, o, none⟩ = some v → W'.cell? ⟨b, o, none⟩ = some v) → Srcs W' 1 (.slice (some ⟨b, off + k, none⟩) (n - k) (cap - k)) (n - k) ((os.drop k).map encStr)) := Lib.hid (fun W' h => .inr ⟨⟨b, off + k, none⟩, _, rfl, (by rw [List.length_map]; simp [hn]; try omega), (fun j u hu => by
    rw [add_off]
    rw [List.getElem?_map] at hu
    cases hx : (os.drop k)[j]? with
    | none => rw [hx] at hu; simp at hu
    | some y =>
      rw [hx] at hu
      simp only [Option.map_some, Option.some.injEq] at hu
      subst hu
      rw [List.getElem?_drop] at hx
      obtain ⟨b', o', ee, hb', hc⟩ := hR (k + j) y hx
      injection ee with ee
      injection ee with ee1 ee2
      subst ee1 ee2
      rw [Nat.add_assoc]
      exact h _ _ _ (by omega) hc), (fun u hu => by
    obtain ⟨y, _, rfl⟩ := List.mem_map.1 hu
    rfl)⟩)
  have HQ := Lib.hid hQ
  have HE : Hid (k + 1 + (n - k) = n + 1) := Lib.hid (by omega)
  clear hQ hR
  conv => arg 2; whnf
  go_region_held3 (fun _ => True) (trivial) ((first | ((with_reducible refine step_at w7 ?_); refine step_append_any (by rfl) _ _ _ (by rfl) V.heap.size 9 i4 _ 1 16 Try.underlying28 hi4 hz40 hz41 hz42 rfl (by omega) _ (k + 1) _ (by rfl) hown7 _ (n - k) ((os.drop k).map encStr) (by rfl) (HS2.out _ (fun _ _ _ _ h => keepC hB7 h)) hk9c hk16c hB7.size ?_; intro v8 w8 hown8 hgrow8; have hB8 : Below V.heap.size V w8 := grownB hown7 hgrow8 (Nat.le_refl _) hB7) | ((with_reducible refine step_at (w6.alloc (.cells #[.string ⟨x.toArray⟩] 9)) ?_); have hownA := hown6.alloc (.cells #[.string ⟨x.toArray⟩] 9); have hbA : Below V.heap.size V _ := belowA hB6 (.cells #[.string ⟨x.toArray⟩] 9); refine step_append_any (by rfl) _ _ _ (by rfl) V.heap.size 9 i4 _ 1 16 Try.underlying28 hi4 hz40 hz41 hz42 rfl (by omega) _ k _ (by rfl) hownA (.slice (some ⟨w6.heap.size, 0, none⟩) 1 1) 1 [.string ⟨x.toArray⟩] (by rfl) (.inr ⟨⟨w6.heap.size, 0, none⟩, 1, rfl, rfl, (World.news_of_block (cs := #[.string ⟨x.toArray⟩]) (t := 9) (fr := (0, 0)) (heap_alloc_new w6 _)), by simp [Value.oneCell']⟩) hk9b hk16b hbA.size ?_; intro v7 w7 hown7 hgrow7; have hB7 : Below V.heap.size V w7 := grownB hownA hgrow7 (Nat.le_refl _) hbA) | ((with_reducible refine step_at w6 ?_); have hownA := hown6; have hbA : Below V.heap.size V _ := hB6; refine step_append_any (by rfl) _ _ _ (by rfl) V.heap.size 9 i4 _ 1 16 Try.underlying28 hi4 hz40 hz41 hz42 rfl (by omega) _ k _ (by rfl) hownA (.slice (some ⟨V.heap.size + 1, 0, none⟩) 1 1) 1 [.string ⟨x.toArray⟩] (by rfl) (.inr ⟨⟨V.heap.size + 1, 0, none⟩, 1, rfl, rfl, hN6b, by simp [Value.oneCell']⟩) hk9b hk16b hbA.size ?_; intro v7 w7 hown7 hgrow7; have hB7 : Below V.heap.size V w7 := grownB hownA hgrow7 (Nat.le_refl _) hbA) | ((with_reducible refine step_at w6 ?_); have hownA := hown6; have hbA : Below V.heap.size V _ := hB6; refine step_append_any (by rfl) _ _ _ (by rfl) V.heap.size 9 i4 _ 1 16 Try.underlying28 hi4 hz40 hz41 hz42 rfl (by omega) _ k _ (by rfl) hownA (.slice (some ⟨V.heap.size, 0, none⟩) 1 1) 1 [.string ⟨x.toArray⟩] (by rfl) (.inr ⟨⟨V.heap.size, 0, none⟩, 1, rfl, rfl, hN6c, by simp [Value.oneCell']⟩) hk9b hk16b hbA.size ?_; intro v7 w7 hown7 hgrow7; have hB7 : Below V.heap.size V w7 := grownB hownA hgrow7 (Nat.le_refl _) hbA) | ((with_reducible refine step_at (V.alloc (.cells #[] 9)).drew ?_); have hownA := (lit0 V 9 1).drew; have hbA : Below V.heap.size V _ := belowDq (belowA (belowR V) (.cells #[] 9)); refine step_append_any (by rfl) _ _ _ (by rfl) V.heap.size 9 i4 _ 1 16 Try.underlying28 hi4 hz40 hz41 hz42 rfl (by omega) _ 0 _ (by rfl) hownA _ k ((os.take k).map encStr) (by rfl) (HS1.out _ (fun _ _ _ _ h => keepA h _)) hk9 hk16 hbA.size ?_; intro v6 w6 hown6 hgrow6; have hB6 : Below V.heap.size V w6 := grownB hownA hgrow6 (Nat.le_refl _) hbA; simp only [Nat.zero_add, List.nil_append] at hown6) | ((with_reducible refine step_at ((V.alloc (.cells #[] 9)).alloc (.cells #[.string ⟨x.toArray⟩] 9)).drew ?_); have hownA := ((lit0 V 9 1).alloc (.cells #[.string ⟨x.toArray⟩] 9)).drew; have hbA : Below V.heap.size V _ := belowDq (belowA (belowA (belowR V) (.cells #[] 9)) (.cells #[.string ⟨x.toArray⟩] 9)); refine step_append_any (by rfl) _ _ _ (by rfl) V.heap.size 9 i4 _ 1 16 Try.underlying28 hi4 hz40 hz41 hz42 rfl (by omega) _ 0 _ (by rfl) hownA _ k ((os.take k).map encStr) (by rfl) (HS1.out _ (fun _ _ _ _ h => keepA (keepA h _) _)) hk9 hk16 hbA.size ?_; intro v6 w6 hown6 hgrow6; have hB6 : Below V.heap.size V w6 := grownB hownA hgrow6 (Nat.le_refl _) hbA; simp only [Nat.zero_add, List.nil_append] at hown6; have hN6b : ∀ j u, ([.string ⟨x.toArray⟩] : List Value)[j]? = some u → w6.cell? ((⟨V.heap.size + 1, 0, none⟩ : Addr).add j) = some u := news_far_sl hgrow6 (news_b V (.cells #[] 9) [.string ⟨x.toArray⟩] 9) (by simp) (by omega)) | ((with_reducible refine step_at ((V.alloc (.cells #[.string ⟨x.toArray⟩] 9)).alloc (.cells #[] 9)).drew ?_); have hownA := (lit0b V (.cells #[.string ⟨x.toArray⟩] 9) 9 1).drew; have hbA : Below V.heap.size V _ := belowDq (belowA (belowA (belowR V) (.cells #[.string ⟨x.toArray⟩] 9)) (.cells #[] 9)); refine step_append_any (by rfl) _ _ _ (by rfl) V.heap.size 9 i4 _ 1 16 Try.underlying28 hi4 hz40 hz41 hz42 rfl (by omega) _ 0 _ (by rfl) hownA _ k ((os.take k).map encStr) (by rfl) (HS1.out _ (fun _ _ _ _ h => keepA (keepA h _) _)) hk9 hk16 hbA.size ?_; intro v6 w6 hown6 hgrow6; have hB6 : Below V.heap.size V w6 := grownB hownA hgrow6 (Nat.le_refl _) hbA; simp only [Nat.zero_add, List.nil_append] at hown6; have hN6c : ∀ j u, ([.string ⟨x.toArray⟩] : List Value)[j]? = some u → w6.cell? ((⟨V.heap.size, 0, none⟩ : Addr).add j) = some u := news_far_sl hgrow6 (news_c V (.cells #[] 9) [.string ⟨x.toArray⟩] 9) (by simp; omega) (by omega))))
  all_goals exact HQ.out _ _ _ _ _ _ _ _ _ _ _ _ _ _ (by have h := hown8; rw [HE.out] at h; rw [List.map_append, List.map_append]; exact h) hB8

set_option maxRecDepth 1000000 in
set_option maxHeartbeats 4000000 in
theorem ins_reg_end {Q : Exit → Act → World → Prop} {z2 z3 z4 z6 z7 z8 z9 z10 z11 z12 z13 z14 z15 z16 z17 z18 z19 z20 z21 z22 z23 z24 z25 z26 z27 z28 z29 z30 z31 z32 z33 z34 z35 z36 z37 z38 z39 z40 z41 z42 z43 z44 : Value} {n k cap B b off : Nat} (os : List (List UInt8)) (x : List UInt8) {V : World} (hk : k ≤ n) (hn : os.length = n) (hn9 : n ≤ 256) (hkn : n = k) (hcap : k = cap) (hR : Rd1 encStr V B (some ⟨b, off, none⟩) os) (hB : B ≤ V.heap.size)
    (hQ : ∀ u33 u34 u35 u36 u37 u38 u39 u40 u41 u42 u43 u44 u4 wx, wx.ownsRow V.heap.size 9 1 u4 (n + 1) ((os.take k ++ [x] ++ os.drop k).map encStr) → Below V.heap.size V wx → Q .normal ⟨#[.slice (some ⟨b, off, none⟩) n cap, .string ⟨x.toArray⟩, z2, z3, u4, .int .i64 k, z6, z7, z8, z9, z10, z11, z12, z13, z14, z15, z16, z17, z18, z19, z20, z21, z22, z23, z24, z25, z26, z27, z28, z29, z30, z31, z32, u33, u34, u35, u36, u37, u38, u39, u40, u41, u42, u43, u44], []⟩ wx) :
    (regionOf Try.f63 6).wp Try.prog Q ⟨#[.slice (some ⟨b, off, none⟩) n cap, .string ⟨x.toArray⟩, z2, z3, z4, .int .i64 k, z6, z7, z8, z9, z10, z11, z12, z13, z14, z15, z16, z17, z18, z19, z20, z21, z22, z23, z24, z25, z26, z27, z28, z29, z30, z31, z32, z33, z34, z35, z36, z37, z38, z39, z40, z41, z42, z43, z44], []⟩ V := by
  obtain rfl := hkn.symm
  subst hcap
  obtain ⟨i4, hi4, hz40, hz41, hz42⟩ := info_parts Try.info9
  have hk9b : k + 1 ≤ maxLen := by unfold maxLen; omega
  have hk9 : 0 + k ≤ maxLen := by rw [Nat.zero_add]; exact Nat.le_of_succ_le hk9b
  have hk9c : k + 1 + 0 ≤ maxLen := hk9b
  have hk16b : (k + 1) * 16 ≤ 140737488355328 := by omega
  have hk16 : (0 + k) * 16 ≤ 140737488355328 := by rw [Nat.zero_add]; omega
  have hk16c : (k + 1 + 0) * 16 ≤ 140737488355328 := hk16b
  have hkz : (k : Int) ≤ (k : Int) := by omega
  have hk0 : (0 : Int) ≤ (k : Int) := by omega
  have hcz : (k : Int) ≤ (k : Int) := by omega
  have hkc : (k : Int) ≤ (k : Int) := by omega
  have HS1 : Hid (∀ W' : World, (∀ b o v, b < V.heap.size → V.cell? ⟨b, o, none⟩ = some v → W'.cell? ⟨b, o, none⟩ = some v) → Srcs W' 1 (.slice (some ⟨b, off, none⟩) k k) k ((os.take k).map encStr)) := Lib.hid (fun W' h => .inr ⟨⟨b, off, none⟩, _, rfl, (by rw [List.length_map]; simp [hn]; try omega), (fun j u hu => by
    rw [add_off]
    rw [List.getElem?_map] at hu
    cases hx : (os.take k)[j]? with
    | none => rw [hx] at hu; simp at hu
    | some y =>
      rw [hx] at hu
      simp only [Option.map_some, Option.some.injEq] at hu
      subst hu
      rw [List.getElem?_take] at hx
      split at hx
      · obtain ⟨b', o', ee, hb', hc⟩ := hR j y hx
        injection ee with ee
        injection ee with ee1 ee2
        subst ee1 ee2
        exact h _ _ _ (by omega) hc
      · cases hx), (fun u hu => by
    obtain ⟨y, _, rfl⟩ := List.mem_map.1 hu
    rfl)⟩)
  have HS2 : Hid (∀ W' : World, (∀ b o v, b < V.heap.size → V.cell? ⟨b, o, none⟩ = some v → W'.cell? ⟨b, o, none⟩ = some v) → Srcs W' 1 (.slice (some ⟨b, off, none⟩) 0 0) 0 []) := Lib.hid (fun W' h => .inr ⟨⟨b, off, none⟩, 0, rfl, rfl, (by intro j u hu; simp at hu), (by intro u hu; simp at hu)⟩)
  have HQ := Lib.hid hQ
  have HE : Hid (True) := Lib.hid trivial
  clear hQ hR
  conv => arg 2; whnf
  go_region_held3 (fun _ => True) (trivial) ((first | ((with_reducible refine step_at w7 ?_); refine step_append_any (by rfl) _ _ _ (by rfl) V.heap.size 9 i4 _ 1 16 Try.underlying28 hi4 hz40 hz41 hz42 rfl (by omega) _ (k + 1) _ (by rfl) hown7 _ 0 [] (by rfl) (HS2.out _ (fun _ _ _ _ h => keepC hB7 h)) hk9c hk16c hB7.size ?_; intro v8 w8 hown8 hgrow8; have hB8 : Below V.heap.size V w8 := grownB hown7 hgrow8 (Nat.le_refl _) hB7) | ((with_reducible refine step_at (w6.alloc (.cells #[.string ⟨x.toArray⟩] 9)) ?_); have hownA := hown6.alloc (.cells #[.string ⟨x.toArray⟩] 9); have hbA : Below V.heap.size V _ := belowA hB6 (.cells #[.string ⟨x.toArray⟩] 9); refine step_append_any (by rfl) _ _ _ (by rfl) V.heap.size 9 i4 _ 1 16 Try.underlying28 hi4 hz40 hz41 hz42 rfl (by omega) _ k _ (by rfl) hownA (.slice (some ⟨w6.heap.size, 0, none⟩) 1 1) 1 [.string ⟨x.toArray⟩] (by rfl) (.inr ⟨⟨w6.heap.size, 0, none⟩, 1, rfl, rfl, (World.news_of_block (cs := #[.string ⟨x.toArray⟩]) (t := 9) (fr := (0, 0)) (heap_alloc_new w6 _)), by simp [Value.oneCell']⟩) hk9b hk16b hbA.size ?_; intro v7 w7 hown7 hgrow7; have hB7 : Below V.heap.size V w7 := grownB hownA hgrow7 (Nat.le_refl _) hbA) | ((with_reducible refine step_at w6 ?_); have hownA := hown6; have hbA : Below V.heap.size V _ := hB6; refine step_append_any (by rfl) _ _ _ (by rfl) V.heap.size 9 i4 _ 1 16 Try.underlying28 hi4 hz40 hz41 hz42 rfl (by omega) _ k _ (by rfl) hownA (.slice (some ⟨V.heap.size + 1, 0, none⟩) 1 1) 1 [.string ⟨x.toArray⟩] (by rfl) (.inr ⟨⟨V.heap.size + 1, 0, none⟩, 1, rfl, rfl, hN6b, by simp [Value.oneCell']⟩) hk9b hk16b hbA.size ?_; intro v7 w7 hown7 hgrow7; have hB7 : Below V.heap.size V w7 := grownB hownA hgrow7 (Nat.le_refl _) hbA) | ((with_reducible refine step_at w6 ?_); have hownA := hown6; have hbA : Below V.heap.size V _ := hB6; refine step_append_any (by rfl) _ _ _ (by rfl) V.heap.size 9 i4 _ 1 16 Try.underlying28 hi4 hz40 hz41 hz42 rfl (by omega) _ k _ (by rfl) hownA (.slice (some ⟨V.heap.size, 0, none⟩) 1 1) 1 [.string ⟨x.toArray⟩] (by rfl) (.inr ⟨⟨V.heap.size, 0, none⟩, 1, rfl, rfl, hN6c, by simp [Value.oneCell']⟩) hk9b hk16b hbA.size ?_; intro v7 w7 hown7 hgrow7; have hB7 : Below V.heap.size V w7 := grownB hownA hgrow7 (Nat.le_refl _) hbA) | ((with_reducible refine step_at (V.alloc (.cells #[] 9)).drew ?_); have hownA := (lit0 V 9 1).drew; have hbA : Below V.heap.size V _ := belowDq (belowA (belowR V) (.cells #[] 9)); refine step_append_any (by rfl) _ _ _ (by rfl) V.heap.size 9 i4 _ 1 16 Try.underlying28 hi4 hz40 hz41 hz42 rfl (by omega) _ 0 _ (by rfl) hownA _ k ((os.take k).map encStr) (by rfl) (HS1.out _ (fun _ _ _ _ h => keepA h _)) hk9 hk16 hbA.size ?_; intro v6 w6 hown6 hgrow6; have hB6 : Below V.heap.size V w6 := grownB hownA hgrow6 (Nat.le_refl _) hbA; simp only [Nat.zero_add, List.nil_append] at hown6) | ((with_reducible refine step_at ((V.alloc (.cells #[] 9)).alloc (.cells #[.string ⟨x.toArray⟩] 9)).drew ?_); have hownA := ((lit0 V 9 1).alloc (.cells #[.string ⟨x.toArray⟩] 9)).drew; have hbA : Below V.heap.size V _ := belowDq (belowA (belowA (belowR V) (.cells #[] 9)) (.cells #[.string ⟨x.toArray⟩] 9)); refine step_append_any (by rfl) _ _ _ (by rfl) V.heap.size 9 i4 _ 1 16 Try.underlying28 hi4 hz40 hz41 hz42 rfl (by omega) _ 0 _ (by rfl) hownA _ k ((os.take k).map encStr) (by rfl) (HS1.out _ (fun _ _ _ _ h => keepA (keepA h _) _)) hk9 hk16 hbA.size ?_; intro v6 w6 hown6 hgrow6; have hB6 : Below V.heap.size V w6 := grownB hownA hgrow6 (Nat.le_refl _) hbA; simp only [Nat.zero_add, List.nil_append] at hown6; have hN6b : ∀ j u, ([.string ⟨x.toArray⟩] : List Value)[j]? = some u → w6.cell? ((⟨V.heap.size + 1, 0, none⟩ : Addr).add j) = some u := news_far_sl hgrow6 (news_b V (.cells #[] 9) [.string ⟨x.toArray⟩] 9) (by simp) (by omega)) | ((with_reducible refine step_at ((V.alloc (.cells #[.string ⟨x.toArray⟩] 9)).alloc (.cells #[] 9)).drew ?_); have hownA := (lit0b V (.cells #[.string ⟨x.toArray⟩] 9) 9 1).drew; have hbA : Below V.heap.size V _ := belowDq (belowA (belowA (belowR V) (.cells #[.string ⟨x.toArray⟩] 9)) (.cells #[] 9)); refine step_append_any (by rfl) _ _ _ (by rfl) V.heap.size 9 i4 _ 1 16 Try.underlying28 hi4 hz40 hz41 hz42 rfl (by omega) _ 0 _ (by rfl) hownA _ k ((os.take k).map encStr) (by rfl) (HS1.out _ (fun _ _ _ _ h => keepA (keepA h _) _)) hk9 hk16 hbA.size ?_; intro v6 w6 hown6 hgrow6; have hB6 : Below V.heap.size V w6 := grownB hownA hgrow6 (Nat.le_refl _) hbA; simp only [Nat.zero_add, List.nil_append] at hown6; have hN6c : ∀ j u, ([.string ⟨x.toArray⟩] : List Value)[j]? = some u → w6.cell? ((⟨V.heap.size, 0, none⟩ : Addr).add j) = some u := news_far_sl hgrow6 (news_c V (.cells #[] 9) [.string ⟨x.toArray⟩] 9) (by simp; omega) (by omega))))
  all_goals exact HQ.out _ _ _ _ _ _ _ _ _ _ _ _ _ _ (by have h := hown8; rw [List.map_append, List.map_append, show os.drop k = [] from List.drop_eq_nil_of_le (by rw [hn]; exact Nat.le_refl _)]; exact h) hB8

set_option maxRecDepth 1000000 in
set_option maxHeartbeats 4000000 in
theorem ins_reg_nil {Q : Exit → Act → World → Prop} {z2 z3 z4 z6 z7 z8 z9 z10 z11 z12 z13 z14 z15 z16 z17 z18 z19 z20 z21 z22 z23 z24 z25 z26 z27 z28 z29 z30 z31 z32 z33 z34 z35 z36 z37 z38 z39 z40 z41 z42 z43 z44 : Value} (x : List UInt8) {V : World}
    (hQ : ∀ u33 u34 u35 u36 u37 u38 u39 u40 u41 u42 u43 u44 u4 wx, wx.ownsRow V.heap.size 9 1 u4 1 ([x].map encStr) → Below V.heap.size V wx → Q .normal ⟨#[.slice none 0 0, .string ⟨x.toArray⟩, z2, z3, u4, .int .i64 0, z6, z7, z8, z9, z10, z11, z12, z13, z14, z15, z16, z17, z18, z19, z20, z21, z22, z23, z24, z25, z26, z27, z28, z29, z30, z31, z32, u33, u34, u35, u36, u37, u38, u39, u40, u41, u42, u43, u44], []⟩ wx) :
    (regionOf Try.f63 6).wp Try.prog Q ⟨#[.slice none 0 0, .string ⟨x.toArray⟩, z2, z3, z4, .int .i64 0, z6, z7, z8, z9, z10, z11, z12, z13, z14, z15, z16, z17, z18, z19, z20, z21, z22, z23, z24, z25, z26, z27, z28, z29, z30, z31, z32, z33, z34, z35, z36, z37, z38, z39, z40, z41, z42, z43, z44], []⟩ V := by
  obtain ⟨i4, hi4, hz40, hz41, hz42⟩ := info_parts Try.info9
  have hk90 : 0 + 0 ≤ maxLen := Nat.zero_le _
  have hk160 : (0 + 0) * 16 ≤ 140737488355328 := by omega
  have hk9 : 0 + 1 ≤ maxLen := by unfold maxLen; omega
  have hk16 : (0 + 1) * 16 ≤ 140737488355328 := by omega
  have hk91 : 0 + 1 + 0 ≤ maxLen := by unfold maxLen; omega
  have hk161 : (0 + 1 + 0) * 16 ≤ 140737488355328 := by omega
  have HQ := Lib.hid hQ
  clear hQ
  conv => arg 2; whnf
  go_region_held3 (fun _ => True) (trivial) ((first | ((with_reducible refine step_at w7 ?_); refine step_append_any (by rfl) _ _ _ (by rfl) V.heap.size 9 i4 _ 1 16 Try.underlying28 hi4 hz40 hz41 hz42 rfl (by omega) _ (0 + 1) _ (by rfl) hown7 _ 0 [] (by rfl) (.inl ⟨rfl, rfl, rfl⟩) hk91 hk161 hB7.size ?_; intro v8 w8 hown8 hgrow8; have hB8 : Below V.heap.size V w8 := grownB hown7 hgrow8 (Nat.le_refl _) hB7) | ((with_reducible refine step_at (w6.alloc (.cells #[.string ⟨x.toArray⟩] 9)) ?_); have hownA := hown6.alloc (.cells #[.string ⟨x.toArray⟩] 9); have hbA : Below V.heap.size V _ := belowA hB6 (.cells #[.string ⟨x.toArray⟩] 9); refine step_append_any (by rfl) _ _ _ (by rfl) V.heap.size 9 i4 _ 1 16 Try.underlying28 hi4 hz40 hz41 hz42 rfl (by omega) _ 0 _ (by rfl) hownA (.slice (some ⟨w6.heap.size, 0, none⟩) 1 1) 1 [.string ⟨x.toArray⟩] (by rfl) (.inr ⟨⟨w6.heap.size, 0, none⟩, 1, rfl, rfl, (World.news_of_block (cs := #[.string ⟨x.toArray⟩]) (t := 9) (fr := (0, 0)) (heap_alloc_new w6 _)), by simp [Value.oneCell']⟩) hk9 hk16 hbA.size ?_; intro v7 w7 hown7 hgrow7; have hB7 : Below V.heap.size V w7 := grownB hownA hgrow7 (Nat.le_refl _) hbA) | ((with_reducible refine step_at w6 ?_); have hownA := hown6; have hbA : Below V.heap.size V _ := hB6; refine step_append_any (by rfl) _ _ _ (by rfl) V.heap.size 9 i4 _ 1 16 Try.underlying28 hi4 hz40 hz41 hz42 rfl (by omega) _ 0 _ (by rfl) hownA (.slice (some ⟨V.heap.size + 1, 0, none⟩) 1 1) 1 [.string ⟨x.toArray⟩] (by rfl) (.inr ⟨⟨V.heap.size + 1, 0, none⟩, 1, rfl, rfl, hN6b, by simp [Value.oneCell']⟩) hk9 hk16 hbA.size ?_; intro v7 w7 hown7 hgrow7; have hB7 : Below V.heap.size V w7 := grownB hownA hgrow7 (Nat.le_refl _) hbA) | ((with_reducible refine step_at w6 ?_); have hownA := hown6; have hbA : Below V.heap.size V _ := hB6; refine step_append_any (by rfl) _ _ _ (by rfl) V.heap.size 9 i4 _ 1 16 Try.underlying28 hi4 hz40 hz41 hz42 rfl (by omega) _ 0 _ (by rfl) hownA (.slice (some ⟨V.heap.size, 0, none⟩) 1 1) 1 [.string ⟨x.toArray⟩] (by rfl) (.inr ⟨⟨V.heap.size, 0, none⟩, 1, rfl, rfl, hN6c, by simp [Value.oneCell']⟩) hk9 hk16 hbA.size ?_; intro v7 w7 hown7 hgrow7; have hB7 : Below V.heap.size V w7 := grownB hownA hgrow7 (Nat.le_refl _) hbA) | ((with_reducible refine step_at (V.alloc (.cells #[] 9)).drew ?_); have hownA := (lit0 V 9 1).drew; have hbA : Below V.heap.size V _ := belowDq (belowA (belowR V) (.cells #[] 9)); refine step_append_any (by rfl) _ _ _ (by rfl) V.heap.size 9 i4 _ 1 16 Try.underlying28 hi4 hz40 hz41 hz42 rfl (by omega) _ 0 _ (by rfl) hownA _ 0 [] (by rfl) (.inl ⟨rfl, rfl, rfl⟩) hk90 hk160 hbA.size ?_; intro v6 w6 hown6 hgrow6; have hB6 : Below V.heap.size V w6 := grownB hownA hgrow6 (Nat.le_refl _) hbA; simp only [Nat.add_zero, List.append_nil] at hown6) | ((with_reducible refine step_at ((V.alloc (.cells #[] 9)).alloc (.cells #[.string ⟨x.toArray⟩] 9)).drew ?_); have hownA := ((lit0 V 9 1).alloc (.cells #[.string ⟨x.toArray⟩] 9)).drew; have hbA : Below V.heap.size V _ := belowDq (belowA (belowA (belowR V) (.cells #[] 9)) (.cells #[.string ⟨x.toArray⟩] 9)); refine step_append_any (by rfl) _ _ _ (by rfl) V.heap.size 9 i4 _ 1 16 Try.underlying28 hi4 hz40 hz41 hz42 rfl (by omega) _ 0 _ (by rfl) hownA _ 0 [] (by rfl) (.inl ⟨rfl, rfl, rfl⟩) hk90 hk160 hbA.size ?_; intro v6 w6 hown6 hgrow6; have hB6 : Below V.heap.size V w6 := grownB hownA hgrow6 (Nat.le_refl _) hbA; simp only [Nat.add_zero, List.append_nil] at hown6; have hN6b : ∀ j u, ([.string ⟨x.toArray⟩] : List Value)[j]? = some u → w6.cell? ((⟨V.heap.size + 1, 0, none⟩ : Addr).add j) = some u := news_far_sl hgrow6 (news_b V (.cells #[] 9) [.string ⟨x.toArray⟩] 9) (by simp) (by omega)) | ((with_reducible refine step_at ((V.alloc (.cells #[.string ⟨x.toArray⟩] 9)).alloc (.cells #[] 9)).drew ?_); have hownA := (lit0b V (.cells #[.string ⟨x.toArray⟩] 9) 9 1).drew; have hbA : Below V.heap.size V _ := belowDq (belowA (belowA (belowR V) (.cells #[.string ⟨x.toArray⟩] 9)) (.cells #[] 9)); refine step_append_any (by rfl) _ _ _ (by rfl) V.heap.size 9 i4 _ 1 16 Try.underlying28 hi4 hz40 hz41 hz42 rfl (by omega) _ 0 _ (by rfl) hownA _ 0 [] (by rfl) (.inl ⟨rfl, rfl, rfl⟩) hk90 hk160 hbA.size ?_; intro v6 w6 hown6 hgrow6; have hB6 : Below V.heap.size V w6 := grownB hownA hgrow6 (Nat.le_refl _) hbA; simp only [Nat.add_zero, List.append_nil] at hown6; have hN6c : ∀ j u, ([.string ⟨x.toArray⟩] : List Value)[j]? = some u → w6.cell? ((⟨V.heap.size, 0, none⟩ : Addr).add j) = some u := news_far_sl hgrow6 (news_c V (.cells #[] 9) [.string ⟨x.toArray⟩] 9) (by simp; omega) (by omega))))
  all_goals exact HQ.out _ _ _ _ _ _ _ _ _ _ _ _ _ _ (by have h := hown8; simpa using h) hB8

end Go.Proofs.Ytblbbhenmhkknaa

namespace Go.Proofs.Ytblbbhenmhkknaa
open Go.RowKit Go.Sort

/-- A slice of strings in memory: nil, or some. -/
structure SlS (w : World) (A : Option Addr) (cap : Nat) (os : List (List UInt8)) : Prop where
  rd : Rd1 encStr w w.heap.size A os
  nil : os = [] → A = none ∧ cap = 0
  fit : os.length ≤ cap
  top : cap ≤ maxLen
theorem SlS.below {w w' : World} {A : Option Addr} {cap : Nat} {os : List (List UInt8)} (h : SlS w A cap os) (hb : Below w.heap.size w w') : SlS w' A cap os :=
  ⟨(h.rd.below hb (Nat.le_refl _)).more hb.size, h.nil, h.fit, h.top⟩
theorem SlS.drew {w : World} {A : Option Addr} {cap : Nat} {os : List (List UInt8)} (h : SlS w A cap os) : SlS w.drew A cap os := ⟨h.rd.keep (fun _ _ => rfl), h.nil, h.fit, h.top⟩
theorem slS_own {w : World} {base : Nat} {v : Value} {os : List (List UInt8)} (h : w.ownsRow base 9 1 v os.length (os.map encStr)) (h0 : 0 < os.length) : ∃ A cap, v = .slice A os.length cap ∧ SlS w A cap os := by
  have hh := h.2
  obtain ⟨A, cap, e, hrd, _⟩ := own_rd1 h
  refine ⟨A, cap, e, hrd, fun e => by rw [e] at h0; simp at h0, ?_, ?_⟩
  · rcases hh with ⟨_, h1⟩ | ⟨g, cap2, cur, hv, hg, hh, hc, hcm, _⟩
    · omega
    · rw [e] at hv
      injection hv with _ _ hv
      omega
  · rcases hh with ⟨_, h1⟩ | ⟨g, cap2, cur, hv, hg, hh, hc, hcm, _⟩
    · omega
    · rw [e] at hv
      injection hv with _ _ hv
      omega

def InsPost (os : List (List UInt8)) (x : List UInt8) (w : World) (e : Ending) (w' : World) : Prop :=
  ∃ os' A' cap', e = .returned (.slice A' os'.length cap') ∧ SlS w' A' cap' os' ∧ os'.Pairwise (· < ·) ∧ (∀ y, y ∈ os' ↔ y ∈ os ∨ y = x) ∧ Below w.heap.size w w'

theorem ins_sorted {os : List (List UInt8)} {x : List UInt8} {k : Nat} (hs : os.Pairwise (· < ·)) (h1 : ∀ y ∈ os.take k, y < x) (h2 : ∀ y ∈ os.drop k, x < y) : (os.take k ++ [x] ++ os.drop k).Pairwise (· < ·) ∧ ∀ y, y ∈ os.take k ++ [x] ++ os.drop k ↔ y ∈ os ∨ y = x := by
  have hs' := hs
  rw [← List.take_append_drop k os, List.pairwise_append] at hs'
  obtain ⟨a, b, c⟩ := hs'
  refine ⟨?_, fun y => ?_⟩
  · rw [List.append_assoc, List.pairwise_append]
    refine ⟨a, ?_, fun y hy z hz => ?_⟩
    · rw [List.singleton_append, List.pairwise_cons]
      exact ⟨h2, b⟩
    · rcases List.mem_append.1 hz with hz | hz
      · rw [List.mem_singleton] at hz; subst hz; exact h1 y hy
      · exact c y hy z hz
  · have hm : y ∈ os ↔ y ∈ os.take k ∨ y ∈ os.drop k := by rw [← List.mem_append, List.take_append_drop]
    rw [hm]
    simp only [List.mem_append, List.mem_singleton]
    constructor
    · rintro ((h | h) | h)
      · exact .inl (.inl h)
      · exact .inr h
      · exact .inl (.inr h)
    · rintro ((h | h) | h)
      · exact .inl (.inl h)
      · exact .inr h
      · exact .inl (.inr h)

set_option maxRecDepth 1000000 in
set_option maxHeartbeats 4000000 in
theorem inserted_nil (x : List UInt8) (w : World) : Calls Try.prog 63 #[.slice none 0 0, .string ⟨x.toArray⟩] w (InsPost [] x w) := by
  have hfin : ∀ v wx, wx.ownsRow w.heap.size 9 1 v 1 ([x].map encStr) → Below w.heap.size w wx → InsPost [] x w (.returned v) wx := fun v wx h hb => by
    obtain ⟨A, cap, rfl, hsl⟩ := slS_own (os := [x]) h (by simp)
    exact ⟨[x], A, cap, rfl, hsl, by simp, by simp, hb⟩
  have HFIN := Lib.hid hfin
  clear hfin
  go_enter Try.func63, Try.ntmps63
  go_wp2
  go_loop [5] (fun i => i = .int .i64 0) (fun _ => 0)
  case atStart => rfl
  case round =>
    subst hrel
    go_upto_region 6 with fail
    refine ins_reg_nil x ?_
    intro u33 u34 u35 u36 u37 u38 u39 u40 u41 u42 u43 u44 u4 wx hown hb
    have HP := Lib.hid (HFIN.out _ _ hown hb)
    clear hown hb
    go_wp2
    go_ret
    exact HP.out

set_option maxRecDepth 1000000 in
set_option maxHeartbeats 4000000 in
theorem inserted_some (os : List (List UInt8)) (x : List UInt8) (B b off cap : Nat) (w : World) (h0 : 0 < os.length) (hn9 : os.length ≤ 256) (hc : os.length ≤ cap) (hcm : cap ≤ maxLen) (hs : os.Pairwise (· < ·)) (hR : Rd1 encStr w B (some ⟨b, off, none⟩) os) (hB : B ≤ w.heap.size) :
    Calls Try.prog 63 #[.slice (some ⟨b, off, none⟩) os.length cap, .string ⟨x.toArray⟩] w (InsPost os x w) := by
  have hput : ∀ k, k ≤ os.length → (∀ y ∈ os.take k, y < x) → (∀ y ∈ os.drop k, x < y) → ∀ v wx, wx.ownsRow w.heap.size 9 1 v (os.length + 1) ((os.take k ++ [x] ++ os.drop k).map encStr) → Below w.heap.size w wx → InsPost os x w (.returned v) wx := fun k hk h1 h2 v wx h hb => by
    have hl : (os.take k ++ [x] ++ os.drop k).length = os.length + 1 := by simp; omega
    rw [← hl] at h
    obtain ⟨A, cap, rfl, hsl⟩ := slS_own h (by omega)
    obtain ⟨s1, s2⟩ := ins_sorted hs h1 h2
    exact ⟨_, A, cap, rfl, hsl, s1, s2, hb⟩
  have hget : ∀ k y, os[k]? = some y → (∀ z ∈ os.take k, z < y) ∧ (∀ z ∈ os.drop (k + 1), y < z) ∧ os.drop k = y :: os.drop (k + 1) ∧ os.take (k + 1) = os.take k ++ [y] := fun k y hy => by
    have e : os.drop k = y :: os.drop (k + 1) := by
      obtain ⟨hk, rfl⟩ := List.getElem?_eq_some_iff.1 hy
      exact List.drop_eq_getElem_cons hk
    have e2 : os.take (k + 1) = os.take k ++ [y] := by rw [List.take_add_one, hy]; rfl
    have hs' := hs
    rw [← List.take_append_drop k os, e, List.pairwise_append] at hs'
    exact ⟨fun z hz => hs'.2.2 z hz y (by simp), (List.pairwise_cons.1 hs'.2.1).1, e, e2⟩
  have HPUT := Lib.hid hput
  have HGET := Lib.hid hget
  have HR := Lib.hid hR
  have HS := Lib.hid hs
  clear hput hget hR hs
  go_enter Try.func63, Try.ntmps63
  go_wp2
  go_loop [5] (fun i => ∃ k : Nat, k ≤ os.length ∧ i = .int .i64 k ∧ Hid (∀ y ∈ os.take k, y < x)) (fun i => os.length - (intOf i).toNat)
  case atStart => exact ⟨0, Nat.zero_le _, rfl, Lib.hid (by simp)⟩
  case round =>
    obtain ⟨k, hk, rfl, HLT⟩ := hrel
    by_cases hlt : k < os.length
    · obtain ⟨y, hy⟩ : ∃ y, os[k]? = some y := ⟨_, List.getElem?_eq_getElem hlt⟩
      obtain ⟨b', off', ee, _, d⟩ := HR.out k y hy
      injection ee with ee
      injection ee with ee1 ee2
      subst ee1 ee2
      have d : w.cell? ⟨b, off + k, none⟩ = some (.string ⟨y.toArray⟩) := d
      obtain ⟨g1, g2, g3, g4⟩ := HGET.out k y hy
      have hkz : (k : Int) < (os.length : Int) := by omega
      have hk0 : (0 : Int) ≤ (k : Int) := by omega
      by_cases hyx : y < x
      · have hb1 : Op.bytesLess y x = true := by rw [bytesLess_eq]; simpa using hyx
        have HLT2 : Hid (∀ z ∈ os.take (k + 1), z < x) := Lib.hid (fun z hz => by
          rw [g4] at hz
          rcases List.mem_append.1 hz with hz | hz
          · exact HLT.out z hz
          · rw [List.mem_singleton] at hz; subst hz; exact hyx)
        clear g1 g2 g3 g4 hy hyx
        go_wp2
        go_round
        case rel => exact ⟨k + 1, by omega, by go_num, HLT2⟩
        case measure => simp [intOf]; omega
      · have hb1 : Op.bytesLess y x = false := by rw [bytesLess_eq]; simpa using hyx
        by_cases hexy : y = x
        · have hb2 : (y == x) = true := by simpa using hexy
          have hmem : x ∈ os := by rw [← hexy]; exact List.mem_of_getElem? hy
          have HPOST : Hid (InsPost os x w (.returned (.slice (some ⟨b, off, none⟩) os.length cap)) w) := Lib.hid ⟨os, some ⟨b, off, none⟩, cap, rfl, ⟨HR.out.more hB, fun h => by rw [h] at h0; simp at h0, hc, hcm⟩, HS.out, fun z => ⟨fun h => .inl h, fun h => h.elim id (fun h => by rw [h]; exact hmem)⟩, belowR _⟩
          clear g1 g2 g3 g4 hy hyx hexy hmem
          go_wp2
          go_ret
          exact HPOST.out
        · have hb2 : (y == x) = false := by simpa using hexy
          have hxy : x < y := by
            rcases Decidable.em (x < y) with h | h
            · exact h
            · exact absurd (List.le_antisymm (List.not_lt.1 h) (List.not_lt.1 hyx)) hexy
          have HGT : Hid (∀ z ∈ os.drop k, x < z) := Lib.hid (fun z hz => by
            rw [g3] at hz
            rcases List.mem_cons.1 hz with hz | hz
            · subst hz; exact hxy
            · exact List.lt_trans hxy (g2 z hz))
          clear g1 g2 g3 g4 hy hyx hexy hxy
          go_upto_region 6 with fail
          refine ins_reg_mid os x hk rfl hn9 hc (by omega) HR.out hB ?_
          intro u33 u34 u35 u36 u37 u38 u39 u40 u41 u42 u43 u44 u4 wx hown hb
          have HP := Lib.hid (HPUT.out k hk HLT.out HGT.out _ _ hown hb)
          clear hown hb
          go_wp2
          go_ret
          exact HP.out
    · obtain rfl : k = os.length := by omega
      have HGT : Hid (∀ z ∈ os.drop os.length, x < z) := Lib.hid (by simp)
      by_cases hcl : os.length < cap
      · go_upto_region 6 with fail
        refine ins_reg_mid os x hk rfl hn9 hc hcl HR.out hB ?_
        intro u33 u34 u35 u36 u37 u38 u39 u40 u41 u42 u43 u44 u4 wx hown hb
        have HP := Lib.hid (HPUT.out os.length hk HLT.out HGT.out _ _ hown hb)
        clear hown hb
        go_wp2
        go_ret
        exact HP.out
      · have hce : os.length = cap := by omega
        go_upto_region 6 with fail
        refine ins_reg_end os x hk rfl hn9 rfl hce HR.out hB ?_
        intro u33 u34 u35 u36 u37 u38 u39 u40 u41 u42 u43 u44 u4 wx hown hb
        have HP := Lib.hid (HPUT.out os.length hk HLT.out HGT.out _ _ hown hb)
        clear hown hb
        go_wp2
        go_ret
        exact HP.out
end Go.Proofs.Ytblbbhenmhkknaa
