/- ClaimOwners: the law's function. -/
import Derived.Test.YtblbbhenmhkknaaYL5
import Derived.Test.YtblbbhenmhkknaaZf38386
namespace Go.Proofs.Ytblbbhenmhkknaa
open Go.RowKit Go.Sort
set_option maxRecDepth 1000000 in
set_option maxHeartbeats 8000000 in
theorem ownersLaw_no (first : ByteArray) (A : Option Addr) (ps : List Pap) (B cap : Nat) (forged day : Int) (name : ByteArray) (w : World) (hf : first.size ≤ maxLen) (hm : ps.length ≤ cap) (hcm : cap ≤ maxLen) (hok : PapsOk ps) (hR : RdN 3 encPap w B A ps) (hB : B ≤ w.heap.size) (hE : openE first ps forged day ≠ 0) :
    Calls Try.prog 3 #[.agg #[.string first, .slice A ps.length cap, .int .i64 forged], .int .i64 day, .string name] w fun e w' => e = .returned (.bool true) ∧ Below w.heap.size w w' := by
  obtain ⟨W1, hW1⟩ : ∃ W1, w.alloc (.cells #[.string first, .slice A ps.length cap, .int .i64 forged] 24) = W1 := ⟨_, rfl⟩
  have hb0 : Below w.heap.size w W1 := by rw [← hW1]; exact belowA (belowR _) _
  have p0 : W1.cell? ⟨w.heap.size, 0, none⟩ = some (.string first) := by rw [← hW1]; clear hW1; go_simp
  have p1 : W1.cell? ⟨w.heap.size, 1, none⟩ = some (.slice A ps.length cap) := by rw [← hW1]; clear hW1; go_simp
  have p2 : W1.cell? ⟨w.heap.size, 2, none⟩ = some (.int .i64 forged) := by rw [← hW1]; clear hW1; go_simp
  have HB0 := Lib.hid hb0
  have hz1 := hb0.size
  have hm' := Nat.le_trans hm hcm
  have h1 := fun W (hR : RdN 3 encPap W B A ps) (hB : B ≤ W.heap.size) => checkShip_any first A ps B cap forged W hf hm' hok hR hB
  have h2 := fun W (hR : RdN 3 encPap W B A ps) (hB : B ≤ W.heap.size) => refCheckShip_any first A ps B cap forged W hf hm' hok hR hB
  obtain ⟨X, Y, Z, hXY⟩ : ∃ x y z, shipE first ps forged = (x, y, z) := ⟨_, _, _, rfl⟩
  have h3 := fun W (hR : RdN 3 encPap W B A ps) (hB : B ≤ W.heap.size) => owners_no first A ps B cap forged day W hf hm' hok hR hB hE
  have h4 := fun W (hR : RdN 3 encPap W B A ps) (hB : B ≤ W.heap.size) => refOwners_no first A ps B cap forged day W hf hm' hok hR hB hE
  have h5 := fun W (hR : RdN 3 encPap W B A ps) (hB : B ≤ W.heap.size) => forged_no first A ps B cap forged day name W hf hm' hok hR hB hE
  have h6 := fun W (hR : RdN 3 encPap W B A ps) (hB : B ≤ W.heap.size) => refForged_no first A ps B cap forged day name W hf hm' hok hR hB hE
  obtain ⟨E, hEE⟩ : ∃ E, openE first ps forged day = E := ⟨_, rfl⟩
  rw [hXY] at h1 h2
  unfold ret3 at h1 h2
  simp only at h1 h2
  rw [hEE] at h3 h4 h5 h6
  have H1 := Lib.hid h1
  have H2 := Lib.hid h2
  have H3 := Lib.hid h3
  have H4 := Lib.hid h4
  have H5 := Lib.hid h5
  have H6 := Lib.hid h6
  have HR1 := Lib.hid (hR.below hb0 hB)
  clear h1 h2 h3 h4 h5 h6 hE hEE hXY hR hb0 hm hcm hm' hf hok
  go_enter Try.func3, Try.ntmps3
  go_wp2_with fail
  refine (H1.out _ HR1.out (by omega)).mono ?_
  rintro e w1 ⟨rfl, hb1⟩
  have p0 := keepC hb1 p0
  have p1 := keepC hb1 p1
  have p2 := keepC hb1 p2
  have HR2 := Lib.hid (HR1.out.below hb1 (by omega))
  have HB1 := Lib.hid (belowT HB0.out hb1)
  have hz2 := hb1.size
  clear hb1 hW1 HR1
  go_wp2_with fail
  refine (H2.out _ HR2.out (by omega)).mono ?_
  rintro e w2 ⟨rfl, hb2⟩
  have p0 := keepC hb2 p0
  have p1 := keepC hb2 p1
  have p2 := keepC hb2 p2
  have HR3 := Lib.hid (HR2.out.below hb2 (by omega))
  have HB2 := Lib.hid (belowT HB1.out hb2)
  have hz3 := hb2.size
  clear hb2 HR2
  go_wp2_with fail
  refine (H3.out _ HR3.out (by omega)).mono ?_
  rintro e w3 ⟨rfl, hb3⟩
  have p0 := keepC hb3 p0
  have p1 := keepC hb3 p1
  have p2 := keepC hb3 p2
  have HR4 := Lib.hid (HR3.out.below hb3 (by omega))
  have HB3 := Lib.hid (belowT HB2.out hb3)
  have hz4 := hb3.size
  clear hb3 HR3
  go_wp2_with fail
  refine (H4.out _ HR4.out (by omega)).mono ?_
  rintro e w4 ⟨rfl, hb4⟩
  have p0 := keepC hb4 p0
  have p1 := keepC hb4 p1
  have p2 := keepC hb4 p2
  have HR5 := Lib.hid (HR4.out.below hb4 (by omega))
  have HB4 := Lib.hid (belowT HB3.out hb4)
  have hz5 := hb4.size
  clear hb4 HR4
  go_wp2_with fail
  refine (words_same none none [] w4.heap.size 0 0 w4 (by simp) Rd1.nil Rd1.nil (Nat.le_refl _)).mono ?_
  rintro e w5 ⟨rfl, hb5⟩
  have p0 := keepC hb5 p0
  have p1 := keepC hb5 p1
  have p2 := keepC hb5 p2
  have HR6 := Lib.hid (HR5.out.below hb5 (by omega))
  have HB5 := Lib.hid (belowT HB4.out hb5)
  have hz6 := hb5.size
  clear hb5 HR5
  go_wp2_with fail
  refine (H5.out _ HR6.out (by omega)).mono ?_
  rintro e w6 ⟨rfl, hb6⟩
  have p0 := keepC hb6 p0
  have p1 := keepC hb6 p1
  have p2 := keepC hb6 p2
  have HR7 := Lib.hid (HR6.out.below hb6 (by omega))
  have HB6 := Lib.hid (belowT HB5.out hb6)
  have hz7 := hb6.size
  clear hb6 HR6
  go_wp2_with fail
  refine (H6.out _ HR7.out (by omega)).mono ?_
  rintro e w7 ⟨rfl, hb7⟩
  have p0 := keepC hb7 p0
  have p1 := keepC hb7 p1
  have p2 := keepC hb7 p2
  have HR8 := Lib.hid (HR7.out.below hb7 (by omega))
  have HB7 := Lib.hid (belowT HB6.out hb7)
  have hz8 := hb7.size
  clear hb7 HR7
  go_wp2_with fail
  refine (ints_same none none [] w7.heap.size 0 0 w7 (by simp) Rd1.nil Rd1.nil (Nat.le_refl _)).mono ?_
  rintro e w8 ⟨rfl, hb8⟩
  have HB8 := Lib.hid (belowT HB7.out hb8)
  clear hb8 HR8 p0 p1 p2
  go_wp2_with fail
  refine (awake_any _).mono ?_
  rintro e w9 ⟨rfl, hb9⟩
  go_wp2
  go_ret
  exact ⟨rfl, belowT HB8.out hb9⟩

set_option maxRecDepth 1000000 in
set_option maxHeartbeats 8000000 in
theorem ownersLaw_yes (first : ByteArray) (A : Option Addr) (ps : List Pap) (B cap : Nat) (forged day : Int) (name : ByteArray) (w : World) (hf : first.size ≤ maxLen) (hm : ps.length ≤ cap) (hcm : cap ≤ maxLen) (hok : PapsOk ps) (hR : RdN 3 encPap w B A ps) (hB : B ≤ w.heap.size) (hE : openE first ps forged day = 0) :
    Calls Try.prog 3 #[.agg #[.string first, .slice A ps.length cap, .int .i64 forged], .int .i64 day, .string name] w fun e w' => e = .returned (.bool true) ∧ Below w.heap.size w w' := by
  have hE1 : shipErr first ps forged = 0 := by
    rcases Decidable.em (shipErr first ps forged = 0) with h | h
    · exact h
    · unfold openE at hE; rw [if_neg h] at hE; exact absurd hE h
  have hship := shipErr_ok hE1
  have hn8 := hship.len
  have hdays := hship.days
  obtain ⟨hf0, hf8'⟩ := inB_t hship.forged
  obtain ⟨f, rfl⟩ : ∃ f : Nat, forged = f := ⟨forged.toNat, by omega⟩
  have hf8 : f ≤ 8 := by omega
  obtain ⟨W1, hW1⟩ : ∃ W1, w.alloc (.cells #[.string first, .slice A ps.length cap, .int .i64 f] 24) = W1 := ⟨_, rfl⟩
  have hb0 : Below w.heap.size w W1 := by rw [← hW1]; exact belowA (belowR _) _
  have p0 : W1.cell? ⟨w.heap.size, 0, none⟩ = some (.string first) := by rw [← hW1]; clear hW1; go_simp
  have p1 : W1.cell? ⟨w.heap.size, 1, none⟩ = some (.slice A ps.length cap) := by rw [← hW1]; clear hW1; go_simp
  have p2 : W1.cell? ⟨w.heap.size, 2, none⟩ = some (.int .i64 f) := by rw [← hW1]; clear hW1; go_simp
  have HB0 := Lib.hid hb0
  have hz1 := hb0.size
  have hm' := Nat.le_trans hm hcm
  have h1 := fun W (hR : RdN 3 encPap W B A ps) (hB : B ≤ W.heap.size) => checkShip_any first A ps B cap f W hf hm' hok hR hB
  have h2 := fun W (hR : RdN 3 encPap W B A ps) (hB : B ≤ W.heap.size) => refCheckShip_any first A ps B cap f W hf hm' hok hR hB
  obtain ⟨X, Y, Z, hXY⟩ : ∃ x y z, shipE first ps f = (x, y, z) := ⟨_, _, _, rfl⟩
  have h3 := fun W (hR : RdN 3 encPap W B A ps) (hB : B ≤ W.heap.size) => owners_yes first A ps B cap f day W hf hm' hok hR hB hE hf8 hn8
  have h4 := fun W (hR : RdN 3 encPap W B A ps) (hB : B ≤ W.heap.size) => refOwners_yes first A ps B cap f day W hf hm' hok hdays hR hB hE hn8
  have h5 := fun W (hR : RdN 3 encPap W B A ps) (hB : B ≤ W.heap.size) => forged_yes first A ps B cap f day name W hf hm' hok hR hB hE hf8 hn8
  have h6 := fun W (hR : RdN 3 encPap W B A ps) (hB : B ≤ W.heap.size) => refForged_yes first A ps B cap f day name W hf hm' hok hdays hR hB hE hn8
  have hset : ∀ o s, forgedF first ps o f name = some s → s.length ≤ 8 := fun o s h => Nat.le_trans (asc_len8 (forgedF_some h).1) hn8
  unfold OwnersPost at h3 h4
  unfold ForgedPost at h5 h6
  rw [hXY] at h1 h2
  unfold ret3 at h1 h2
  simp only at h1 h2
  have HSET := Lib.hid hset
  have H1 := Lib.hid h1
  have H2 := Lib.hid h2
  have H3 := Lib.hid h3
  have H4 := Lib.hid h4
  have H5 := Lib.hid h5
  have H6 := Lib.hid h6
  have HR1 := Lib.hid (hR.below hb0 hB)
  clear h1 h2 h3 h4 h5 h6 hE hE1 hXY hR hb0 hm hcm hm' hf hok hship hdays hf0 hf8' hset
  go_enter Try.func3, Try.ntmps3
  go_wp2_with fail
  refine (H1.out _ HR1.out (by omega)).mono ?_
  rintro e w1 ⟨rfl, hb1⟩
  have p0 := keepC hb1 p0
  have p1 := keepC hb1 p1
  have p2 := keepC hb1 p2
  have HR2 := Lib.hid (HR1.out.below hb1 (by omega))
  have HB1 := Lib.hid (belowT HB0.out hb1)
  have hz2 := hb1.size
  clear hb1 hW1 HR1
  go_wp2_with fail
  refine (H2.out _ HR2.out (by omega)).mono ?_
  rintro e w2 ⟨rfl, hb2⟩
  have p0 := keepC hb2 p0
  have p1 := keepC hb2 p1
  have p2 := keepC hb2 p2
  have HR3 := Lib.hid (HR2.out.below hb2 (by omega))
  have HB2 := Lib.hid (belowT HB1.out hb2)
  have hz3 := hb2.size
  clear hb2 HR2
  go_wp2_with fail
  refine (H3.out _ HR3.out (by omega)).mono ?_
  rintro e w3 ⟨hb3, o, os, A3, cap3, ho3, rfl, hrd3, hs3, hx3, _⟩
  have p0 := keepC hb3 p0
  have p1 := keepC hb3 p1
  have p2 := keepC hb3 p2
  have HR4 := Lib.hid (HR3.out.below hb3 (by omega))
  have HB3 := Lib.hid (belowT HB2.out hb3)
  have hz4 := hb3.size
  have HX3 := Lib.hid (And.intro ho3 (And.intro hrd3 (And.intro hs3 hx3)))
  clear hb3 HR3 ho3 hrd3 hs3 hx3
  go_wp2_with fail
  refine (H4.out _ HR4.out (by omega)).mono ?_
  rintro e w4 ⟨hb4, o4, os4, A4, cap4, ho4, rfl, hrd4, hs4, hx4, _⟩
  have p0 := keepC hb4 p0
  have p1 := keepC hb4 p1
  have p2 := keepC hb4 p2
  have HR5 := Lib.hid (HR4.out.below hb4 (by omega))
  have HB4 := Lib.hid (belowT HB3.out hb4)
  have hz5 := hb4.size
  obtain rfl := ho4.unique HX3.out.1
  obtain rfl : os4 = os := sorted_unique hs4 HX3.out.2.2.1 fun x => (hx4 x).trans (HX3.out.2.2.2 x).symm
  have hfew := owners_fewA hs4 hx4
  have hws := words_same A3 A4 (os4.map sb) w4.heap.size cap3 cap4 w4 (by rw [List.length_map]; omega) (((HX3.out.2.1.below hb4 (Nat.le_refl _)).more hb4.size).map_ sb (fun _ => rfl)) (hrd4.map_ sb (fun _ => rfl)) (Nat.le_refl _)
  rw [List.length_map] at hws
  have HWS := Lib.hid hws
  have HO := Lib.hid ho4
  clear hb4 HR4 ho4 hrd4 hs4 hx4 HX3 hws hfew
  go_wp2_with fail
  refine HWS.out.mono ?_
  rintro e w5 ⟨rfl, hb5⟩
  have p0 := keepC hb5 p0
  have p1 := keepC hb5 p1
  have p2 := keepC hb5 p2
  have HR6 := Lib.hid (HR5.out.below hb5 (by omega))
  have HB5 := Lib.hid (belowT HB4.out hb5)
  have hz6 := hb5.size
  clear hb5 HR5 HWS
  go_wp2_with fail
  refine (H5.out _ HR6.out (by omega)).mono ?_
  rintro e w6 ⟨hb6, o6, ho6, hc6⟩
  have p0 := keepC hb6 p0
  have p1 := keepC hb6 p1
  have p2 := keepC hb6 p2
  have HR7 := Lib.hid (HR6.out.below hb6 (by omega))
  have HB6 := Lib.hid (belowT HB5.out hb6)
  have hz7 := hb6.size
  obtain rfl := ho6.unique HO.out
  have h6 := H6.out
  clear hb6 HR6
  rcases hc6 with ⟨hn6, rfl⟩ | ⟨s6, A6, cap6, hn6, rfl, hrd6⟩
  · have HN6 := Lib.hid hn6
    clear hn6 h6
    go_wp2_with fail
    refine (H6.out _ HR7.out (by omega)).mono ?_
    rintro e w7 ⟨hb7, o7, ho7, hc7⟩
    obtain rfl := ho7.unique HO.out
    rcases hc7 with ⟨hn7, rfl⟩ | ⟨s7, A7, cap7, hn7, _, _⟩
    · have HB7 := Lib.hid (belowT HB6.out hb7)
      clear hb7 hn7 ho7 p0 p1 p2
      go_wp2_with fail
      refine (ints_same none none [] w7.heap.size 0 0 w7 (by simp) Rd1.nil Rd1.nil (Nat.le_refl _)).mono ?_
      rintro e w8 ⟨rfl, hb8⟩
      have HB8 := Lib.hid (belowT HB7.out hb8)
      clear hb8
      go_wp2_with fail
      refine (awake_any _).mono ?_
      rintro e w9 ⟨rfl, hb9⟩
      go_wp2
      go_ret
      exact ⟨rfl, belowT HB8.out hb9⟩
    · rw [HN6.out] at hn7; simp at hn7
  · have HN6 := Lib.hid hn6
    have HRD6 := Lib.hid hrd6
    clear hn6 hrd6 h6
    go_wp2_with fail
    refine (H6.out _ HR7.out (by omega)).mono ?_
    rintro e w7 ⟨hb7, o7, ho7, hc7⟩
    obtain rfl := ho7.unique HO.out
    rcases hc7 with ⟨hn7, _⟩ | ⟨s7, A7, cap7, hn7, rfl, hrd7⟩
    · rw [HN6.out] at hn7; simp at hn7
    · have hs7 : s7 = s6 := by rw [HN6.out] at hn7; exact (Option.some.inj hn7).symm
      subst hs7
      have hle := HSET.out _ _ hn7
      have his := ints_same A6 A7 (s7.map fun n : Nat => (n : Int)) w7.heap.size cap6 cap7 w7 (by rw [List.length_map]; omega) (((HRD6.out.below hb7 (Nat.le_refl _)).more hb7.size).map_ (fun n : Nat => (n : Int)) (fun _ => rfl)) (hrd7.map_ (fun n : Nat => (n : Int)) (fun _ => rfl)) (Nat.le_refl _)
      rw [List.length_map] at his
      have HIS := Lib.hid his
      have HB7 := Lib.hid (belowT HB6.out hb7)
      clear hb7 hn7 ho7 p0 p1 p2 hrd7 his
      go_wp2_with fail
      refine HIS.out.mono ?_
      rintro e w8 ⟨rfl, hb8⟩
      have HB8 := Lib.hid (belowT HB7.out hb8)
      clear hb8
      go_wp2_with fail
      refine (awake_any _).mono ?_
      rintro e w9 ⟨rfl, hb9⟩
      go_wp2
      go_ret
      exact ⟨rfl, belowT HB8.out hb9⟩

theorem ownersLaw_any (first : ByteArray) (A : Option Addr) (ps : List Pap) (B cap : Nat) (forged day : Int) (name : ByteArray) (w : World) (hf : first.size ≤ maxLen) (hm : ps.length ≤ cap) (hcm : cap ≤ maxLen) (hok : PapsOk ps) (hR : RdN 3 encPap w B A ps) (hB : B ≤ w.heap.size) :
    Calls Try.prog 3 #[.agg #[.string first, .slice A ps.length cap, .int .i64 forged], .int .i64 day, .string name] w fun e w' => e = .returned (.bool true) ∧ Below w.heap.size w w' := by
  by_cases hE : openE first ps forged day = 0
  · exact ownersLaw_yes first A ps B cap forged day name w hf hm hcm hok hR hB hE
  · exact ownersLaw_no first A ps B cap forged day name w hf hm hcm hok hR hB hE
end Go.Proofs.Ytblbbhenmhkknaa
