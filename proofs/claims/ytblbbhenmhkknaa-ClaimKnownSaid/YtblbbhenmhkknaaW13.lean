/- claim.sets and claim.Forged. -/
import Derived.Test.YtblbbhenmhkknaaRf
namespace Go.Proofs.Ytblbbhenmhkknaa
open Go.RowKit Go.Shelf
attribute [local go_sem] Oper.semAt_some

set_option maxRecDepth 100000 in
set_option maxHeartbeats 1000000 in
theorem sets_any (first : ByteArray) (A A' : Option Addr) (n cap k capO : Nat) (forged : Int) (w : World) :
    Calls Try.prog 59 #[.agg #[.string first, .slice A n cap, .int .i64 forged, .slice A' k capO]] w fun e w' =>
      e = .returned (.func (.func 95) #[] #[.pointer (some ⟨w.heap.size, 0, none⟩)]) ∧ w' = w.alloc (.cells #[.string first, .slice A n cap, .int .i64 forged, .slice A' k capO] 96) := by
  go_enter Try.func59, Try.ntmps59
  go_wp2
  go_ret
  exact ⟨rfl, rfl⟩

/-- What Forged answers where the ship opens: a set, or none. -/
def forgedF (first : ByteArray) (ps : List Pap) (o : List Nat) (f : Nat) (name : ByteArray) : Option (List Nat) :=
  (setsTo ps.length (min f ps.length + 1)).find? fun s => (ownerL first ps o s).toList == name.toList

def ForgedPost (first : ByteArray) (ps : List Pap) (f : Nat) (day : Int) (name : ByteArray) (w : World) (e : Ending) (w' : World) : Prop :=
  Below w.heap.size w w' ∧ ∃ o, IsOrder ps day o ∧
    ((forgedF first ps o f name = none ∧ e = .returned (.tuple #[.slice none 0 0, iv 4])) ∨
     (∃ s A cap, forgedF first ps o f name = some s ∧ e = .returned (.tuple #[.slice A s.length cap, iv 0]) ∧ Rd1 nv w' w'.heap.size A s))

set_option maxRecDepth 100000 in
set_option maxHeartbeats 2000000 in
theorem forged_no (first : ByteArray) (A : Option Addr) (ps : List Pap) (B cap : Nat) (forged day : Int) (name : ByteArray) (w : World) (hf : first.size ≤ maxLen) (hm : ps.length ≤ maxLen) (hok : PapsOk ps) (hR : RdN 3 encPap w B A ps) (hB : B ≤ w.heap.size)
    (hE : openE first ps forged day ≠ 0) :
    Calls Try.prog 22 #[.agg #[.string first, .slice A ps.length cap, .int .i64 forged], .int .i64 day, .string name] w fun e w' => e = .returned (.tuple #[.slice none 0 0, iv (openE first ps forged day)]) ∧ Below w.heap.size w w' := by
  obtain ⟨E, hEE⟩ : ∃ E, openE first ps forged day = E := ⟨_, rfl⟩
  have hop := fun w (hR : RdN 3 encPap w B A ps) (hB : B ≤ w.heap.size) => open_no first A ps B cap forged day w hf hm hok hR hB hE
  rw [hEE] at hE hop ⊢
  have hne : (E != 0) = true := by simpa using hE
  have HOP := Lib.hid hop
  clear hop hEE hE
  go_enter Try.func22, Try.ntmps22
  go_wp2_with fail
  refine (HOP.out _ (hR.below (B' := w.heap.size) (belowA (belowA (belowA (belowA (belowR _) _) _) _) _) hB) (by simp; omega)).mono ?_
  rintro e w1 ⟨rfl, hb⟩
  have hB1 := belowT (belowA (belowA (belowA (belowA (belowR _) _) _) _) _) hb
  have z1 : w.heap.size ≤ w1.heap.size := hB1.size
  have z1l : w.heap.size + 3 < w1.heap.size := (by have := hb.size; simp only [World.size_alloc] at this; omega)
  have q2 : w1.cell? ⟨w.heap.size + 1 + 1, 0, none⟩ = some (.slice none 0 0) := keepC hb (by go_simp)
  have q3 : w1.cell? ⟨w.heap.size + 1 + 1 + 1, 0, none⟩ = some (.int .i64 0) := keepC hb (by go_simp)
  have f2 : w1.frozen? ⟨w.heap.size + 1 + 1, 0, none⟩ = false := (hb.frozen (p := ⟨w.heap.size + 2, 0, none⟩) (by simp)).trans (by go_simp)
  have f3 : w1.frozen? ⟨w.heap.size + 1 + 1 + 1, 0, none⟩ = false := (hb.frozen (p := ⟨w.heap.size + 3, 0, none⟩) (by simp)).trans (by go_simp)
  have z2 : w.heap.size + 1 + 1 < w1.heap.size := by omega
  have z3 : w.heap.size + 1 + 1 + 1 < w1.heap.size := by omega
  have g2 := fun ob => (keepAF z2 0 ob).trans f2
  have g3 := fun ob => (keepAF z3 0 ob).trans f3
  have e2 : ∀ ob, (((w1.setCell ⟨w.heap.size + 1 + 1, 0, none⟩ (.slice none 0 0)).setCell ⟨w.heap.size + 1 + 1 + 1, 0, none⟩ (.int .i64 E)).alloc ob).cell? ⟨w.heap.size + 1 + 1, 0, none⟩ = some (.slice none 0 0) := fun ob => keepA (by go_simp) ob
  have e3 : ∀ ob, (((w1.setCell ⟨w.heap.size + 1 + 1, 0, none⟩ (.slice none 0 0)).setCell ⟨w.heap.size + 1 + 1 + 1, 0, none⟩ (.int .i64 E)).alloc ob).cell? ⟨w.heap.size + 1 + 1 + 1, 0, none⟩ = some (.int .i64 E) := fun ob => keepA (by go_simp) ob
  go_wp2
  exact bodyPost_ret (v := .tuple #[.slice none 0 0, iv E]) (by simp [results, Try.results22, go_sem, e2, e3]) rfl ⟨rfl, belowA (belowS (belowS hB1 (by simp; omega) _) (by simp; omega) _) _⟩

theorem clone_any (A : Option Addr) (s : List Nat) (B cap : Nat) (w : World) (hm : s.length ≤ 1000) (hR : Rd1 nv w B A s) :
    Calls Try.prog 64 #[.slice A s.length cap] w fun e w' => ∃ v', e = .returned v' ∧ w'.ownsRow w.heap.size 3 1 v' s.length (s.map nv) ∧ Below w.heap.size w w' := by
  rcases Nat.eq_zero_or_pos s.length with h0 | h0
  · have : s = [] := List.length_eq_zero_iff.1 h0
    subst this
    cases A with
    | none =>
      refine (Go.Proofs.Try.slices_Clone_int_nil 0 cap w).mono ?_
      rintro e w' ⟨rfl, rfl⟩
      exact ⟨_, rfl, World.ownsRow_nil _ _ _ _, Below.refl _ _⟩
    | some a =>
      refine (Go.Proofs.Try.slices_Clone_int_zero a cap w).mono ?_
      rintro e w' ⟨v', rfl, h1, _, h3⟩
      exact ⟨_, rfl, h1, h3⟩
  · obtain ⟨b, off, rfl, _, _⟩ := hR 0 _ (List.getElem?_eq_getElem h0)
    refine (Go.Proofs.Try.slices_Clone_int b off s.length cap (s.map fun (n : Nat) => (n : Int)) w (by simp) (by omega) ?_).mono ?_
    · intro j hj
      have hj' : j < s.length := by simpa using hj
      obtain ⟨b2, off2, e, _, hc⟩ := hR j _ (List.getElem?_eq_getElem hj')
      injection e with e
      injection e with e1 e2
      subst e1 e2
      rw [hc]
      simp [nv, List.getD, List.getElem?_map, List.getElem?_eq_getElem hj']
    · rintro e w' ⟨v', rfl, h1, _, h3⟩
      refine ⟨_, rfl, ?_, h3⟩
      have e : ((s.map fun (n : Nat) => (n : Int)).take s.length).map (Value.int .i64) = s.map nv := by
        rw [List.take_of_length_le (by simp), List.map_map]
        rfl
      rw [e] at h1
      exact h1

theorem cell_put {W : World} {k : Nat} {o : Obj} (ho : W.heap[k]? = some o) (hc : o.isCells = false) (o' : Obj) (p : Addr) (hc2 : o'.isCells = false := by rfl) : (W.putObj k o').cell? p = W.cell? p := by
  rcases Decidable.em (p.block = k) with e | hne
  · have h1 : (W.putObj k o').heap[p.block]? = some o' := by rw [e]; exact World.putObj_heap_same (Array.getElem?_eq_some_iff.1 ho).1
    have h2 : W.heap[p.block]? = some o := by rw [e]; exact ho
    simp only [World.cell?, h1, h2]
    cases o <;> cases o' <;> simp_all [Obj.isCells]
  · have e : (W.putObj k o').heap[p.block]? = W.heap[p.block]? := World.putObj_heap_other (by omega)
    simp only [World.cell?, e]
theorem undrew {W X : World} (h : Below W.drew.heap.size W.drew X) : Below W.heap.size W X := ⟨h.os, h.tape, h.output, h.size, h.block⟩
theorem KeepB.of_below {bw sb : Nat} {W X : World} (h : Below W.heap.size W X) : KeepB bw sb W X := ⟨h.size, fun k _ hk => h.block k hk⟩
theorem KeepB.set_ {bw sb : Nat} (W : World) (c : Nat) (u : Value) (h1 : c < bw) (h2 : c ≠ sb) : KeepB bw sb W (W.setCell ⟨c, 0, none⟩ u) :=
  ⟨by simp [World.setCell], fun k hk _ => Below.heap_setCell W ⟨c, 0, none⟩ u k (by simp; rcases hk with hk | rfl <;> omega)⟩
theorem ownsRow_base {w : World} {base base' : Nat} {e : TypeId} {size n : Nat} {v : Value} {xs : List Value} (h : w.ownsRow base e size v n xs) (hb : base' ≤ base) : w.ownsRow base' e size v n xs := by
  obtain ⟨h1, h2⟩ := h
  refine ⟨h1, h2.imp id ?_⟩
  rintro ⟨g, cap, cur, h3, h4, r⟩
  exact ⟨g, cap, cur, h3, by omega, r⟩
/-- The ways of the loop in Forged: not yet found. -/
def FgNo (first : ByteArray) (ps : List Pap) (o : List Nat) (name : ByteArray) (W0 : World) (pre : List (List Nat)) (W : World) : Prop :=
  Below W0.heap.size W0 W ∧ ∀ s ∈ pre, ((ownerL first ps o s).toList == name.toList) = false
/-- Found. -/
def FgYes (first : ByteArray) (ps : List Pap) (o : List Nat) (name : ByteArray) (h : Nat) (w W0 : World) (pre : List (List Nat)) (W : World) : Prop :=
  Below w.heap.size w W ∧ ∃ p s v, pre = p ++ [s] ∧ (∀ t ∈ p, ((ownerL first ps o t).toList == name.toList) = false) ∧ ((ownerL first ps o s).toList == name.toList) = true ∧
    W.cell? ⟨h + 1 + 1, 0, none⟩ = some v ∧ W.cell? ⟨h + 1 + 1 + 1, 0, none⟩ = some (.int .i64 0) ∧ W.ownsRow (W0.heap.size + 5) 3 1 v s.length (s.map nv) ∧ h + 4 ≤ W.heap.size

set_option maxRecDepth 100000 in
set_option maxHeartbeats 4000000 in
theorem forged_yes (first : ByteArray) (A : Option Addr) (ps : List Pap) (B cap : Nat) (f : Nat) (day : Int) (name : ByteArray) (w : World) (hf : first.size ≤ maxLen) (hm : ps.length ≤ maxLen) (hok : PapsOk ps) (hR : RdN 3 encPap w B A ps) (hB : B ≤ w.heap.size)
    (hE : openE first ps f day = 0) (hf8 : f ≤ 8) (hp8 : ps.length ≤ 8) :
    Calls Try.prog 22 #[.agg #[.string first, .slice A ps.length cap, .int .i64 f], .int .i64 day, .string name] w (ForgedPost first ps f day name w) := by
  have hop := fun w (hR : RdN 3 encPap w B A ps) (hB : B ≤ w.heap.size) => open_yes first A ps B cap f day w hf hm hok hR hB hE
  have HOP := Lib.hid hop
  clear hop hE
  refine (callsIn_wide (n := 0)).1 ?_
  refine callsIn_of_wp_marks Try.func22 rfl trivial ?_ rfl
  simp only [Try.ntmps22, List.size_toArray, List.length_cons, List.length_nil, Nat.reduceAdd, Nat.reduceSub, Array.replicate_succ, Array.replicate_zero, List.push_toArray, List.append_toArray, List.nil_append, List.cons_append]
  gi_wp2_with fail
  refine ⟨trivial, rfl, (callsIn_wide.2 (HOP.out _ (hR.below (B' := w.heap.size) (belowA (belowA (belowA (belowA (belowR _) _) _) _) _) hB) (by simp; omega))).mono ?_⟩
  rintro e w1 ⟨A', capO, o, hord, rfl, hO, hb⟩
  have hB1 := belowT (belowA (belowA (belowA (belowA (belowR _) _) _) _) _) hb
  have z1 : w.heap.size ≤ w1.heap.size := hB1.size
  have z1l : w.heap.size + 3 < w1.heap.size := (by have := hb.size; simp only [World.size_alloc] at this; omega)
  have q1 : w1.cell? ⟨w.heap.size + 1, 0, none⟩ = some (.string name) := keepC hb (by go_simp)
  have q2 : w1.cell? ⟨w.heap.size + 1 + 1, 0, none⟩ = some (.slice none 0 0) := keepC hb (by go_simp)
  have q3 : w1.cell? ⟨w.heap.size + 1 + 1 + 1, 0, none⟩ = some (.int .i64 0) := keepC hb (by go_simp)
  have f2 : w1.frozen? ⟨w.heap.size + 1 + 1, 0, none⟩ = false := (hb.frozen (p := ⟨w.heap.size + 2, 0, none⟩) (by simp)).trans (by go_simp)
  have f3 : w1.frozen? ⟨w.heap.size + 1 + 1 + 1, 0, none⟩ = false := (hb.frozen (p := ⟨w.heap.size + 3, 0, none⟩) (by simp)).trans (by go_simp)
  have z2 : w.heap.size + 1 + 1 < w1.heap.size := by omega
  have z3 : w.heap.size + 1 + 1 + 1 < w1.heap.size := by omega
  have HORD := Lib.hid hord
  have HB1 := Lib.hid hB1
  have HO := Lib.hid hO
  clear hord hB1 hO hb HOP
  gi_wp2_with fail
  refine ⟨trivial, rfl, (callsIn_wide.2 (sets_any first A A' ps.length cap o.length capO f _)).mono ?_⟩
  rintro e w2 ⟨rfl, rfl⟩
  obtain ⟨W0, hW0⟩ : ∃ W0, (w1.alloc (.cells #[.string first, .slice A ps.length cap, .int .i64 f, .slice A' o.length capO] 96)).alloc (.cells #[.string first, .slice A ps.length cap, .int .i64 f, .slice A' o.length capO] 96) = W0 := ⟨_, rfl⟩
  have s0 : W0.heap.size = w1.heap.size + 2 := by rw [← hW0]; simp
  have hB2 : Below w.heap.size w W0 := by rw [← hW0]; exact belowA (belowA HB1.out _) _
  have hs0 : Blk W0 (w1.heap.size + 1) 96 #[.string first, .slice A ps.length cap, .int .i64 f, .slice A' o.length capO] := by
    rw [← hW0]
    have := Blk.new (w1.alloc (.cells #[.string first, .slice A ps.length cap, .int .i64 f, .slice A' o.length capO] 96)) 96 #[.string first, .slice A ps.length cap, .int .i64 f, .slice A' o.length capO]
    simpa using this
  have hc0 : Blk W0 w1.heap.size 96 #[.string first, .slice A ps.length cap, .int .i64 f, .slice A' o.length capO] := by
    rw [← hW0]
    exact (Blk.new w1 96 _).alloc _
  have hO0 : Rd1 nv W0 w1.heap.size A' o := by rw [← hW0]; exact (HO.out.alloc (Nat.le_refl _) _).alloc (by simp) _
  have r1 : W0.cell? ⟨w.heap.size + 1, 0, none⟩ = some (.string name) := by rw [← hW0]; exact keepA (keepA q1 _) _
  have r2 : W0.cell? ⟨w.heap.size + 1 + 1, 0, none⟩ = some (.slice none 0 0) := by rw [← hW0]; exact keepA (keepA q2 _) _
  have r3 : W0.cell? ⟨w.heap.size + 1 + 1 + 1, 0, none⟩ = some (.int .i64 0) := by rw [← hW0]; exact keepA (keepA q3 _) _
  have g2 : W0.frozen? ⟨w.heap.size + 1 + 1, 0, none⟩ = false := by rw [← hW0]; exact (keepAF (by simp; omega) 0 _).trans ((keepAF z2 0 _).trans f2)
  have g3 : W0.frozen? ⟨w.heap.size + 1 + 1 + 1, 0, none⟩ = false := by rw [← hW0]; exact (keepAF (by simp; omega) 0 _).trans ((keepAF z3 0 _).trans f3)
  have hN8 := hp8
  simp only [World.size_alloc]
  rw [hW0]
  clear hW0
  have HX : Hid (first.size ≤ maxLen ∧ RdN 3 encPap w B A ps ∧ B ≤ w.heap.size) := Lib.hid ⟨hf, hR, hB⟩
  have hoid : ∀ x ∈ o, x < ps.length := fun x hx => ((HORD.out.mem x).1 hx).1
  have hol : o.length ≤ 8 := Nat.le_trans HORD.out.len hp8
  clear hf hm hok q1 q2 q3 f2 f3 HO HB1
  gi_wp2
  refine rangeFunc_sets _ (w1.heap.size + 1) ps.length f first A cap (.slice A' o.length capO) rfl hs0 hp8 hf8 (FgNo first ps o name W0) (FgYes first ps o name w.heap.size w W0) ?_ ?_ ⟨Below.refl _ _, by simp⟩ ?_ ?_ ?_
  · exact fun s A B h hb => ⟨h.1.trans hb, h.2⟩
  · rintro pre X Y k hk ⟨h1, p, s, v, rfl, h2, h3, h4, h5, h6, h7⟩ hg
    refine ⟨h1.grown hg h1.size (fun j e => by injection e with e; omega), p, s, v, rfl, h2, h3, hg.cell h4 (by simp; omega), hg.cell h5 (by simp; omega), h6.kept hg (.inr (fun e => by have := (h6.lt k e).1; omega)), Nat.le_trans h7 hg.size⟩
  · intro m l pre s v W hI hH hpre hbw hsb
    gi_wp2
    refine ⟨trivial, ?_⟩
    clear hI hH hsb hbw W
    intro W hI hH hbw hsb
    obtain ⟨S, capS, rfl, hS⟩ := hH
    have hsl : s.length ≤ 1000 := by
      have hmem := hpre.subset (List.mem_append_right pre (List.mem_singleton.2 rfl))
      rw [mem_setsTo] at hmem
      omega
    have hmx : Try.prog.follows .mixedOrders = true := by kernel_rfl
    obtain ⟨hIb, hIn⟩ := hI
    have b0 := hc0.same (hIb.block _ hc0.lt)
    have c0 : W.drew.cell? ⟨w1.heap.size, 0, none⟩ = some (.string first) := b0.cell 0
    have c1 : W.drew.cell? ⟨w1.heap.size, 1, none⟩ = some (.slice A ps.length cap) := b0.cell 1
    have c2 : W.drew.cell? ⟨w1.heap.size, 2, none⟩ = some (.int .i64 f) := b0.cell 2
    have c3 : W.drew.cell? ⟨w1.heap.size, 3, none⟩ = some (.slice A' o.length capO) := b0.cell 3
    have c4 : W.drew.cell? ⟨w.heap.size + 1, 0, none⟩ = some (.string name) := keepC hIb r1
    have hz0 := HX.out.2.2
    have HRW : Hid (RdN 3 encPap W.drew W.heap.size A ps) := Lib.hid (((HX.out.2.1.below hB2 hz0).below hIb (by have := hB2.size; omega)).more (by have := hB2.size; have := hIb.size; omega))
    have HOW : Hid (Rd1 nv W.drew W.heap.size A' o) := Lib.hid ((hO0.below hIb (by omega)).more (by have := hIb.size; omega))
    have HSW : Hid (Rd1 nv W.drew W.heap.size S s) := Lib.hid hS
    clear hS
    cases hq : ((ownerL first ps o s).toList == name.toList)
    · gi_wp2
      gi_region_with_o (refine ⟨trivial, hdd _, (CallsIn.inRound l (callsIn_wide.2 (owner_any first A A' S ps o s W.heap.size cap capO capS f W.drew hol hsl hoid HRW.out HOW.out HSW.out (Nat.le_refl _)))).mono ?_⟩; rintro e w3 ⟨rfl, hb3⟩; have d0 := keepC hb3 c0; have d1 := keepC hb3 c1; have d2 := keepC hb3 c2; have d3 := keepC hb3 c3; have d4 := keepC hb3 c4)
      all_goals gi_wp2
      all_goals exact ⟨KeepB.of_below (undrew hb3), hIb.trans ((undrew hb3).mono hIb.size), fun t ht => by
        rcases List.mem_append.1 ht with ht | ht
        · exact hIn t ht
        · rw [List.mem_singleton.1 ht]; exact hq⟩
    · gi_wp2
      gi_region_with_o (refine ⟨trivial, hdd _, (CallsIn.inRound l (callsIn_wide.2 (owner_any first A A' S ps o s W.heap.size cap capO capS f W.drew hol hsl hoid HRW.out HOW.out HSW.out (Nat.le_refl _)))).mono ?_⟩; rintro e w3 ⟨rfl, hb3⟩; have d0 := keepC hb3 c0; have d1 := keepC hb3 c1; have d2 := keepC hb3 c2; have d3 := keepC hb3 c3; have d4 := keepC hb3 c4)
      all_goals
        have hb3' := undrew hb3
        have HS3 : Hid (Rd1 nv w3 W.heap.size S s) := Lib.hid (Rd1.below HSW.out hb3 (Nat.le_refl _))
        clear hb3 d0 d1 d2 d3 d4
        gi_wp2_with fail
        refine ⟨trivial, hdd _, (CallsIn.inRound l (callsIn_wide.2 (clone_any S s W.heap.size capS w3 hsl HS3.out))).mono ?_⟩
        rintro e w4 ⟨v4, rfl, hown, hb4⟩
        obtain ⟨A4, cap4, rfl, _⟩ := own_rd1 hown
        have k2 : w4.cell? ⟨w.heap.size + 1 + 1, 0, none⟩ = some (.slice none 0 0) := keepC hb4 (keepC hb3' (keepC hIb r2))
        have k3 : w4.cell? ⟨w.heap.size + 1 + 1 + 1, 0, none⟩ = some (.int .i64 0) := keepC hb4 (keepC hb3' (keepC hIb r3))
        have m2 : w4.frozen? ⟨w.heap.size + 1 + 1, 0, none⟩ = false := (keepF hb4 (keepC hb3' (keepC hIb r2))).trans ((keepF hb3' (keepC hIb r2)).trans ((keepF hIb r2).trans g2))
        have m3 : w4.frozen? ⟨w.heap.size + 1 + 1 + 1, 0, none⟩ = false := (keepF hb4 (keepC hb3' (keepC hIb r3))).trans ((keepF hb3' (keepC hIb r3)).trans ((keepF hIb r3).trans g3))
        have hsz3 := hb3'.size
        have hsz4 := hb4.size
        have HOWN := Lib.hid hown
        have HB4 := Lib.hid hb4
        have HB3 := Lib.hid hb3'
        clear hown hb4 hb3'
        gi_wp2
        have hbB : Below w.heap.size w w4 := (hB2.trans (hIb.mono hB2.size)).trans ((HB3.out.mono (by have := hB2.size; omega)).trans (HB4.out.mono (by have := hB2.size; omega)))
        have hw4 : ∀ k, (Value.slice A4 s.length cap4).ownBlock = some k → w3.heap.size ≤ k := fun k e => (HOWN.out.lt k e).1
        refine ⟨(((KeepB.of_below HB3.out).trans (KeepB.of_below HB4.out)).trans (KeepB.set_ _ _ _ (by omega) (by omega))).trans (KeepB.set_ _ _ _ (by omega) (by omega)), ?_⟩
        refine ⟨belowS (belowS hbB (by simp; omega) _) (by simp; omega) _, pre, s, .slice A4 s.length cap4, rfl, hIn, hq, ?_, ?_, ?_, ?_⟩
        · go_simp
        · go_simp
        · refine ((ownsRow_base HOWN.out (by omega)).kept (grownSet _ _ _) (.inr (fun e => ?_))).kept (grownSet _ _ _) (.inr (fun e => ?_))
          · have := hw4 _ e; omega
          · have := hw4 _ e; omega
        · simp [World.setCell]; omega
  · rintro W ⟨hIb, hIn⟩ hsz hD
    have k2 : W.cell? ⟨w.heap.size + 1 + 1, 0, none⟩ = some (.slice none 0 0) := keepC hIb r2
    have k3 : W.cell? ⟨w.heap.size + 1 + 1 + 1, 0, none⟩ = some (.int .i64 0) := keepC hIb r3
    have m2 : W.frozen? ⟨w.heap.size + 1 + 1, 0, none⟩ = false := (keepF hIb r2).trans g2
    have m3 : W.frozen? ⟨w.heap.size + 1 + 1 + 1, 0, none⟩ = false := (keepF hIb r3).trans g3
    have HIN := Lib.hid hIn
    have hbB : Below w.heap.size w W := hB2.trans (hIb.mono hB2.size)
    have HBB := Lib.hid hbB
    have HD := Lib.hid hD
    clear hIn hbB hD hIb hB2 hs0 hc0 hO0 r1 r2 r3 g2 g3
    have hlt0 : W0.heap.size < W.heap.size := by omega
    have hD2 : ((W.setCell ⟨w.heap.size + 1 + 1, 0, none⟩ (.slice none 0 0)).setCell ⟨w.heap.size + 1 + 1 + 1, 0, none⟩ (.int .i64 4)).heap[W0.heap.size]? = some (.deferred (some [])) :=
      (Below.heap_setCell _ _ _ _ (by simp; omega)).trans ((Below.heap_setCell _ _ _ _ (by simp; omega)).trans HD.out)
    have hP : Below w.heap.size w ((W.setCell ⟨w.heap.size + 1 + 1, 0, none⟩ (.slice none 0 0)).setCell ⟨w.heap.size + 1 + 1 + 1, 0, none⟩ (.int .i64 4)) := belowS (belowS HBB.out (by simp; omega) _) (by simp; omega) _
    have e2 : ((W.setCell ⟨w.heap.size + 1 + 1, 0, none⟩ (.slice none 0 0)).setCell ⟨w.heap.size + 1 + 1 + 1, 0, none⟩ (.int .i64 4)).cell? ⟨w.heap.size + 1 + 1, 0, none⟩ = some (.slice none 0 0) := by go_simp
    have e3 : ((W.setCell ⟨w.heap.size + 1 + 1, 0, none⟩ (.slice none 0 0)).setCell ⟨w.heap.size + 1 + 1 + 1, 0, none⟩ (.int .i64 4)).cell? ⟨w.heap.size + 1 + 1 + 1, 0, none⟩ = some (.int .i64 4) := by go_simp
    have HD2 := Lib.hid hD2
    have HP := Lib.hid hP
    clear hD2 hP
    gi_wp2
    obtain ⟨X, hX⟩ : ∃ X, (W.setCell ⟨w.heap.size + 1 + 1, 0, none⟩ (.slice none 0 0)).setCell ⟨w.heap.size + 1 + 1 + 1, 0, none⟩ (.int .i64 4) = X := ⟨_, rfl⟩
    rw [hX] at HD2 HP e2 e3 ⊢
    have e2' := (cell_put HD2.out rfl (.deferred none) ⟨w.heap.size + 1 + 1, 0, none⟩).trans e2
    have e3' := (cell_put HD2.out rfl (.deferred none) ⟨w.heap.size + 1 + 1 + 1, 0, none⟩).trans e3
    refine ⟨by simp, .inl ⟨_, _, rfl, run_takeDeferred HD2.out, ?_⟩⟩
    refine ⟨.tuple #[.slice none 0 0, iv 4], by simp [results, Try.results22, go_sem, e2', e3'], HP.out.trans (below_putObj _ (by omega) _), o, HORD.out, .inl ⟨?_, rfl⟩⟩
    exact List.find?_eq_none.2 fun s hs => by rw [HIN.out s hs]; simp
  · rintro pre W hpre ⟨hbB, p, s, v, rfl, hno, hyes, k2, k3, hown, hz⟩ hsz hD
    obtain ⟨A4, cap4, rfl, _⟩ := own_rd1 hown
    have e2' := (cell_put hD rfl (.deferred none) ⟨w.heap.size + 1 + 1, 0, none⟩).trans k2
    have e3' := (cell_put hD rfl (.deferred none) ⟨w.heap.size + 1 + 1 + 1, 0, none⟩).trans k3
    have hown2 := hown.kept (grownBy_putObj' W W0.heap.size (.deferred none)) (.inr (fun e => by have := (hown.lt _ e).1; omega))
    obtain ⟨A5, cap5, e5, hrd, _⟩ := own_rd1 hown2
    injection e5 with e51 e52 e53
    subst e51
    have HBB := Lib.hid hbB
    have HNO := Lib.hid hno
    have HYES := Lib.hid hyes
    have HPRE := Lib.hid hpre
    have HD := Lib.hid hD
    have HRD := Lib.hid hrd
    have hge : w.heap.size ≤ W0.heap.size := by omega
    clear s0
    clear hbB hown hno hyes hpre hD hB2 hs0 hc0 hO0 r1 r2 r3 g2 g3 hown2 hrd
    gi_wp2
    refine ⟨by simp, .inl ⟨_, _, rfl, run_takeDeferred HD.out, ?_⟩⟩
    refine ⟨.tuple #[.slice A4 s.length cap4, iv 0], by simp [results, Try.results22, go_sem, e2', e3'], HBB.out.trans (below_putObj _ (by omega) _), o, HORD.out, .inr ⟨s, A4, cap4, ?_, rfl, HRD.out⟩⟩
    obtain ⟨r, hr⟩ := HPRE.out
    unfold forgedF
    rw [← hr, List.find?_append, List.find?_append, List.find?_eq_none.2 (fun t ht => by rw [HNO.out t ht]; simp)]
    simp [List.find?, HYES.out]
end Go.Proofs.Ytblbbhenmhkknaa
