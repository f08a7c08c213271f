/- What the program answers at the examples: the ship. -/
import Derived.Test.YtblbbhenmhkknaaYW14
import Derived.Test.YtblbbhenmhkknaaYL1
namespace Go.Proofs.Ytblbbhenmhkknaa
open Go.RowKit Go.Sort

theorem Rd1.map_ {α β : Type} {enc : α → Value} {enc' : β → Value} {w : World} {B : Nat} {A : Option Addr} {xs : List α} (h : Rd1 enc w B A xs) (f : α → β) (hf : ∀ x, enc x = enc' (f x)) : Rd1 enc' w B A (xs.map f) := by
  intro i y hy
  rw [List.getElem?_map] at hy
  cases hx : xs[i]? with
  | none => rw [hx] at hy; simp at hy
  | some x =>
    rw [hx] at hy
    simp only [Option.map_some, Option.some.injEq] at hy
    subst hy
    obtain ⟨b, off, e, hb, hc⟩ := h i x hx
    exact ⟨b, off, e, hb, by rw [hc, hf]⟩
def sb (l : List UInt8) : ByteArray := ⟨l.toArray⟩
theorem sb_bs (s : ByteArray) : sb (bs s) = s := by cases s; simp [sb, bs]
theorem bs_sb (l : List UInt8) : bs (sb l) = l := by simp [sb, bs]
theorem toList_bs (s : ByteArray) : s.toList = bs s := ByteArray.toList_eq s
/-- Two lists in strict order of the same members are one. -/
theorem sorted_unique {l m : List (List UInt8)} (hl : l.Pairwise (· < ·)) (hm : m.Pairwise (· < ·)) (h : ∀ x, x ∈ l ↔ x ∈ m) : l = m := by
  induction l generalizing m with
  | nil =>
    cases m with
    | nil => rfl
    | cons y m => exact absurd ((h y).2 (by simp)) (by simp)
  | cons x l ih =>
    cases m with
    | nil => exact absurd ((h x).1 (by simp)) (by simp)
    | cons y m =>
      rw [List.pairwise_cons] at hl hm
      have exy : x = y := by
        have h1 := (h x).1 (by simp)
        have h2 := (h y).2 (by simp)
        rcases List.mem_cons.1 h1 with e | h1
        · exact e
        · rcases List.mem_cons.1 h2 with e | h2
          · exact e.symm
          · exact absurd (hm.1 x h1) (List.not_lt.2 (List.le_of_lt (hl.1 y h2)))
      subst exy
      rw [ih hl.2 hm.2 fun z => ?_]
      have hz := h z
      constructor
      · intro hzl
        rcases List.mem_cons.1 (hz.1 (List.mem_cons_of_mem _ hzl)) with e | e
        · subst e; exact absurd (hl.1 z hzl) (List.lt_irrefl _)
        · exact e
      · intro hzm
        rcases List.mem_cons.1 (hz.2 (List.mem_cons_of_mem _ hzm)) with e | e
        · subst e; exact absurd (hm.1 z hzm) (List.lt_irrefl _)
        · exact e

theorem exPapsOk : PapsOk exPs := ⟨by decide +kernel, by decide +kernel⟩
theorem exSize : sClyde.size ≤ maxLen := by decide +kernel
theorem exOpen30 : openE sClyde exPs ((1 : Nat) : Int) 30 = 0 := by
  simp only [openE, shipErr, shipE, firstBad, papsE, papE, ByteArray.toList_eq]
  decide +kernel
theorem exOpen25 : openE sClyde exPs ((1 : Nat) : Int) 25 = 0 := by
  simp only [openE, shipErr, shipE, firstBad, papsE, papE, ByteArray.toList_eq]
  decide +kernel
theorem exOpen9 : openE sClyde exPs ((1 : Nat) : Int) 9 = 0 := by
  simp only [openE, shipErr, shipE, firstBad, papsE, papE, ByteArray.toList_eq]
  decide +kernel
theorem exOrder30 : IsOrder exPs 30 [0, 1, 2] := ⟨by unfold KO; decide +kernel, fun x => by
  constructor
  · intro h; simp at h; rcases h with rfl | rfl | rfl <;> decide +kernel
  · rintro ⟨h, _⟩; simp [exPs] at h; simp; omega, by decide +kernel⟩
theorem exOrder25 : IsOrder exPs 25 [0, 1] := ⟨by unfold KO; decide +kernel, fun x => by
  constructor
  · intro h; simp at h; rcases h with rfl | rfl <;> decide +kernel
  · rintro ⟨h, h2⟩
    have h' : x < 3 := h
    match x, h' with
    | 0, _ => simp
    | 1, _ => simp
    | 2, _ => revert h2; decide +kernel, by decide +kernel⟩
theorem exOrder9 : IsOrder exPs 9 [] := ⟨by simp, fun x => by
  constructor
  · intro h; simp at h
  · rintro ⟨h, h2⟩
    have h' : x < 3 := h
    match x, h' with
    | 0, _ => revert h2; decide +kernel
    | 1, _ => revert h2; decide +kernel
    | 2, _ => revert h2; decide +kernel, by decide +kernel⟩
theorem exForgedF (o : List Nat) (name : ByteArray) : forgedF sClyde exPs o 1 name = ((setsTo 3 2).find? fun s => bs (ownerL sClyde exPs o s) == bs name) := by
  unfold forgedF
  simp only [toList_bs]
  rfl
theorem exOwner (o s : List Nat) : ownerL sClyde exPs o s = o.foldl (fun own i => if memB s i then own else match exPs[i]? with | some p => (if bs p.src == bs own then p.dst else own) | none => own) sClyde := by
  unfold ownerL
  simp only [stepO, toList_bs]
  rfl
theorem exCash : forgedF sClyde exPs [0, 1, 2] 1 sCash = some [1] := by
  rw [exForgedF]; simp only [exOwner]; decide +kernel
theorem exOrient : forgedF sClyde exPs [0, 1, 2] 1 sOrient = none := by
  rw [exForgedF]; simp only [exOwner]; decide +kernel
theorem exPacific : forgedF sClyde exPs [0, 1, 2] 1 sPacific = some [] := by
  rw [exForgedF]; simp only [exOwner]; decide +kernel
theorem seen_ex (o : List Nat) (names : List ByteArray) (h : ∀ x, x ∈ ((setsTo 3 2).map fun s => bs (ownerL sClyde exPs o s)) ↔ x ∈ names.map bs) (x : List UInt8) : Seen sClyde exPs o (setsTo 3 2) x ↔ x ∈ names.map bs := by
  rw [← h]
  unfold Seen
  simp
theorem mem_two {l m : List (List UInt8)} (h : (l.all fun x => m.contains x) = true) (h2 : (m.all fun x => l.contains x) = true) (x : List UInt8) : x ∈ l ↔ x ∈ m := by
  constructor
  · intro hx; have := List.all_eq_true.1 h x hx; simpa using this
  · intro hx; have := List.all_eq_true.1 h2 x hx; simpa using this

theorem exOwners {day : Int} {o : List Nat} {names : List ByteArray} (ho : IsOrder exPs day o) (hE : openE sClyde exPs ((1 : Nat) : Int) day = 0) (hp : (names.map bs).Pairwise (· < ·)) (hs : ∀ x, x ∈ ((setsTo 3 2).map fun s => bs (ownerL sClyde exPs o s)) ↔ x ∈ names.map bs)
    (g B : Nat) (w : World) (hR : RdN 3 encPap w B (some ⟨g, 0, none⟩) exPs) (hB : B ≤ w.heap.size) :
    Calls Try.prog 19 #[.agg #[.string sClyde, .slice (some ⟨g, 0, none⟩) 3 3, .int .i64 1], .int .i64 day] w fun e w' => ∃ A cap, e = .returned (.tuple #[.slice A names.length cap, iv 0]) ∧ Rd1 Value.string w' w'.heap.size A names ∧ Below w.heap.size w w' := by
  refine (owners_yes sClyde (some ⟨g, 0, none⟩) exPs B 3 1 day w exSize (by decide +kernel) exPapsOk hR hB hE (by decide) (by decide)).mono ?_
  rintro e w' ⟨hb, o', os, A, cap, ho', rfl, hrd, hso, hmem, _⟩
  have eo := ho'.unique ho
  subst eo
  have e1 : os = names.map bs := sorted_unique hso hp fun x => (hmem x).trans (seen_ex o' names hs x)
  subst e1
  have hl : (names.map bs).length = names.length := by simp
  rw [hl]
  refine ⟨A, cap, rfl, ?_, hb⟩
  have := hrd.map_ (enc' := Value.string) sb (fun x => rfl)
  rw [List.map_map] at this
  have e2 : names.map (sb ∘ bs) = names := by
    rw [show sb ∘ bs = id from funext sb_bs]; simp
  rwa [e2] at this
theorem exOwners30 (g B : Nat) (w : World) (hR : RdN 3 encPap w B (some ⟨g, 0, none⟩) exPs) (hB : B ≤ w.heap.size) :
    Calls Try.prog 19 #[.agg #[.string sClyde, .slice (some ⟨g, 0, none⟩) 3 3, .int .i64 1], .int .i64 30] w fun e w' => ∃ A cap, e = .returned (.tuple #[.slice A 3 cap, iv 0]) ∧ Rd1 Value.string w' w'.heap.size A [sCash, sClyde, sPacific] ∧ Below w.heap.size w w' :=
  exOwners (names := [sCash, sClyde, sPacific]) exOrder30 exOpen30 (by decide +kernel) (by simp only [exOwner]; exact mem_two (by decide +kernel) (by decide +kernel)) g B w hR hB
theorem exOwners25 (g B : Nat) (w : World) (hR : RdN 3 encPap w B (some ⟨g, 0, none⟩) exPs) (hB : B ≤ w.heap.size) :
    Calls Try.prog 19 #[.agg #[.string sClyde, .slice (some ⟨g, 0, none⟩) 3 3, .int .i64 1], .int .i64 25] w fun e w' => ∃ A cap, e = .returned (.tuple #[.slice A 3 cap, iv 0]) ∧ Rd1 Value.string w' w'.heap.size A [sClyde, sOrient, sPacific] ∧ Below w.heap.size w w' :=
  exOwners (names := [sClyde, sOrient, sPacific]) exOrder25 exOpen25 (by decide +kernel) (by simp only [exOwner]; exact mem_two (by decide +kernel) (by decide +kernel)) g B w hR hB
theorem exOwners9 (g B : Nat) (w : World) (hR : RdN 3 encPap w B (some ⟨g, 0, none⟩) exPs) (hB : B ≤ w.heap.size) :
    Calls Try.prog 19 #[.agg #[.string sClyde, .slice (some ⟨g, 0, none⟩) 3 3, .int .i64 1], .int .i64 9] w fun e w' => ∃ A cap, e = .returned (.tuple #[.slice A 1 cap, iv 0]) ∧ Rd1 Value.string w' w'.heap.size A [sClyde] ∧ Below w.heap.size w w' :=
  exOwners (names := [sClyde]) exOrder9 exOpen9 (by decide +kernel) (by simp only [exOwner]; exact mem_two (by decide +kernel) (by decide +kernel)) g B w hR hB

theorem exForgedYes {name : ByteArray} {s : List Nat} (h : forgedF sClyde exPs [0, 1, 2] 1 name = some s) (g B : Nat) (w : World) (hR : RdN 3 encPap w B (some ⟨g, 0, none⟩) exPs) (hB : B ≤ w.heap.size) :
    Calls Try.prog 22 #[.agg #[.string sClyde, .slice (some ⟨g, 0, none⟩) 3 3, .int .i64 1], .int .i64 30, .string name] w fun e w' => ∃ A cap, e = .returned (.tuple #[.slice A s.length cap, iv 0]) ∧ Rd1 iv w' w'.heap.size A (s.map fun (n : Nat) => (n : Int)) ∧ Below w.heap.size w w' := by
  refine (forged_yes sClyde (some ⟨g, 0, none⟩) exPs B 3 1 30 name w exSize (by decide +kernel) exPapsOk hR hB exOpen30 (by decide) (by decide)).mono ?_
  rintro e w' ⟨hb, o, ho, h2⟩
  have eo := ho.unique exOrder30
  subst eo
  rcases h2 with ⟨h2, _⟩ | ⟨s', A, cap, h2, rfl, hrd⟩
  · rw [h] at h2; cases h2
  · rw [h] at h2
    injection h2 with h2
    subst h2
    exact ⟨A, cap, rfl, hrd.map_ _ (fun _ => rfl), hb⟩
theorem exForgedNo {name : ByteArray} (h : forgedF sClyde exPs [0, 1, 2] 1 name = none) (g B : Nat) (w : World) (hR : RdN 3 encPap w B (some ⟨g, 0, none⟩) exPs) (hB : B ≤ w.heap.size) :
    Calls Try.prog 22 #[.agg #[.string sClyde, .slice (some ⟨g, 0, none⟩) 3 3, .int .i64 1], .int .i64 30, .string name] w fun e w' => e = .returned (.tuple #[.slice none 0 0, iv 4]) ∧ Below w.heap.size w w' := by
  refine (forged_yes sClyde (some ⟨g, 0, none⟩) exPs B 3 1 30 name w exSize (by decide +kernel) exPapsOk hR hB exOpen30 (by decide) (by decide)).mono ?_
  rintro e w' ⟨hb, o, ho, h2⟩
  have eo := ho.unique exOrder30
  subst eo
  rcases h2 with ⟨_, rfl⟩ | ⟨s', A, cap, h2, _, _⟩
  · exact ⟨rfl, hb⟩
  · rw [h] at h2; cases h2
end Go.Proofs.Ytblbbhenmhkknaa
