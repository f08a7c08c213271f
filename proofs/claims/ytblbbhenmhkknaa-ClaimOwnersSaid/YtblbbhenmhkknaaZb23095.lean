/- What the program answers at the examples: the ship. Papers of later days, fewer or more forged papers: who can be the owner. No program is walked here but for named and sailing. Sets of papers as numbers, and as ascending lists; the fewest papers. No program is walked here. The reference: dated (F62), papers (F65). -/
import Derived.Test.YtblbbhenmhkknaaZ307368
import Derived.Test.YtblbbhenmhkknaaZ0c035f
import Derived.Test.YtblbbhenmhkknaaYL1
namespace Go.Proofs.Ytblbbhenmhkknaa
open Go.RowKit Go.Sort

theorem Rd1.map_ {α β : Type} {enc : α → Value} {enc' : β → Value} {w : World} {B : Nat} {A : Option Addr} {xs : List α} (h : Rd1 enc w B A xs) (f : α → β) (hf : ∀ x, enc x = enc' (f x)) : Rd1 enc' w B A (xs.map f) := by
  intro i y hy
  rw [List.getElem?_map] at hy
  cases hx : xs[i]? with
  | none => rw [hx] at hy; simp at hy
  | some x =>
    rw [hx] at hy
    simp only [Option.map_some, Option.some.injEq] at hy
    subst hy
    obtain ⟨b, off, e, hb, hc⟩ := h i x hx
    exact ⟨b, off, e, hb, by rw [hc, hf]⟩
def sb (l : List UInt8) : ByteArray := ⟨l.toArray⟩
theorem sb_bs (s : ByteArray) : sb (bs s) = s := by cases s; simp [sb, bs]
theorem bs_sb (l : List UInt8) : bs (sb l) = l := by simp [sb, bs]
theorem toList_bs (s : ByteArray) : s.toList = bs s := ByteArray.toList_eq s
/-- Two lists in strict order of the same members are one. -/
theorem sorted_unique {l m : List (List UInt8)} (hl : l.Pairwise (· < ·)) (hm : m.Pairwise (· < ·)) (h : ∀ x, x ∈ l ↔ x ∈ m) : l = m := by
  induction l generalizing m with
  | nil =>
    cases m with
    | nil => rfl
    | cons y m => exact absurd ((h y).2 (by simp)) (by simp)
  | cons x l ih =>
    cases m with
    | nil => exact absurd ((h x).1 (by simp)) (by simp)
    | cons y m =>
      rw [List.pairwise_cons] at hl hm
      have exy : x = y := by
        have h1 := (h x).1 (by simp)
        have h2 := (h y).2 (by simp)
        rcases List.mem_cons.1 h1 with e | h1
        · exact e
        · rcases List.mem_cons.1 h2 with e | h2
          · exact e.symm
          · exact absurd (hm.1 x h1) (List.not_lt.2 (List.le_of_lt (hl.1 y h2)))
      subst exy
      rw [ih hl.2 hm.2 fun z => ?_]
      have hz := h z
      constructor
      · intro hzl
        rcases List.mem_cons.1 (hz.1 (List.mem_cons_of_mem _ hzl)) with e | e
        · subst e; exact absurd (hl.1 z hzl) (List.lt_irrefl _)
        · exact e
      · intro hzm
        rcases List.mem_cons.1 (hz.2 (List.mem_cons_of_mem _ hzm)) with e | e
        · subst e; exact absurd (hm.1 z hzm) (List.lt_irrefl _)
        · exact e

theorem exPapsOk : PapsOk exPs := ⟨by decide +kernel, by decide +kernel⟩
theorem exSize : sClyde.size ≤ maxLen := by decide +kernel
theorem exOpen30 : openE sClyde exPs ((1 : Nat) : Int) 30 = 0 := by
  simp only [openE, shipErr, shipE, firstBad, papsE, papE, ByteArray.toList_eq]
  decide +kernel
theorem exOpen25 : openE sClyde exPs ((1 : Nat) : Int) 25 = 0 := by
  simp only [openE, shipErr, shipE, firstBad, papsE, papE, ByteArray.toList_eq]
  decide +kernel
theorem exOpen9 : openE sClyde exPs ((1 : Nat) : Int) 9 = 0 := by
  simp only [openE, shipErr, shipE, firstBad, papsE, papE, ByteArray.toList_eq]
  decide +kernel
theorem exOrder30 : IsOrder exPs 30 [0, 1, 2] := ⟨by unfold KO; decide +kernel, fun x => by
  constructor
  · intro h; simp at h; rcases h with rfl | rfl | rfl <;> decide +kernel
  · rintro ⟨h, _⟩; simp [exPs] at h; simp; omega, by decide +kernel⟩
theorem exOrder25 : IsOrder exPs 25 [0, 1] := ⟨by unfold KO; decide +kernel, fun x => by
  constructor
  · intro h; simp at h; rcases h with rfl | rfl <;> decide +kernel
  · rintro ⟨h, h2⟩
    have h' : x < 3 := h
    match x, h' with
    | 0, _ => simp
    | 1, _ => simp
    | 2, _ => revert h2; decide +kernel, by decide +kernel⟩
theorem exOrder9 : IsOrder exPs 9 [] := ⟨by simp, fun x => by
  constructor
  · intro h; simp at h
  · rintro ⟨h, h2⟩
    have h' : x < 3 := h
    match x, h' with
    | 0, _ => revert h2; decide +kernel
    | 1, _ => revert h2; decide +kernel
    | 2, _ => revert h2; decide +kernel, by decide +kernel⟩
theorem exForgedF (o : List Nat) (name : ByteArray) : forgedF sClyde exPs o 1 name = ((setsTo 3 2).find? fun s => bs (ownerL sClyde exPs o s) == bs name) := by
  unfold forgedF
  simp only [toList_bs]
  rfl
theorem exOwner (o s : List Nat) : ownerL sClyde exPs o s = o.foldl (fun own i => if memB s i then own else match exPs[i]? with | some p => (if bs p.src == bs own then p.dst else own) | none => own) sClyde := by
  unfold ownerL
  simp only [stepO, toList_bs]
  rfl
theorem exCash : forgedF sClyde exPs [0, 1, 2] 1 sCash = some [1] := by
  rw [exForgedF]; simp only [exOwner]; decide +kernel
theorem exOrient : forgedF sClyde exPs [0, 1, 2] 1 sOrient = none := by
  rw [exForgedF]; simp only [exOwner]; decide +kernel
theorem exPacific : forgedF sClyde exPs [0, 1, 2] 1 sPacific = some [] := by
  rw [exForgedF]; simp only [exOwner]; decide +kernel
theorem seen_ex (o : List Nat) (names : List ByteArray) (h : ∀ x, x ∈ ((setsTo 3 2).map fun s => bs (ownerL sClyde exPs o s)) ↔ x ∈ names.map bs) (x : List UInt8) : Seen sClyde exPs o (setsTo 3 2) x ↔ x ∈ names.map bs := by
  rw [← h]
  unfold Seen
  simp
theorem mem_two {l m : List (List UInt8)} (h : (l.all fun x => m.contains x) = true) (h2 : (m.all fun x => l.contains x) = true) (x : List UInt8) : x ∈ l ↔ x ∈ m := by
  constructor
  · intro hx; have := List.all_eq_true.1 h x hx; simpa using this
  · intro hx; have := List.all_eq_true.1 h2 x hx; simpa using this

theorem exOwners {day : Int} {o : List Nat} {names : List ByteArray} (ho : IsOrder exPs day o) (hE : openE sClyde exPs ((1 : Nat) : Int) day = 0) (hp : (names.map bs).Pairwise (· < ·)) (hs : ∀ x, x ∈ ((setsTo 3 2).map fun s => bs (ownerL sClyde exPs o s)) ↔ x ∈ names.map bs)
    (g B : Nat) (w : World) (hR : RdN 3 encPap w B (some ⟨g, 0, none⟩) exPs) (hB : B ≤ w.heap.size) :
    Calls Try.prog 19 #[.agg #[.string sClyde, .slice (some ⟨g, 0, none⟩) 3 3, .int .i64 1], .int .i64 day] w fun e w' => ∃ A cap, e = .returned (.tuple #[.slice A names.length cap, iv 0]) ∧ Rd1 Value.string w' w'.heap.size A names ∧ Below w.heap.size w w' := by
  refine (owners_yes sClyde (some ⟨g, 0, none⟩) exPs B 3 1 day w exSize (by decide +kernel) exPapsOk hR hB hE (by decide) (by decide)).mono ?_
  rintro e w' ⟨hb, o', os, A, cap, ho', rfl, hrd, hso, hmem, _⟩
  have eo := ho'.unique ho
  subst eo
  have e1 : os = names.map bs := sorted_unique hso hp fun x => (hmem x).trans (seen_ex o' names hs x)
  subst e1
  have hl : (names.map bs).length = names.length := by simp
  rw [hl]
  refine ⟨A, cap, rfl, ?_, hb⟩
  have := hrd.map_ (enc' := Value.string) sb (fun x => rfl)
  rw [List.map_map] at this
  have e2 : names.map (sb ∘ bs) = names := by
    rw [show sb ∘ bs = id from funext sb_bs]; simp
  rwa [e2] at this
theorem exOwners30 (g B : Nat) (w : World) (hR : RdN 3 encPap w B (some ⟨g, 0, none⟩) exPs) (hB : B ≤ w.heap.size) :
    Calls Try.prog 19 #[.agg #[.string sClyde, .slice (some ⟨g, 0, none⟩) 3 3, .int .i64 1], .int .i64 30] w fun e w' => ∃ A cap, e = .returned (.tuple #[.slice A 3 cap, iv 0]) ∧ Rd1 Value.string w' w'.heap.size A [sCash, sClyde, sPacific] ∧ Below w.heap.size w w' :=
  exOwners (names := [sCash, sClyde, sPacific]) exOrder30 exOpen30 (by decide +kernel) (by simp only [exOwner]; exact mem_two (by decide +kernel) (by decide +kernel)) g B w hR hB
theorem exOwners25 (g B : Nat) (w : World) (hR : RdN 3 encPap w B (some ⟨g, 0, none⟩) exPs) (hB : B ≤ w.heap.size) :
    Calls Try.prog 19 #[.agg #[.string sClyde, .slice (some ⟨g, 0, none⟩) 3 3, .int .i64 1], .int .i64 25] w fun e w' => ∃ A cap, e = .returned (.tuple #[.slice A 3 cap, iv 0]) ∧ Rd1 Value.string w' w'.heap.size A [sClyde, sOrient, sPacific] ∧ Below w.heap.size w w' :=
  exOwners (names := [sClyde, sOrient, sPacific]) exOrder25 exOpen25 (by decide +kernel) (by simp only [exOwner]; exact mem_two (by decide +kernel) (by decide +kernel)) g B w hR hB
theorem exOwners9 (g B : Nat) (w : World) (hR : RdN 3 encPap w B (some ⟨g, 0, none⟩) exPs) (hB : B ≤ w.heap.size) :
    Calls Try.prog 19 #[.agg #[.string sClyde, .slice (some ⟨g, 0, none⟩) 3 3, .int .i64 1], .int .i64 9] w fun e w' => ∃ A cap, e = .returned (.tuple #[.slice A 1 cap, iv 0]) ∧ Rd1 Value.string w' w'.heap.size A [sClyde] ∧ Below w.heap.size w w' :=
  exOwners (names := [sClyde]) exOrder9 exOpen9 (by decide +kernel) (by simp only [exOwner]; exact mem_two (by decide +kernel) (by decide +kernel)) g B w hR hB

theorem exForgedYes {name : ByteArray} {s : List Nat} (h : forgedF sClyde exPs [0, 1, 2] 1 name = some s) (g B : Nat) (w : World) (hR : RdN 3 encPap w B (some ⟨g, 0, none⟩) exPs) (hB : B ≤ w.heap.size) :
    Calls Try.prog 22 #[.agg #[.string sClyde, .slice (some ⟨g, 0, none⟩) 3 3, .int .i64 1], .int .i64 30, .string name] w fun e w' => ∃ A cap, e = .returned (.tuple #[.slice A s.length cap, iv 0]) ∧ Rd1 iv w' w'.heap.size A (s.map fun (n : Nat) => (n : Int)) ∧ Below w.heap.size w w' := by
  refine (forged_yes sClyde (some ⟨g, 0, none⟩) exPs B 3 1 30 name w exSize (by decide +kernel) exPapsOk hR hB exOpen30 (by decide) (by decide)).mono ?_
  rintro e w' ⟨hb, o, ho, h2⟩
  have eo := ho.unique exOrder30
  subst eo
  rcases h2 with ⟨h2, _⟩ | ⟨s', A, cap, h2, rfl, hrd⟩
  · rw [h] at h2; cases h2
  · rw [h] at h2
    injection h2 with h2
    subst h2
    exact ⟨A, cap, rfl, hrd.map_ _ (fun _ => rfl), hb⟩
theorem exForgedNo {name : ByteArray} (h : forgedF sClyde exPs [0, 1, 2] 1 name = none) (g B : Nat) (w : World) (hR : RdN 3 encPap w B (some ⟨g, 0, none⟩) exPs) (hB : B ≤ w.heap.size) :
    Calls Try.prog 22 #[.agg #[.string sClyde, .slice (some ⟨g, 0, none⟩) 3 3, .int .i64 1], .int .i64 30, .string name] w fun e w' => e = .returned (.tuple #[.slice none 0 0, iv 4]) ∧ Below w.heap.size w w' := by
  refine (forged_yes sClyde (some ⟨g, 0, none⟩) exPs B 3 1 30 name w exSize (by decide +kernel) exPapsOk hR hB exOpen30 (by decide) (by decide)).mono ?_
  rintro e w' ⟨hb, o, ho, h2⟩
  have eo := ho.unique exOrder30
  subst eo
  rcases h2 with ⟨_, rfl⟩ | ⟨s', A, cap, h2, _, _⟩
  · exact ⟨rfl, hb⟩
  · rw [h] at h2; cases h2
end Go.Proofs.Ytblbbhenmhkknaa

namespace Go.Proofs.Ytblbbhenmhkknaa
open Go.RowKit Go.Sort

theorem Seen.mono {first : ByteArray} {ps : List Pap} {o : List Nat} {pre pre' : List (List Nat)} {x : List UInt8} (h : Seen first ps o pre x) (hs : ∀ l ∈ pre, l ∈ pre') : Seen first ps o pre' x := by
  obtain ⟨s, hs1, hs2⟩ := h
  exact ⟨s, hs s hs1, hs2⟩
theorem setsTo_mono {n m m' : Nat} (h : m ≤ m') : ∀ l ∈ setsTo n m, l ∈ setsTo n m' := by
  intro l hl
  rw [mem_setsTo] at hl ⊢
  exact ⟨by omega, hl.2⟩
theorem shipErr_mk {first : ByteArray} {ps : List Pap} {forged : Int} (h : ShipOk first ps forged) : shipErr first ps forged = 0 := by
  have hb : firstBad (papsE ps) ps.length = none := by
    have : ∀ n, n ≤ ps.length → firstBad (papsE ps) n = none := by
      intro n
      induction n with
      | zero => intro _; rfl
      | succ n ih =>
        intro hn
        refine firstBad_succ (ih (by omega)) ?_
        obtain ⟨p, hp⟩ : ∃ p, ps[n]? = some p := ⟨_, List.getElem?_eq_getElem (by omega)⟩
        simp only [papsE, hp]
        exact h.paps p (List.mem_of_getElem? hp)
    exact this _ (Nat.le_refl _)
  unfold shipErr shipE
  simp [h.first, h.len, h.forged, hb]
theorem openE_mk {first : ByteArray} {ps : List Pap} {forged day : Int} (h : ShipOk first ps forged) (hd : inB 0 40000 day = true) : openE first ps forged day = 0 := by
  unfold openE
  rw [if_pos (shipErr_mk h), if_pos hd]
theorem dayOf_app {ps : List Pap} {p : Pap} {x : Nat} (h : x < ps.length) : dayOf (ps ++ [p]) x = dayOf ps x := by
  unfold dayOf; rw [List.getElem?_append_left h]
theorem dayOf_last {ps : List Pap} {p : Pap} : dayOf (ps ++ [p]) ps.length = p.day := by
  unfold dayOf; rw [List.getElem?_append_right (Nat.le_refl _), Nat.sub_self]; rfl
theorem order_more {ps : List Pap} {p : Pap} {day : Int} {o : List Nat} (h : IsOrder (ps ++ [p]) day o) (hp : day < p.day) : IsOrder ps day o := by
  have hm : ∀ x, x ∈ o ↔ x < ps.length ∧ dayOf ps x ≤ day := by
    intro x
    rw [h.mem x, List.length_append, List.length_singleton]
    constructor
    · rintro ⟨a, b⟩
      rcases Nat.lt_or_ge x ps.length with hx | hx
      · exact ⟨hx, by rw [← dayOf_app (p := p) hx]; exact b⟩
      · obtain rfl : x = ps.length := by omega
        rw [dayOf_last] at b
        omega
    · rintro ⟨a, b⟩
      exact ⟨by omega, by rw [dayOf_app a]; exact b⟩
  have hs : o.Pairwise (KO (dayOf ps)) := by
    refine List.Pairwise.imp_of_mem ?_ h.sorted
    intro a b ha hb hab
    have h1 := ((hm a).1 ha).1
    have h2 := ((hm b).1 hb).1
    unfold KO at hab ⊢
    rwa [dayOf_app h1, dayOf_app h2] at hab
  refine ⟨hs, hm, ?_⟩
  have hu := IsOrder.unique (ps := ps) (day := day) (o := o) (o' := (Sort.insertionSort (ltD ps) (upTo ps day ps.length).toArray 0 (upTo ps day ps.length).toArray.size).toList)
  have hso := sorted_order ps day
  have e := KO_unique _ _ _ hs hso.sorted fun x => (hm x).trans (hso.mem x).symm
  rw [e]
  exact hso.len
theorem asc_len {n : Nat} : ∀ {l : List Nat} {a : Nat}, l.Pairwise (· < ·) → (∀ x ∈ l, a ≤ x ∧ x < n) → l.length ≤ n - a := by
  intro l
  induction l with
  | nil => intro a _ _; simp
  | cons x l ih =>
    intro a h1 h2
    rw [List.pairwise_cons] at h1
    have hx := h2 x (by simp)
    have := ih (a := x + 1) h1.2 fun y hy => ⟨h1.1 y hy, (h2 y (by simp [hy])).2⟩
    simp only [List.length_cons]
    omega
theorem ownerL_congr {ps ps' : List Pap} {fl fl' : List Nat} : ∀ {o : List Nat} , (∀ i ∈ o, memB fl i = memB fl' i ∧ ps[i]? = ps'[i]?) → ∀ c, ownerL c ps o fl = ownerL c ps' o fl' := by
  intro o
  induction o with
  | nil => intro _ c; rfl
  | cons i o ih =>
    intro h c
    have h1 := h i (by simp)
    have h2 := ih fun j hj => h j (by simp [hj])
    unfold ownerL at h2 ⊢
    simp only [List.foldl_cons, h1.1, h1.2]
    exact h2 _
theorem seen_more {first : ByteArray} {ps : List Pap} {p : Pap} {day : Int} {o : List Nat} {f : Nat} (ho : IsOrder ps day o) (x : List UInt8) :
    Seen first (ps ++ [p]) o (setsTo (ps ++ [p]).length (min f (ps ++ [p]).length + 1)) x ↔ Seen first ps o (setsTo ps.length (min f ps.length + 1)) x := by
  rw [List.length_append, List.length_singleton]
  constructor
  · rintro ⟨s, hs, e⟩
    rw [mem_setsTo] at hs
    obtain ⟨h1, h2, h3⟩ := hs
    have hfl : (s.filter (· < ps.length)).Pairwise (· < ·) := List.Pairwise.filter _ h2
    have hlen : (s.filter (· < ps.length)).length ≤ ps.length := by
      have := asc_len (a := 0) (n := ps.length) hfl fun y hy => ⟨Nat.zero_le _, by simpa using (List.mem_filter.1 hy).2⟩
      omega
    refine ⟨s.filter (· < ps.length), ?_, ?_⟩
    · rw [mem_setsTo]
      refine ⟨?_, hfl, fun y hy => by simpa using (List.mem_filter.1 hy).2⟩
      have := List.length_filter_le (fun y => decide (y < ps.length)) s
      omega
    · rw [← e]
      congr 1
      refine ownerL_congr (fun i hi => ?_) first
      have hil := ((ho.mem i).1 hi).1
      refine ⟨?_, by rw [List.getElem?_append_left hil]⟩
      unfold memB
      rw [Bool.eq_iff_iff]
      simp [hil]
  · rintro ⟨s, hs, e⟩
    rw [mem_setsTo] at hs
    obtain ⟨h1, h2, h3⟩ := hs
    refine ⟨s, ?_, ?_⟩
    · rw [mem_setsTo]
      exact ⟨by omega, h2, fun y hy => by have := h3 y hy; omega⟩
    · rw [← e]
      congr 1
      refine ownerL_congr (fun i hi => ?_) first
      have hil := ((ho.mem i).1 hi).1
      exact ⟨rfl, by rw [List.getElem?_append_left hil]⟩
/-- If no paper can be forged there is just one owner. -/
theorem seen_none {first : ByteArray} {ps : List Pap} {o : List Nat} {os : List (List UInt8)} (hs : os.Pairwise (· < ·)) (h : ∀ x, x ∈ os ↔ Seen first ps o (setsTo ps.length (min 0 ps.length + 1)) x) : os = [bs (ownerL first ps o [])] := by
  refine sorted_unique hs (by simp) fun x => ?_
  rw [h x, List.mem_singleton]
  constructor
  · rintro ⟨s, hs, e⟩
    rw [mem_setsTo] at hs
    have : s = [] := List.length_eq_zero_iff.1 (by omega)
    rw [← e, this]
  · rintro rfl
    exact ⟨[], by rw [mem_setsTo]; simp, rfl⟩

theorem named_yes (A : Option Addr) (os : List (List UInt8)) (B cap : Nat) (x : List UInt8) (w : World) (hm : os.length ≤ maxLen) (hR : Rd1 encStr w B A os) (hx : x ∈ os) :
    Calls Try.prog 42 #[.slice A os.length cap, .string ⟨x.toArray⟩] w fun e w' => e = .returned (.bool true) ∧ w = w' := by
  have hp := place_any A (os.map sb) B cap ⟨x.toArray⟩ w (by simpa using hm) (hR.map_ sb (fun _ => rfl))
  have hone : oneOf (os.map sb) ⟨x.toArray⟩ = true := by
    unfold oneOf
    rw [List.any_eq_true]
    exact ⟨sb x, List.mem_map.2 ⟨x, hx, rfl⟩, by simp [sb]⟩
  rw [List.length_map, hone] at hp
  unfold IdxPost at hp
  have HP := Lib.hid hp
  clear hp hone
  go_enter Try.func42, Try.ntmps42
  go_wp2_with fail
  refine HP.out.mono ?_
  rintro e w1 ⟨r, rfl, hr, rfl⟩
  have hr' : 0 ≤ r := by simpa using hr
  go_wp2
  go_ret
  exact ⟨rfl, rfl⟩

def sailB (first : ByteArray) (ps : List Pap) (forged : Int) : Bool := shipErr first ps forged == 0
theorem sailing_any (first : ByteArray) (A : Option Addr) (ps : List Pap) (B cap : Nat) (forged : Int) (w : World) (hf : first.size ≤ maxLen) (hm : ps.length ≤ maxLen) (hok : PapsOk ps) (hR : RdN 3 encPap w B A ps) (hB : B ≤ w.heap.size) :
    Calls Try.prog 41 #[.agg #[.string first, .slice A ps.length cap, .int .i64 forged]] w fun e w' => e = .returned (.bool (sailB first ps forged)) ∧ Below w.heap.size w w' := by
  have hb0 : Below w.heap.size w _ := belowA (belowR w) (.cells #[.string first, .slice A ps.length cap, .int .i64 forged] 24)
  have hc := refCheckShip_any first A ps B cap forged (w.alloc (.cells #[.string first, .slice A ps.length cap, .int .i64 forged] 24)) hf hm hok (hR.below hb0 hB) (Nat.le_trans hB hb0.size)
  obtain ⟨r, hr⟩ : ∃ r, shipE first ps forged = r := ⟨_, rfl⟩
  have hb : sailB first ps forged = (r.2.2 == 0) := by unfold sailB shipErr; rw [hr]
  rw [hr] at hc
  rw [hb]
  obtain ⟨r1, r2, r3⟩ := r
  simp only [ret3] at hc ⊢
  have HC := Lib.hid hc
  clear hc hr hb
  cases h : (r3 == 0)
  · go_enter Try.func41, Try.ntmps41
    go_wp2_with fail
    refine HC.out.mono ?_
    rintro e w1 ⟨rfl, hb⟩
    have hB1 := belowT hb0 hb
    clear hb hb0
    go_wp2
    go_ret
    exact ⟨rfl, hB1⟩
  · go_enter Try.func41, Try.ntmps41
    go_wp2_with fail
    refine HC.out.mono ?_
    rintro e w1 ⟨rfl, hb⟩
    have hB1 := belowT hb0 hb
    clear hb hb0
    go_wp2
    go_ret
    exact ⟨rfl, hB1⟩
end Go.Proofs.Ytblbbhenmhkknaa

namespace Go.Proofs.Ytblbbhenmhkknaa
open Go.RowKit Go.Sort

/-- The number of a set of papers. -/
def bitsS (l : List Nat) : Nat := (l.map fun i => 2 ^ i).sum
theorem bitsS_snoc (l : List Nat) (k : Nat) : bitsS (l ++ [k]) = bitsS l + 2 ^ k := by simp [bitsS]
theorem hasB_bit (s i : Nat) : hasB s i = s.testBit i := by
  unfold hasB
  rw [Nat.testBit_eq_decide_div_mod_eq]
  rw [Bool.eq_iff_iff]; simp
/-- A list that ascends, as it is put together. -/
def Asc (l : List Nat) (n : Nat) : Prop := l.Pairwise (· < ·) ∧ ∀ x ∈ l, x < n
theorem bitsS_spec : ∀ (l : List Nat) (n : Nat), Asc l n → bitsS l < 2 ^ n ∧ ∀ i, (bitsS l).testBit i = memB l i := by
  intro l
  induction h : l.length generalizing l with
  | zero =>
    intro n _
    have : l = [] := List.length_eq_zero_iff.1 h
    subst this
    exact ⟨Nat.two_pow_pos _, fun i => by simp [bitsS, memB]⟩
  | succ k ih =>
    intro n hn
    have hne : l ≠ [] := by intro e; rw [e] at h; simp at h
    obtain ⟨m, b, rfl⟩ : ∃ m b, l = m ++ [b] := ⟨l.dropLast, l.getLast hne, (List.dropLast_concat_getLast hne).symm⟩
    obtain ⟨h1, h2⟩ := hn
    rw [List.pairwise_append] at h1
    have hb := h2 b (by simp)
    obtain ⟨i1, i2⟩ := ih m (by simpa using h) b ⟨h1.1, fun x hx => h1.2.2 x hx b (by simp)⟩
    rw [bitsS_snoc]
    refine ⟨?_, fun i => ?_⟩
    · have : 2 ^ (b + 1) ≤ 2 ^ n := Nat.pow_le_pow_right (by omega) hb
      rw [Nat.pow_succ] at this
      omega
    · rw [Nat.add_comm]
      have hm : memB (m ++ [b]) i = (memB m i || i == b) := by unfold memB; rw [Bool.eq_iff_iff]; simp
      rw [hm, ← i2 i]
      rcases Nat.lt_trichotomy i b with hlt | heq | hgt
      · rw [Nat.testBit_two_pow_add_gt hlt]
        have : (i == b) = false := by simp; omega
        rw [this, Bool.or_false]
      · subst heq
        rw [Nat.testBit_two_pow_add_eq, Nat.testBit_lt_two_pow i1]
        simp
      · have hlt2 : 2 ^ b + bitsS m < 2 ^ i := by
          have : 2 ^ (b + 1) ≤ 2 ^ i := Nat.pow_le_pow_right (by omega) hgt
          rw [Nat.pow_succ] at this
          omega
        have hlt3 : bitsS m < 2 ^ i := by have := Nat.two_pow_pos b; omega
        rw [Nat.testBit_lt_two_pow hlt2, Nat.testBit_lt_two_pow hlt3]
        have : (i == b) = false := by simp; omega
        rw [this]; rfl
theorem bitsS_has {l : List Nat} {n : Nat} (h : Asc l n) (i : Nat) : hasB (bitsS l) i = memB l i := by rw [hasB_bit]; exact (bitsS_spec l n h).2 i
theorem asc_unique {l m : List Nat} (hl : l.Pairwise (· < ·)) (hm : m.Pairwise (· < ·)) (h : ∀ x, x ∈ l ↔ x ∈ m) : l = m := by
  induction l generalizing m with
  | nil =>
    cases m with
    | nil => rfl
    | cons y m => exact absurd ((h y).2 (by simp)) (by simp)
  | cons x l ih =>
    cases m with
    | nil => exact absurd ((h x).1 (by simp)) (by simp)
    | cons y m =>
      rw [List.pairwise_cons] at hl hm
      have exy : x = y := by
        have h1 := (h x).1 (by simp)
        have h2 := (h y).2 (by simp)
        rcases List.mem_cons.1 h1 with e | h1
        · exact e
        · rcases List.mem_cons.1 h2 with e | h2
          · exact e.symm
          · have := hm.1 x h1; have := hl.1 y h2; omega
      subst exy
      rw [ih hl.2 hm.2 fun z => ?_]
      have hz := h z
      constructor
      · intro hzl
        rcases List.mem_cons.1 (hz.1 (List.mem_cons_of_mem _ hzl)) with e | e
        · subst e; have := hl.1 z hzl; omega
        · exact e
      · intro hzm
        rcases List.mem_cons.1 (hz.2 (List.mem_cons_of_mem _ hzm)) with e | e
        · subst e; have := hm.1 z hzm; omega
        · exact e
/-- The list of a number's bits is the list that the number was made of. -/
theorem bitsS_list {l : List Nat} {n k : Nat} (h : Asc l n) (hk : n ≤ k) : (List.range k).filter (hasB (bitsS l)) = l := by
  refine asc_unique (List.Pairwise.filter _ List.pairwise_lt_range) h.1 fun x => ?_
  rw [List.mem_filter, List.mem_range, bitsS_has h]
  unfold memB
  simp only [List.contains_iff_mem]
  exact ⟨fun hx => hx.2, fun hx => ⟨by have := h.2 x hx; omega, hx⟩⟩
theorem bitsS_many {l : List Nat} {n : Nat} (h : Asc l n) (hn : n ≤ 8) : manyN (bitsS l) 8 = l.length := by
  unfold manyN; rw [bitsS_list h hn]
theorem bitsS_le {l : List Nat} {n : Nat} (h : Asc l n) (hn : n ≤ 8) : bitsS l ≤ 256 := by
  have := (bitsS_spec l n h).1
  have h2 : 2 ^ n ≤ 2 ^ 8 := Nat.pow_le_pow_right (by omega) hn
  omega
theorem asc_take {l : List Nat} {n : Nat} (h : Asc l n) (k : Nat) : Asc (l.take k) n := ⟨h.1.sublist (List.take_sublist _ _), fun x hx => h.2 x (List.mem_of_mem_take hx)⟩
theorem asc_len8 {l : List Nat} {n : Nat} (h : Asc l n) : l.length ≤ n := by
  have := asc_len (a := 0) (n := n) h.1 fun y hy => ⟨Nat.zero_le _, h.2 y hy⟩
  omega
/-- The first papers of any set, at most f of them. -/
def firstF (any f : Nat) : Nat → List Nat
  | 0 => []
  | k + 1 => if hasB any k = true ∧ (firstF any f k).length < f then firstF any f k ++ [k] else firstF any f k
theorem firstF_spec (any f : Nat) : ∀ k, Asc (firstF any f k) k ∧ (firstF any f k).length ≤ f := by
  intro k
  induction k with
  | zero => exact ⟨⟨by simp [firstF], by simp [firstF]⟩, by simp [firstF]⟩
  | succ k ih =>
    obtain ⟨⟨i1, i2⟩, i3⟩ := ih
    unfold firstF
    split
    · rename_i hc
      refine ⟨⟨?_, fun x hx => ?_⟩, by simp; omega⟩
      · rw [List.pairwise_append]
        exact ⟨i1, by simp, fun a ha b hb => by rw [List.mem_singleton] at hb; subst hb; exact i2 a ha⟩
      · rcases List.mem_append.1 hx with hx | hx
        · have := i2 x hx; omega
        · rw [List.mem_singleton] at hx; omega
    · exact ⟨⟨i1, fun x hx => by have := i2 x hx; omega⟩, i3⟩
theorem firstF_in (any f n : Nat) : firstF any f n ∈ setsTo n (min f n + 1) := by
  obtain ⟨h1, h2⟩ := firstF_spec any f n
  rw [mem_setsTo]
  have := asc_len8 h1
  exact ⟨by omega, h1.1, h1.2⟩

/-! What Forged answers is a smallest set. -/
theorem combs_lens (n k f : Nat) : ∀ l ∈ combs n k f, l.length = k := fun l h => ((mem_combs n k f l).1 h).1
theorem setsTo_asc (n : Nat) : ∀ m, (setsTo n m).Pairwise fun a b => a.length ≤ b.length := by
  intro m
  induction m with
  | zero => simp [setsTo]
  | succ m ih =>
    rw [setsTo_succ, List.pairwise_append]
    refine ⟨ih, ?_, fun a ha b hb => ?_⟩
    · refine List.Pairwise.imp_of_mem (R := fun _ _ => True) ?_ (List.pairwise_of_forall fun _ _ => trivial)
      intro a b ha hb _
      rw [combs_lens n m 0 a ha, combs_lens n m 0 b hb]
      exact Nat.le_refl _
    · have h1 := ((mem_setsTo n m a).1 ha).1
      rw [combs_lens n m 0 b hb]
      omega
theorem find_least {l : List (List Nat)} {p : List Nat → Bool} {s : List Nat} (hp : l.Pairwise fun a b => a.length ≤ b.length) (h : l.find? p = some s) : ∀ t ∈ l, p t = true → s.length ≤ t.length := by
  intro t ht hpt
  rw [List.find?_eq_some_iff_append] at h
  obtain ⟨_, l1, l2, e, hno⟩ := h
  subst e
  rw [List.pairwise_append] at hp
  rcases List.mem_append.1 ht with ht | ht
  · have := hno t ht
    rw [hpt] at this
    simp at this
  · rcases List.mem_cons.1 ht with e | ht
    · rw [e]; exact Nat.le_refl _
    · exact (List.pairwise_cons.1 hp.2.1).1 t ht
theorem forgedF_some {first : ByteArray} {ps : List Pap} {o : List Nat} {f : Nat} {name : ByteArray} {s : List Nat} (h : forgedF first ps o f name = some s) : Asc s ps.length ∧ s.length ≤ f ∧ ownerL first ps o s = name ∧ ∀ t, t ∈ setsTo ps.length (min f ps.length + 1) → ownerL first ps o t = name → s.length ≤ t.length := by
  unfold forgedF at h
  have h1 := List.find?_some h
  have h2 := List.mem_of_find?_eq_some h
  rw [mem_setsTo] at h2
  refine ⟨⟨h2.2.1, h2.2.2⟩, by omega, toList_inj (by simpa using h1), fun t ht e => find_least (setsTo_asc _ _) h t ht (by rw [e]; simp)⟩
theorem forgedF_seen {first : ByteArray} {ps : List Pap} {o : List Nat} {f : Nat} {name : ByteArray} (h : Seen first ps o (setsTo ps.length (min f ps.length + 1)) (bs name)) : ∃ s, forgedF first ps o f name = some s := by
  obtain ⟨t, ht, e⟩ := h
  cases hh : forgedF first ps o f name with
  | some s => exact ⟨s, rfl⟩
  | none =>
    exfalso
    unfold forgedF at hh
    rw [List.find?_eq_none] at hh
    have := hh t ht
    rw [toList_bs, toList_bs, e] at this
    simp at this
theorem nodup_lenA {α : Type} [DecidableEq α] : ∀ {l m : List α}, l.Nodup → (∀ x ∈ l, x ∈ m) → l.length ≤ m.length := by
  intro l
  induction l with
  | nil => intro m _ _; simp
  | cons a l ih =>
    intro m h1 h2
    rw [List.nodup_cons] at h1
    have ha := h2 a (by simp)
    have := ih (m := m.erase a) h1.2 fun x hx => (List.mem_erase_of_ne (fun e => h1.1 (by rw [← e]; exact hx))).2 (h2 x (by simp [hx]))
    rw [List.length_erase_of_mem ha] at this
    have hp : 0 < m.length := List.length_pos_of_mem ha
    simp only [List.length_cons]
    omega
theorem owners_fewA {first : ByteArray} {ps : List Pap} {o : List Nat} {pre : List (List Nat)} {os : List (List UInt8)} (hs : os.Pairwise (· < ·)) (h : ∀ x, x ∈ os ↔ Seen first ps o pre x) : os.length ≤ ps.length + 1 := by
  have hn : os.Nodup := hs.imp fun {a b} hab e => by subst e; exact List.lt_irrefl _ hab
  have := nodup_lenA (m := bs first :: ps.map fun p => bs p.dst) hn fun x hx => by
    obtain ⟨s, _, e⟩ := (h x).1 hx
    rcases ownerL_cases first ps s o first (.inl rfl) with e2 | ⟨p, hp, e2⟩
    · rw [← e, e2]; simp
    · rw [← e, e2]; exact List.mem_cons_of_mem _ (List.mem_map.2 ⟨p, hp, rfl⟩)
  simpa using this
end Go.Proofs.Ytblbbhenmhkknaa

namespace Go.Proofs.Ytblbbhenmhkknaa
open Go.RowKit Go.Sort

set_option maxRecDepth 100000 in
set_option maxHeartbeats 2000000 in
theorem dated_any (first : ByteArray) (A : Option Addr) (ps : List Pap) (B cap : Nat) (forged day : Int) (w : World) (hf : first.size ≤ maxLen) (hm : ps.length ≤ maxLen) (hok : PapsOk ps) (hR : RdN 3 encPap w B A ps) (hB : B ≤ w.heap.size) :
    Calls Try.prog 62 #[.agg #[.string first, .slice A ps.length cap, .int .i64 forged], .int .i64 day] w fun e w' => e = .returned (iv (openE first ps forged day)) ∧ Below w.heap.size w w' := by
  have hb0 : Below w.heap.size w _ := belowA (belowR w) (.cells #[.string first, .slice A ps.length cap, .int .i64 forged] 24)
  have hop := refCheckShip_any first A ps B cap forged (w.alloc (.cells #[.string first, .slice A ps.length cap, .int .i64 forged] 24)) hf hm hok (hR.below hb0 hB) (Nat.le_trans hB hb0.size)
  obtain ⟨a1, a2, E, hE3⟩ : ∃ a b c, shipE first ps forged = (a, b, c) := ⟨_, _, _, rfl⟩
  have hEE : shipErr first ps forged = E := by unfold shipErr; rw [hE3]
  rw [hE3] at hop
  unfold ret3 at hop
  simp only at hop
  have HOP := Lib.hid hop
  have ho : openE first ps forged day = if E = 0 then (if inB 0 40000 day then 0 else 7) else E := by unfold openE; rw [hEE]
  rw [ho]
  clear hop hEE hE3 ho
  by_cases hE : E = 0
  · subst hE
    rw [if_pos rfl]
    cases hin : inB 0 40000 day
    · have HIN := Lib.hid hin
      clear hin
      go_enter Try.func62, Try.ntmps62
      go_wp2_with fail
      refine HOP.out.mono ?_
      rintro e w1 ⟨rfl, hb⟩
      have hB1 := belowT hb0 hb
      clear hb hb0
      go_wp2_with fail
      refine (in_any day 0 40000 _).mono ?_
      rintro e w2 ⟨he, rfl⟩
      rw [HIN.out] at he
      subst he
      go_wp2
      go_ret
      exact ⟨rfl, hB1⟩
    · have HIN := Lib.hid hin
      clear hin
      go_enter Try.func62, Try.ntmps62
      go_wp2_with fail
      refine HOP.out.mono ?_
      rintro e w1 ⟨rfl, hb⟩
      have hB1 := belowT hb0 hb
      clear hb hb0
      go_wp2_with fail
      refine (in_any day 0 40000 _).mono ?_
      rintro e w2 ⟨he, rfl⟩
      rw [HIN.out] at he
      subst he
      go_wp2
      go_ret
      exact ⟨rfl, hB1⟩
  · rw [if_neg hE]
    have hne : (E == 0) = false := by simpa using hE
    go_enter Try.func62, Try.ntmps62
    go_wp2_with fail
    refine HOP.out.mono ?_
    rintro e w1 ⟨rfl, hb⟩
    have hB1 := belowT hb0 hb
    clear hb hb0 hE
    go_wp2
    go_ret
    exact ⟨rfl, hB1⟩

/-- The papers of a set, ascending. -/
def papersL (s k : Nat) : List Nat := (List.range k).filter (hasB s)
theorem papersL_succ (s k : Nat) : papersL s (k + 1) = papersL s k ++ if hasB s k then [k] else [] := by
  unfold papersL
  rw [List.range_succ, List.filter_append]
  cases h : hasB s k <;> simp [h]
theorem papersL_len (s k : Nat) : (papersL s k).length ≤ k := by
  unfold papersL; exact Nat.le_trans (List.length_filter_le _ _) (by simp)

def PapersPost (s : Nat) (w : World) (e : Ending) (w' : World) : Prop :=
  ∃ v, e = .returned v ∧ w'.ownsRow w.heap.size 3 1 v (papersL s 8).length ((papersL s 8).map nv) ∧ Below w.heap.size w w'

set_option maxRecDepth 100000 in
set_option maxHeartbeats 2000000 in
theorem papers_any (s : Nat) (w : World) (hs : s ≤ 65536) : Calls Try.prog 65 #[.int .i64 s] w (PapersPost s w) := by
  obtain ⟨i3, hi3, hz30, hz31, hz32⟩ := info_parts Try.info3
  go_enter Try.func65, Try.ntmps65
  go_wp2
  go_loopw [3, 4] (fun vo vi wr => ∃ (k : Nat) (v : Value), k ≤ 8 ∧ vi = .int .i64 k ∧ vo = v ∧ Hid (wr.ownsRow w.heap.size 3 1 v (papersL s k).length ((papersL s k).map nv)) ∧ Below w.heap.size w wr) (fun _ vi _ => 8 - (intOf vi).toNat)
  case atStart => exact ⟨0, _, by omega, rfl, rfl, Lib.hid (World.ownsRow_nil _ _ _ _), belowR _⟩
  case round =>
    obtain ⟨k, v, hk, rfl, rfl, OWN, hbw⟩ := hrel
    have hzr := hbw.size
    by_cases hlt : k < 8
    · have hsn := papersL_succ s k
      have hlen := papersL_len s k
      have hca := fun W => has_any s k W hs (by omega)
      obtain ⟨P, hP⟩ : ∃ P, papersL s k = P := ⟨_, rfl⟩
      rw [hP] at hsn hlen OWN
      have HBW := Lib.hid hbw
      cases hh : hasB s k
      · rw [hh] at hsn hca
        simp only [Bool.false_eq_true, if_false, List.append_nil] at hsn
        have HSN := Lib.hid hsn
        have HCA := Lib.hid hca
        clear hsn hca hh hP hbw
        go_wp2_with fail
        refine (HCA.out _).mono ?_
        rintro e w5 ⟨rfl, rfl⟩
        go_wp2
        go_roundw
        case rel => exact ⟨k + 1, _, by omega, by go_num, rfl, Lib.hid (by rw [HSN.out]; exact OWN.out), HBW.out⟩
        case measure => simp [intOf]; omega
      · rw [hh] at hsn hca
        simp only [if_true] at hsn
        have HSN := Lib.hid hsn
        have HCA := Lib.hid hca
        clear hsn hca hh hP hbw
        go_wp2_with fail
        refine (HCA.out _).mono ?_
        rintro e w5 ⟨rfl, rfl⟩
        go_wp2_with (at_builtin; refine wpList_append_own _ rfl _ _ 32 rfl w.heap.size 3 i3 (.int .i64 0) 1 8 Try.underlying32 hi3 hz30 hz31 hz32 rfl (by decide) _ _ _ rfl (OWN.out.alloc _) ⟨wr.heap.size, 0, none⟩ 1 1 [.int .i64 k] rfl rfl ?c1 ?c2 ?c3 ?c4 ?c5 ?_)
        case c1 => exact one_new _ _ _
        case c2 => simp [Value.oneCell']
        case c3 => unfold maxLen; omega
        case c4 => omega
        case c5 => simp; omega
        intro v' w5 hown5 hgrow _
        have hB5 : Below w.heap.size w w5 := grownB (OWN.out.alloc _) hgrow (Nat.le_refl _) (belowA HBW.out _)
        have HO5 := Lib.hid hown5
        clear hown5 hgrow
        go_wp2
        go_roundw
        case rel => exact ⟨k + 1, v', by omega, by go_num, rfl, Lib.hid (by rw [HSN.out, List.map_append, List.length_append]; exact HO5.out), hB5⟩
        case measure => simp [intOf]; omega
    · obtain rfl : k = 8 := by omega
      go_wp2
      go_ret
      exact ⟨_, rfl, OWN.out, hbw⟩
end Go.Proofs.Ytblbbhenmhkknaa
