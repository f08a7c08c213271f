/- The loop over the sets of papers: what the loop owes, and what it gives. claim.sets and claim.Forged. Owners: what the claims are made by; bounds. No program is walked here. -/
import Derived.RangeFuncWrites
import Derived.Test.YtblbbhenmhkknaaYIt2
namespace Go.Proofs.Ytblbbhenmhkknaa
open Go.RowKit Go.Shelf
attribute [local go_sem] Oper.semAt_some

theorem below_putObj {B : Nat} (X : World) {k : Nat} (hk : B ≤ k) (o : Obj) : Below B X (X.putObj k o) :=
  ⟨rfl, rfl, rfl, by simp [World.putObj], fun i hi => World.putObj_heap_other (by omega)⟩
theorem Hands.put {s : List Nat} {v : Value} {W : World} (h : Hands s v W) {k : Nat} {o : Obj} (ho : W.heap[k]? = some o) (hc : o.isCells = false) (o' : Obj) : Hands s v (W.putObj k o') := by
  obtain ⟨A, cap, rfl, hr⟩ := h
  refine ⟨A, cap, rfl, fun i x hx => ?_⟩
  obtain ⟨b, off, rfl, hlt, hcell⟩ := hr i x hx
  refine ⟨b, off, rfl, by simpa [World.putObj] using hlt, ?_⟩
  have hne : b ≠ k := by
    rintro rfl
    simp only [World.cell?, ho] at hcell
    cases o <;> simp_all [Obj.isCells]
  have e : (W.putObj k o').heap[b]? = W.heap[b]? := World.putObj_heap_other (by omega)
  simp only [World.cell?, e] at hcell ⊢
  exact hcell

/-- How a round's body may be left. -/
def roundOut (bw sb : Nat) (I : List (List Nat) → World → Prop) (Ix : List (List Nat) → World → Prop) (xs : List (List Nat)) (W : World) : Exit → Act → World → Prop
  | .normal, _, W' => KeepB bw sb W W' ∧ I xs W'
  | .ret, _, W' => KeepB bw sb W W' ∧ Ix xs W'
  | _, _, _ => False

theorem KeepB.trans {bw sb : Nat} {X Y Z : World} (h : KeepB bw sb X Y) (k : KeepB bw sb Y Z) : KeepB bw sb X Z :=
  ⟨Nat.le_trans h.size k.size, fun i hi hlt => (k.same i hi (Nat.lt_of_lt_of_le hlt h.size)).trans (h.same i hi hlt)⟩
theorem KeepB.mono {bw bw' sb : Nat} {X Y : World} (h : KeepB bw sb X Y) (hb : bw ≤ bw') : KeepB bw' sb X Y :=
  ⟨h.size, fun i hi hlt => h.same i (hi.imp (fun h => Nat.le_trans hb h) id) hlt⟩
theorem KeepB.put (bw sb : Nat) (W : World) (k : Nat) (o : Obj) (h1 : k < bw) (h2 : k ≠ sb) : KeepB bw sb W (W.putObj k o) :=
  ⟨by simp [World.putObj], fun i hi _ => World.putObj_heap_other (by rcases hi with hi | rfl <;> omega)⟩

theorem rangeFunc_sets {p : Tmp} {g : Operand} {assign body : Code} {Q : Exit → Act → World → Prop} {a : Act} {w : World} (n sb N f : Nat) (first : ByteArray) (A' : Option Addr) (capP : Nat) (vo : Value)
    (hg : a.eval g = .func (.func 95) #[] #[.pointer (some ⟨sb, 0, none⟩)]) (hsb : Blk w sb 96 #[.string first, .slice A' N capP, .int .i64 f, vo]) (hN : N ≤ 8) (hf : f ≤ 8)
    (I Ix : List (List Nat) → World → Prop) (hI : ∀ s W1 W2, I s W1 → Below w.heap.size W1 W2 → I s W2) (hIx : ∀ s W1 W2 k, (k = w.heap.size + 1 ∨ k = w.heap.size + 4) → Ix s W1 → W1.grownBy W2 (some k) → Ix s W2) (h0 : I [] w)
    (hbody : ∀ (m l : Nat) (pre : List (List Nat)) (s : List Nat) (v : Value) (W : World), I pre W → Hands s v W → pre ++ [s] <+: setsTo N (min f N + 1) → w.heap.size + 4 < W.heap.size → Blk W sb 96 #[.string first, .slice A' N capP, .int .i64 f, vo] →
      assign.wpIn (Fence.wide.inRound l) m Try.prog (Exit.then (fun a1 W1 => W1 = W ∧ ∀ W2, I pre W2 → Hands s v W2 → w.heap.size + 4 < W2.heap.size → Blk W2 sb 96 #[.string first, .slice A' N capP, .int .i64 f, vo] → body.wpIn (Fence.wide.inRound l) m Try.prog (roundOut w.heap.size sb I Ix (pre ++ [s]) W2) a1 W2) (fun _ _ _ => False)) { tmps := a.tmps.setIfInBounds p v, defers := [] } W)
    (hdone : ∀ (W : World), I (setsTo N (min f N + 1)) W → w.heap.size + 2 ≤ W.heap.size → W.heap[w.heap.size]? = some (.deferred (some [])) → Q .normal { a with defers := { target := .collected w.heap.size, args := #[] } :: a.defers } W)
    (hstop : ∀ (pre : List (List Nat)) (W : World), pre <+: setsTo N (min f N + 1) → Ix pre W → w.heap.size + 2 ≤ W.heap.size → W.heap[w.heap.size]? = some (.deferred (some [])) → Code.ret.wpIn Fence.wide n Try.prog Q { a with defers := { target := .collected w.heap.size, args := #[] } :: a.defers } W) :
    (Code.rangeFunc g #[p] assign body).wpIn Fence.wide n Try.prog Q a w := by
  have hslt := hsb.lt
  refine wpIn_rangeFunc ?_
  intro fn hfn
  obtain ⟨rec, hrec⟩ : ∃ rec : LoopState → Option Code → Loop, rec = fun st pe => { state := st, pending := pe, fn, tmps := a.tmps, params := #[p], assign, body, defers := w.heap.size } := ⟨_, rfl⟩
  obtain ⟨W1, hW1⟩ : ∃ W1, (w.alloc (.deferred (some []))).alloc (.loop (rec .ready none)) = W1 := ⟨_, rfl⟩
  have hL1 : W1.heap[w.heap.size + 1]? = some (.loop (rec .ready none)) := by
    rw [← hW1]; have := World.alloc_heap_new (w.alloc (.deferred (some []))) (.loop (rec .ready none)); rwa [World.size_alloc] at this
  have hK1 : W1.heap[w.heap.size]? = some (.deferred (some [])) := by
    rw [← hW1]; exact (Below.heap_alloc _ _ _ (by simp)).trans (World.alloc_heap_new w _)
  have hb1 : Below w.heap.size w W1 := by
    rw [← hW1]; exact ((Below.refl _ w).alloc (Nat.le_refl _) _).alloc (by simp) _
  have hs1 : W1.heap.size = w.heap.size + 2 := by rw [← hW1]; simp
  have hI1 : I [] W1 := hI _ _ _ h0 hb1
  have hsb1 : Blk W1 sb 96 #[.string first, .slice A' N capP, .int .i64 f, vo] := hsb.same (hb1.block _ hslt)
  refine ⟨w.heap.size + 1, [{ target := .collected w.heap.size, args := #[] }], W1, { target := .fn (.func 95) #[.pointer (some ⟨sb, 0, none⟩)], args := #[.func (.yield (w.heap.size + 1)) #[] #[]] }, W1, 95,
    #[.func (.yield (w.heap.size + 1)) #[] #[]] ++ #[.pointer (some ⟨sb, 0, none⟩)], W1, ?_, ?_, ?_, ?_, hdd _, ?_⟩
  · rw [← hW1, hrec]; exact run_enterLoop_outer _ _ _ _ _
  · simp only [resolve, hg]
    simp [go_sem]
  · intro f' hf'; trivial
  · simp [invoke, go_sem]
  · have ready : ∀ {B : Nat} {X Y : World} {k : Nat} {o : Obj}, Below B X Y → k < B → X.heap[k]? = some o → Y.heap[k]? = some o := fun hb hk ho => (hb.block _ hk).trans ho
    refine (sets_in sb (w.heap.size + 1) N f first A' capP vo
      (fun pre W => I pre W ∧ W.heap[w.heap.size + 1]? = some (.loop (rec .ready none)) ∧ W.heap[w.heap.size]? = some (.deferred (some [])) ∧ Blk W sb 96 #[.string first, .slice A' N capP, .int .i64 f, vo])
      (fun pre W => Ix pre W ∧ W.heap[w.heap.size + 1]? = some (.loop (rec .done (some .ret))) ∧ W.heap[w.heap.size]? = some (.deferred (some [])))
      (n - 1) W1 hN hf hsb1
      (fun s A B h hb => ⟨hI s A B h.1 (hb.mono (by omega)), ready hb (by omega) h.2.1, ready hb (by omega) h.2.2.1, h.2.2.2.same (hb.block _ (by omega))⟩)
      (fun s A B h hb => ⟨hIx s A B _ (.inr (by omega)) h.1 hb, (hb.block _ (Array.getElem?_eq_some_iff.1 h.2.1).1 (fun e => by injection e with e; omega)).trans h.2.1, (hb.block _ (Array.getElem?_eq_some_iff.1 h.2.2).1 (fun e => by injection e with e; omega)).trans h.2.2⟩) ?_ ⟨hI1, hL1, hK1, hsb1⟩).mono ?_
    · rintro m pre x v W ⟨hi, hl, hk, hs⟩ hH hpre hbw hbl
      have hlt : w.heap.size + 1 < W.heap.size := (Array.getElem?_eq_some_iff.1 hl).1
      have hy : (Instr.yield (w.heap.size + 1) #[v]).run Try.prog W = .ok (.round (w.heap.size + 1) fn (a.tmps.setIfInBounds p v) assign body) W := by
        have := run_yield (P := Try.prog) (args := #[v]) hl (by rw [hrec]; rfl)
        rw [hrec] at this
        simpa using this
      refine ⟨fn, _, assign, body, hy, roundIn_of_wpIn hfn ?_⟩
      refine wpIn_mono (hbody m (w.heap.size + 1) pre x v W hi hH hpre (by omega) hs) ?_
      rintro e a1 W1' hp
      cases e with
      | normal =>
        obtain ⟨rfl, hp⟩ := hp
        refine ⟨_, run_beginRound hl (by rw [hrec]), ?_⟩
        have hl2 : (W1'.putObj (w.heap.size + 1) (.loop { rec .ready none with state := .busy })).heap[w.heap.size + 1]? = some (.loop { rec .ready none with state := .busy }) := World.putObj_heap_same hlt
        have hk2 : (W1'.putObj (w.heap.size + 1) (.loop { rec .ready none with state := .busy })).heap[w.heap.size]? = some (.deferred (some [])) := (World.putObj_heap_other (by omega)).trans hk
        refine wpIn_mono (hp _ (hI _ _ _ hi (below_putObj _ (by omega) _)) (hH.put hl rfl _) (by simp [World.putObj]; omega) (hs.same (World.putObj_heap_other (by omega)))) ?_
        have fin : ∀ (jump : Option Code) (W3 : World), KeepB w.heap.size sb (W1'.putObj (w.heap.size + 1) (.loop { rec .ready none with state := .busy })) W3 →
            (Instr.endRound (w.heap.size + 1) jump).run Try.prog W3 = .ok (.bool jump.isNone) (W3.putObj (w.heap.size + 1) (.loop (rec (if jump.isNone then .ready else .done) jump))) ∧
            (W3.putObj (w.heap.size + 1) (.loop (rec (if jump.isNone then .ready else .done) jump))).heap[w.heap.size + 1]? = some (.loop (rec (if jump.isNone then .ready else .done) jump)) ∧
            (W3.putObj (w.heap.size + 1) (.loop (rec (if jump.isNone then .ready else .done) jump))).heap[w.heap.size]? = some (.deferred (some [])) ∧
            Blk (W3.putObj (w.heap.size + 1) (.loop (rec (if jump.isNone then .ready else .done) jump))) sb 96 #[.string first, .slice A' N capP, .int .i64 f, vo] ∧
            KeepB W1.heap.size sb W1' (W3.putObj (w.heap.size + 1) (.loop (rec (if jump.isNone then .ready else .done) jump))) := fun jump W3 hk3 => by
          have hl3 : W3.heap[w.heap.size + 1]? = some (.loop { rec .ready none with state := .busy }) := (hk3.same _ (.inl (by omega)) (by simp [World.putObj]; omega)).trans hl2
          have hd3 : W3.heap[w.heap.size]? = some (.deferred (some [])) := (hk3.same _ (.inl (by omega)) (by simp [World.putObj]; omega)).trans hk2
          have hs3 : Blk W3 sb 96 #[.string first, .slice A' N capP, .int .i64 f, vo] := (hs.same (World.putObj_heap_other (by omega))).same (hk3.same _ (.inr rfl) (by simp [World.putObj]; omega))
          have := run_endRound (P := Try.prog) jump hl3
          rw [hrec] at this ⊢
          refine ⟨this, World.putObj_heap_same (Array.getElem?_eq_some_iff.1 hl3).1, (World.putObj_heap_other (by omega)).trans hd3, hs3.same (World.putObj_heap_other (by omega)), ?_⟩
          rw [hs1]
          exact ((KeepB.put _ sb W1' _ _ (by omega) (by omega)).trans (hk3.mono (by omega))).trans (KeepB.put _ sb W3 _ _ (by omega) (by omega))
        rintro e a3 W3 hp3
        cases e with
        | normal =>
          obtain ⟨hk3, hi3⟩ := hp3
          obtain ⟨hr, hl4, hk4, hs4, hkb⟩ := fin none W3 hk3
          exact ⟨_, _, hr, hkb, .inl ⟨rfl, hI _ _ _ hi3 (below_putObj _ (by omega) _), hl4, hk4, hs4⟩⟩
        | ret =>
          obtain ⟨hk3, hi3⟩ := hp3
          obtain ⟨hr, hl4, hk4, hs4, hkb⟩ := fin (some .ret) W3 hk3
          exact ⟨_, _, hr, hkb, .inr ⟨rfl, hIx _ _ _ _ (.inl rfl) hi3 (grownBy_putObj' _ _ _), hl4, hk4⟩⟩
        | exit id => exact hp3.elim
        | goto t => exact hp3.elim
        | panic ch => exact hp3.elim
        | outgrown => exact hp3.elim
      | ret => exact hp.elim
      | exit id => exact hp.elim
      | goto t => exact hp.elim
      | panic ch => exact hp.elim
      | outgrown => exact hp.elim
    · rintro e W2 ⟨⟨v, rfl⟩, (⟨hi, hl, hk, _⟩ | ⟨pre, hpre, hi, hl, hk⟩)⟩
      · have hlt2 := (Array.getElem?_eq_some_iff.1 hl).1
        exact ⟨none, _, by have := run_endLoop (P := Try.prog) hl (by rw [hrec]; simp); rw [hrec] at this; exact this,
          hdone _ (hI _ _ _ hi (below_putObj _ (by omega) _)) (by simp [World.putObj]; omega) ((World.putObj_heap_other (by omega)).trans hk)⟩
      · have hlt2 := (Array.getElem?_eq_some_iff.1 hl).1
        exact ⟨some .ret, _, by have := run_endLoop (P := Try.prog) hl (by rw [hrec]; simp); rw [hrec] at this; exact this,
          hstop pre _ hpre (hIx _ _ _ _ (.inl rfl) hi (grownBy_putObj' _ _ _)) (by simp [World.putObj]; omega) ((World.putObj_heap_other (by omega)).trans hk)⟩
end Go.Proofs.Ytblbbhenmhkknaa

namespace Go.Proofs.Ytblbbhenmhkknaa
open Go.RowKit Go.Shelf
attribute [local go_sem] Oper.semAt_some

set_option maxRecDepth 100000 in
set_option maxHeartbeats 1000000 in
theorem sets_any (first : ByteArray) (A A' : Option Addr) (n cap k capO : Nat) (forged : Int) (w : World) :
    Calls Try.prog 59 #[.agg #[.string first, .slice A n cap, .int .i64 forged, .slice A' k capO]] w fun e w' =>
      e = .returned (.func (.func 95) #[] #[.pointer (some ⟨w.heap.size, 0, none⟩)]) ∧ w' = w.alloc (.cells #[.string first, .slice A n cap, .int .i64 forged, .slice A' k capO] 96) := by
  go_enter Try.func59, Try.ntmps59
  go_wp2
  go_ret
  exact ⟨rfl, rfl⟩

/-- What Forged answers where the ship opens: a set, or none. -/
def forgedF (first : ByteArray) (ps : List Pap) (o : List Nat) (f : Nat) (name : ByteArray) : Option (List Nat) :=
  (setsTo ps.length (min f ps.length + 1)).find? fun s => (ownerL first ps o s).toList == name.toList

def ForgedPost (first : ByteArray) (ps : List Pap) (f : Nat) (day : Int) (name : ByteArray) (w : World) (e : Ending) (w' : World) : Prop :=
  Below w.heap.size w w' ∧ ∃ o, IsOrder ps day o ∧
    ((forgedF first ps o f name = none ∧ e = .returned (.tuple #[.slice none 0 0, iv 4])) ∨
     (∃ s A cap, forgedF first ps o f name = some s ∧ e = .returned (.tuple #[.slice A s.length cap, iv 0]) ∧ Rd1 nv w' w'.heap.size A s))

set_option maxRecDepth 100000 in
set_option maxHeartbeats 2000000 in
theorem forged_no (first : ByteArray) (A : Option Addr) (ps : List Pap) (B cap : Nat) (forged day : Int) (name : ByteArray) (w : World) (hf : first.size ≤ maxLen) (hm : ps.length ≤ maxLen) (hok : PapsOk ps) (hR : RdN 3 encPap w B A ps) (hB : B ≤ w.heap.size)
    (hE : openE first ps forged day ≠ 0) :
    Calls Try.prog 22 #[.agg #[.string first, .slice A ps.length cap, .int .i64 forged], .int .i64 day, .string name] w fun e w' => e = .returned (.tuple #[.slice none 0 0, iv (openE first ps forged day)]) ∧ Below w.heap.size w w' := by
  obtain ⟨E, hEE⟩ : ∃ E, openE first ps forged day = E := ⟨_, rfl⟩
  have hop := fun w (hR : RdN 3 encPap w B A ps) (hB : B ≤ w.heap.size) => open_no first A ps B cap forged day w hf hm hok hR hB hE
  rw [hEE] at hE hop ⊢
  have hne : (E != 0) = true := by simpa using hE
  have HOP := Lib.hid hop
  clear hop hEE hE
  go_enter Try.func22, Try.ntmps22
  go_wp2_with fail
  refine (HOP.out _ (hR.below (B' := w.heap.size) (belowA (belowA (belowA (belowA (belowR _) _) _) _) _) hB) (by simp; omega)).mono ?_
  rintro e w1 ⟨rfl, hb⟩
  have hB1 := belowT (belowA (belowA (belowA (belowA (belowR _) _) _) _) _) hb
  have z1 : w.heap.size ≤ w1.heap.size := hB1.size
  have z1l : w.heap.size + 3 < w1.heap.size := (by have := hb.size; simp only [World.size_alloc] at this; omega)
  have q2 : w1.cell? ⟨w.heap.size + 1 + 1, 0, none⟩ = some (.slice none 0 0) := keepC hb (by go_simp)
  have q3 : w1.cell? ⟨w.heap.size + 1 + 1 + 1, 0, none⟩ = some (.int .i64 0) := keepC hb (by go_simp)
  have f2 : w1.frozen? ⟨w.heap.size + 1 + 1, 0, none⟩ = false := (hb.frozen (p := ⟨w.heap.size + 2, 0, none⟩) (by simp)).trans (by go_simp)
  have f3 : w1.frozen? ⟨w.heap.size + 1 + 1 + 1, 0, none⟩ = false := (hb.frozen (p := ⟨w.heap.size + 3, 0, none⟩) (by simp)).trans (by go_simp)
  have z2 : w.heap.size + 1 + 1 < w1.heap.size := by omega
  have z3 : w.heap.size + 1 + 1 + 1 < w1.heap.size := by omega
  have g2 := fun ob => (keepAF z2 0 ob).trans f2
  have g3 := fun ob => (keepAF z3 0 ob).trans f3
  have e2 : ∀ ob, (((w1.setCell ⟨w.heap.size + 1 + 1, 0, none⟩ (.slice none 0 0)).setCell ⟨w.heap.size + 1 + 1 + 1, 0, none⟩ (.int .i64 E)).alloc ob).cell? ⟨w.heap.size + 1 + 1, 0, none⟩ = some (.slice none 0 0) := fun ob => keepA (by go_simp) ob
  have e3 : ∀ ob, (((w1.setCell ⟨w.heap.size + 1 + 1, 0, none⟩ (.slice none 0 0)).setCell ⟨w.heap.size + 1 + 1 + 1, 0, none⟩ (.int .i64 E)).alloc ob).cell? ⟨w.heap.size + 1 + 1 + 1, 0, none⟩ = some (.int .i64 E) := fun ob => keepA (by go_simp) ob
  go_wp2
  exact bodyPost_ret (v := .tuple #[.slice none 0 0, iv E]) (by simp [results, Try.results22, go_sem, e2, e3]) rfl ⟨rfl, belowA (belowS (belowS hB1 (by simp; omega) _) (by simp; omega) _) _⟩

theorem clone_any (A : Option Addr) (s : List Nat) (B cap : Nat) (w : World) (hm : s.length ≤ 1000) (hR : Rd1 nv w B A s) :
    Calls Try.prog 64 #[.slice A s.length cap] w fun e w' => ∃ v', e = .returned v' ∧ w'.ownsRow w.heap.size 3 1 v' s.length (s.map nv) ∧ Below w.heap.size w w' := by
  rcases Nat.eq_zero_or_pos s.length with h0 | h0
  · have : s = [] := List.length_eq_zero_iff.1 h0
    subst this
    cases A with
    | none =>
      refine (Go.Proofs.Try.slices_Clone_int_nil 0 cap w).mono ?_
      rintro e w' ⟨rfl, rfl⟩
      exact ⟨_, rfl, World.ownsRow_nil _ _ _ _, Below.refl _ _⟩
    | some a =>
      refine (Go.Proofs.Try.slices_Clone_int_zero a cap w).mono ?_
      rintro e w' ⟨v', rfl, h1, _, h3⟩
      exact ⟨_, rfl, h1, h3⟩
  · obtain ⟨b, off, rfl, _, _⟩ := hR 0 _ (List.getElem?_eq_getElem h0)
    refine (Go.Proofs.Try.slices_Clone_int b off s.length cap (s.map fun (n : Nat) => (n : Int)) w (by simp) (by omega) ?_).mono ?_
    · intro j hj
      have hj' : j < s.length := by simpa using hj
      obtain ⟨b2, off2, e, _, hc⟩ := hR j _ (List.getElem?_eq_getElem hj')
      injection e with e
      injection e with e1 e2
      subst e1 e2
      rw [hc]
      simp [nv, List.getD, List.getElem?_map, List.getElem?_eq_getElem hj']
    · rintro e w' ⟨v', rfl, h1, _, h3⟩
      refine ⟨_, rfl, ?_, h3⟩
      have e : ((s.map fun (n : Nat) => (n : Int)).take s.length).map (Value.int .i64) = s.map nv := by
        rw [List.take_of_length_le (by simp), List.map_map]
        rfl
      rw [e] at h1
      exact h1

theorem cell_put {W : World} {k : Nat} {o : Obj} (ho : W.heap[k]? = some o) (hc : o.isCells = false) (o' : Obj) (p : Addr) (hc2 : o'.isCells = false := by rfl) : (W.putObj k o').cell? p = W.cell? p := by
  rcases Decidable.em (p.block = k) with e | hne
  · have h1 : (W.putObj k o').heap[p.block]? = some o' := by rw [e]; exact World.putObj_heap_same (Array.getElem?_eq_some_iff.1 ho).1
    have h2 : W.heap[p.block]? = some o := by rw [e]; exact ho
    simp only [World.cell?, h1, h2]
    cases o <;> cases o' <;> simp_all [Obj.isCells]
  · have e : (W.putObj k o').heap[p.block]? = W.heap[p.block]? := World.putObj_heap_other (by omega)
    simp only [World.cell?, e]
theorem undrew {W X : World} (h : Below W.drew.heap.size W.drew X) : Below W.heap.size W X := ⟨h.os, h.tape, h.output, h.size, h.block⟩
theorem KeepB.of_below {bw sb : Nat} {W X : World} (h : Below W.heap.size W X) : KeepB bw sb W X := ⟨h.size, fun k _ hk => h.block k hk⟩
theorem KeepB.set_ {bw sb : Nat} (W : World) (c : Nat) (u : Value) (h1 : c < bw) (h2 : c ≠ sb) : KeepB bw sb W (W.setCell ⟨c, 0, none⟩ u) :=
  ⟨by simp [World.setCell], fun k hk _ => Below.heap_setCell W ⟨c, 0, none⟩ u k (by simp; rcases hk with hk | rfl <;> omega)⟩
theorem ownsRow_base {w : World} {base base' : Nat} {e : TypeId} {size n : Nat} {v : Value} {xs : List Value} (h : w.ownsRow base e size v n xs) (hb : base' ≤ base) : w.ownsRow base' e size v n xs := by
  obtain ⟨h1, h2⟩ := h
  refine ⟨h1, h2.imp id ?_⟩
  rintro ⟨g, cap, cur, h3, h4, r⟩
  exact ⟨g, cap, cur, h3, by omega, r⟩
/-- The ways of the loop in Forged: not yet found. -/
def FgNo (first : ByteArray) (ps : List Pap) (o : List Nat) (name : ByteArray) (W0 : World) (pre : List (List Nat)) (W : World) : Prop :=
  Below W0.heap.size W0 W ∧ ∀ s ∈ pre, ((ownerL first ps o s).toList == name.toList) = false
/-- Found. -/
def FgYes (first : ByteArray) (ps : List Pap) (o : List Nat) (name : ByteArray) (h : Nat) (w W0 : World) (pre : List (List Nat)) (W : World) : Prop :=
  Below w.heap.size w W ∧ ∃ p s v, pre = p ++ [s] ∧ (∀ t ∈ p, ((ownerL first ps o t).toList == name.toList) = false) ∧ ((ownerL first ps o s).toList == name.toList) = true ∧
    W.cell? ⟨h + 1 + 1, 0, none⟩ = some v ∧ W.cell? ⟨h + 1 + 1 + 1, 0, none⟩ = some (.int .i64 0) ∧ W.ownsRow (W0.heap.size + 5) 3 1 v s.length (s.map nv) ∧ h + 4 ≤ W.heap.size

set_option maxRecDepth 100000 in
set_option maxHeartbeats 4000000 in
theorem forged_yes (first : ByteArray) (A : Option Addr) (ps : List Pap) (B cap : Nat) (f : Nat) (day : Int) (name : ByteArray) (w : World) (hf : first.size ≤ maxLen) (hm : ps.length ≤ maxLen) (hok : PapsOk ps) (hR : RdN 3 encPap w B A ps) (hB : B ≤ w.heap.size)
    (hE : openE first ps f day = 0) (hf8 : f ≤ 8) (hp8 : ps.length ≤ 8) :
    Calls Try.prog 22 #[.agg #[.string first, .slice A ps.length cap, .int .i64 f], .int .i64 day, .string name] w (ForgedPost first ps f day name w) := by
  have hop := fun w (hR : RdN 3 encPap w B A ps) (hB : B ≤ w.heap.size) => open_yes first A ps B cap f day w hf hm hok hR hB hE
  have HOP := Lib.hid hop
  clear hop hE
  refine (callsIn_wide (n := 0)).1 ?_
  refine callsIn_of_wp_marks Try.func22 rfl trivial ?_ rfl
  simp only [Try.ntmps22, List.size_toArray, List.length_cons, List.length_nil, Nat.reduceAdd, Nat.reduceSub, Array.replicate_succ, Array.replicate_zero, List.push_toArray, List.append_toArray, List.nil_append, List.cons_append]
  gi_wp2_with fail
  refine ⟨trivial, rfl, (callsIn_wide.2 (HOP.out _ (hR.below (B' := w.heap.size) (belowA (belowA (belowA (belowA (belowR _) _) _) _) _) hB) (by simp; omega))).mono ?_⟩
  rintro e w1 ⟨A', capO, o, hord, rfl, hO, hb⟩
  have hB1 := belowT (belowA (belowA (belowA (belowA (belowR _) _) _) _) _) hb
  have z1 : w.heap.size ≤ w1.heap.size := hB1.size
  have z1l : w.heap.size + 3 < w1.heap.size := (by have := hb.size; simp only [World.size_alloc] at this; omega)
  have q1 : w1.cell? ⟨w.heap.size + 1, 0, none⟩ = some (.string name) := keepC hb (by go_simp)
  have q2 : w1.cell? ⟨w.heap.size + 1 + 1, 0, none⟩ = some (.slice none 0 0) := keepC hb (by go_simp)
  have q3 : w1.cell? ⟨w.heap.size + 1 + 1 + 1, 0, none⟩ = some (.int .i64 0) := keepC hb (by go_simp)
  have f2 : w1.frozen? ⟨w.heap.size + 1 + 1, 0, none⟩ = false := (hb.frozen (p := ⟨w.heap.size + 2, 0, none⟩) (by simp)).trans (by go_simp)
  have f3 : w1.frozen? ⟨w.heap.size + 1 + 1 + 1, 0, none⟩ = false := (hb.frozen (p := ⟨w.heap.size + 3, 0, none⟩) (by simp)).trans (by go_simp)
  have z2 : w.heap.size + 1 + 1 < w1.heap.size := by omega
  have z3 : w.heap.size + 1 + 1 + 1 < w1.heap.size := by omega
  have HORD := Lib.hid hord
  have HB1 := Lib.hid hB1
  have HO := Lib.hid hO
  clear hord hB1 hO hb HOP
  gi_wp2_with fail
  refine ⟨trivial, rfl, (callsIn_wide.2 (sets_any first A A' ps.length cap o.length capO f _)).mono ?_⟩
  rintro e w2 ⟨rfl, rfl⟩
  obtain ⟨W0, hW0⟩ : ∃ W0, (w1.alloc (.cells #[.string first, .slice A ps.length cap, .int .i64 f, .slice A' o.length capO] 96)).alloc (.cells #[.string first, .slice A ps.length cap, .int .i64 f, .slice A' o.length capO] 96) = W0 := ⟨_, rfl⟩
  have s0 : W0.heap.size = w1.heap.size + 2 := by rw [← hW0]; simp
  have hB2 : Below w.heap.size w W0 := by rw [← hW0]; exact belowA (belowA HB1.out _) _
  have hs0 : Blk W0 (w1.heap.size + 1) 96 #[.string first, .slice A ps.length cap, .int .i64 f, .slice A' o.length capO] := by
    rw [← hW0]
    have := Blk.new (w1.alloc (.cells #[.string first, .slice A ps.length cap, .int .i64 f, .slice A' o.length capO] 96)) 96 #[.string first, .slice A ps.length cap, .int .i64 f, .slice A' o.length capO]
    simpa using this
  have hc0 : Blk W0 w1.heap.size 96 #[.string first, .slice A ps.length cap, .int .i64 f, .slice A' o.length capO] := by
    rw [← hW0]
    exact (Blk.new w1 96 _).alloc _
  have hO0 : Rd1 nv W0 w1.heap.size A' o := by rw [← hW0]; exact (HO.out.alloc (Nat.le_refl _) _).alloc (by simp) _
  have r1 : W0.cell? ⟨w.heap.size + 1, 0, none⟩ = some (.string name) := by rw [← hW0]; exact keepA (keepA q1 _) _
  have r2 : W0.cell? ⟨w.heap.size + 1 + 1, 0, none⟩ = some (.slice none 0 0) := by rw [← hW0]; exact keepA (keepA q2 _) _
  have r3 : W0.cell? ⟨w.heap.size + 1 + 1 + 1, 0, none⟩ = some (.int .i64 0) := by rw [← hW0]; exact keepA (keepA q3 _) _
  have g2 : W0.frozen? ⟨w.heap.size + 1 + 1, 0, none⟩ = false := by rw [← hW0]; exact (keepAF (by simp; omega) 0 _).trans ((keepAF z2 0 _).trans f2)
  have g3 : W0.frozen? ⟨w.heap.size + 1 + 1 + 1, 0, none⟩ = false := by rw [← hW0]; exact (keepAF (by simp; omega) 0 _).trans ((keepAF z3 0 _).trans f3)
  have hN8 := hp8
  simp only [World.size_alloc]
  rw [hW0]
  clear hW0
  have HX : Hid (first.size ≤ maxLen ∧ RdN 3 encPap w B A ps ∧ B ≤ w.heap.size) := Lib.hid ⟨hf, hR, hB⟩
  have hoid : ∀ x ∈ o, x < ps.length := fun x hx => ((HORD.out.mem x).1 hx).1
  have hol : o.length ≤ 8 := Nat.le_trans HORD.out.len hp8
  clear hf hm hok q1 q2 q3 f2 f3 HO HB1
  gi_wp2
  refine rangeFunc_sets _ (w1.heap.size + 1) ps.length f first A cap (.slice A' o.length capO) rfl hs0 hp8 hf8 (FgNo first ps o name W0) (FgYes first ps o name w.heap.size w W0) ?_ ?_ ⟨Below.refl _ _, by simp⟩ ?_ ?_ ?_
  · exact fun s A B h hb => ⟨h.1.trans hb, h.2⟩
  · rintro pre X Y k hk ⟨h1, p, s, v, rfl, h2, h3, h4, h5, h6, h7⟩ hg
    refine ⟨h1.grown hg h1.size (fun j e => by injection e with e; omega), p, s, v, rfl, h2, h3, hg.cell h4 (by simp; omega), hg.cell h5 (by simp; omega), h6.kept hg (.inr (fun e => by have := (h6.lt k e).1; omega)), Nat.le_trans h7 hg.size⟩
  · intro m l pre s v W hI hH hpre hbw hsb
    gi_wp2
    refine ⟨trivial, ?_⟩
    clear hI hH hsb hbw W
    intro W hI hH hbw hsb
    obtain ⟨S, capS, rfl, hS⟩ := hH
    have hsl : s.length ≤ 1000 := by
      have hmem := hpre.subset (List.mem_append_right pre (List.mem_singleton.2 rfl))
      rw [mem_setsTo] at hmem
      omega
    have hmx : Try.prog.follows .mixedOrders = true := by kernel_rfl
    obtain ⟨hIb, hIn⟩ := hI
    have b0 := hc0.same (hIb.block _ hc0.lt)
    have c0 : W.drew.cell? ⟨w1.heap.size, 0, none⟩ = some (.string first) := b0.cell 0
    have c1 : W.drew.cell? ⟨w1.heap.size, 1, none⟩ = some (.slice A ps.length cap) := b0.cell 1
    have c2 : W.drew.cell? ⟨w1.heap.size, 2, none⟩ = some (.int .i64 f) := b0.cell 2
    have c3 : W.drew.cell? ⟨w1.heap.size, 3, none⟩ = some (.slice A' o.length capO) := b0.cell 3
    have c4 : W.drew.cell? ⟨w.heap.size + 1, 0, none⟩ = some (.string name) := keepC hIb r1
    have hz0 := HX.out.2.2
    have HRW : Hid (RdN 3 encPap W.drew W.heap.size A ps) := Lib.hid (((HX.out.2.1.below hB2 hz0).below hIb (by have := hB2.size; omega)).more (by have := hB2.size; have := hIb.size; omega))
    have HOW : Hid (Rd1 nv W.drew W.heap.size A' o) := Lib.hid ((hO0.below hIb (by omega)).more (by have := hIb.size; omega))
    have HSW : Hid (Rd1 nv W.drew W.heap.size S s) := Lib.hid hS
    clear hS
    cases hq : ((ownerL first ps o s).toList == name.toList)
    · gi_wp2
      gi_region_with_o (refine ⟨trivial, hdd _, (CallsIn.inRound l (callsIn_wide.2 (owner_any first A A' S ps o s W.heap.size cap capO capS f W.drew hol hsl hoid HRW.out HOW.out HSW.out (Nat.le_refl _)))).mono ?_⟩; rintro e w3 ⟨rfl, hb3⟩; have d0 := keepC hb3 c0; have d1 := keepC hb3 c1; have d2 := keepC hb3 c2; have d3 := keepC hb3 c3; have d4 := keepC hb3 c4)
      all_goals gi_wp2
      all_goals exact ⟨KeepB.of_below (undrew hb3), hIb.trans ((undrew hb3).mono hIb.size), fun t ht => by
        rcases List.mem_append.1 ht with ht | ht
        · exact hIn t ht
        · rw [List.mem_singleton.1 ht]; exact hq⟩
    · gi_wp2
      gi_region_with_o (refine ⟨trivial, hdd _, (CallsIn.inRound l (callsIn_wide.2 (owner_any first A A' S ps o s W.heap.size cap capO capS f W.drew hol hsl hoid HRW.out HOW.out HSW.out (Nat.le_refl _)))).mono ?_⟩; rintro e w3 ⟨rfl, hb3⟩; have d0 := keepC hb3 c0; have d1 := keepC hb3 c1; have d2 := keepC hb3 c2; have d3 := keepC hb3 c3; have d4 := keepC hb3 c4)
      all_goals
        have hb3' := undrew hb3
        have HS3 : Hid (Rd1 nv w3 W.heap.size S s) := Lib.hid (Rd1.below HSW.out hb3 (Nat.le_refl _))
        clear hb3 d0 d1 d2 d3 d4
        gi_wp2_with fail
        refine ⟨trivial, hdd _, (CallsIn.inRound l (callsIn_wide.2 (clone_any S s W.heap.size capS w3 hsl HS3.out))).mono ?_⟩
        rintro e w4 ⟨v4, rfl, hown, hb4⟩
        obtain ⟨A4, cap4, rfl, _⟩ := own_rd1 hown
        have k2 : w4.cell? ⟨w.heap.size + 1 + 1, 0, none⟩ = some (.slice none 0 0) := keepC hb4 (keepC hb3' (keepC hIb r2))
        have k3 : w4.cell? ⟨w.heap.size + 1 + 1 + 1, 0, none⟩ = some (.int .i64 0) := keepC hb4 (keepC hb3' (keepC hIb r3))
        have m2 : w4.frozen? ⟨w.heap.size + 1 + 1, 0, none⟩ = false := (keepF hb4 (keepC hb3' (keepC hIb r2))).trans ((keepF hb3' (keepC hIb r2)).trans ((keepF hIb r2).trans g2))
        have m3 : w4.frozen? ⟨w.heap.size + 1 + 1 + 1, 0, none⟩ = false := (keepF hb4 (keepC hb3' (keepC hIb r3))).trans ((keepF hb3' (keepC hIb r3)).trans ((keepF hIb r3).trans g3))
        have hsz3 := hb3'.size
        have hsz4 := hb4.size
        have HOWN := Lib.hid hown
        have HB4 := Lib.hid hb4
        have HB3 := Lib.hid hb3'
        clear hown hb4 hb3'
        gi_wp2
        have hbB : Below w.heap.size w w4 := (hB2.trans (hIb.mono hB2.size)).trans ((HB3.out.mono (by have := hB2.size; omega)).trans (HB4.out.mono (by have := hB2.size; omega)))
        have hw4 : ∀ k, (Value.slice A4 s.length cap4).ownBlock = some k → w3.heap.size ≤ k := fun k e => (HOWN.out.lt k e).1
        refine ⟨(((KeepB.of_below HB3.out).trans (KeepB.of_below HB4.out)).trans (KeepB.set_ _ _ _ (by omega) (by omega))).trans (KeepB.set_ _ _ _ (by omega) (by omega)), ?_⟩
        refine ⟨belowS (belowS hbB (by simp; omega) _) (by simp; omega) _, pre, s, .slice A4 s.length cap4, rfl, hIn, hq, ?_, ?_, ?_, ?_⟩
        · go_simp
        · go_simp
        · refine ((ownsRow_base HOWN.out (by omega)).kept (grownSet _ _ _) (.inr (fun e => ?_))).kept (grownSet _ _ _) (.inr (fun e => ?_))
          · have := hw4 _ e; omega
          · have := hw4 _ e; omega
        · simp [World.setCell]; omega
  · rintro W ⟨hIb, hIn⟩ hsz hD
    have k2 : W.cell? ⟨w.heap.size + 1 + 1, 0, none⟩ = some (.slice none 0 0) := keepC hIb r2
    have k3 : W.cell? ⟨w.heap.size + 1 + 1 + 1, 0, none⟩ = some (.int .i64 0) := keepC hIb r3
    have m2 : W.frozen? ⟨w.heap.size + 1 + 1, 0, none⟩ = false := (keepF hIb r2).trans g2
    have m3 : W.frozen? ⟨w.heap.size + 1 + 1 + 1, 0, none⟩ = false := (keepF hIb r3).trans g3
    have HIN := Lib.hid hIn
    have hbB : Below w.heap.size w W := hB2.trans (hIb.mono hB2.size)
    have HBB := Lib.hid hbB
    have HD := Lib.hid hD
    clear hIn hbB hD hIb hB2 hs0 hc0 hO0 r1 r2 r3 g2 g3
    have hlt0 : W0.heap.size < W.heap.size := by omega
    have hD2 : ((W.setCell ⟨w.heap.size + 1 + 1, 0, none⟩ (.slice none 0 0)).setCell ⟨w.heap.size + 1 + 1 + 1, 0, none⟩ (.int .i64 4)).heap[W0.heap.size]? = some (.deferred (some [])) :=
      (Below.heap_setCell _ _ _ _ (by simp; omega)).trans ((Below.heap_setCell _ _ _ _ (by simp; omega)).trans HD.out)
    have hP : Below w.heap.size w ((W.setCell ⟨w.heap.size + 1 + 1, 0, none⟩ (.slice none 0 0)).setCell ⟨w.heap.size + 1 + 1 + 1, 0, none⟩ (.int .i64 4)) := belowS (belowS HBB.out (by simp; omega) _) (by simp; omega) _
    have e2 : ((W.setCell ⟨w.heap.size + 1 + 1, 0, none⟩ (.slice none 0 0)).setCell ⟨w.heap.size + 1 + 1 + 1, 0, none⟩ (.int .i64 4)).cell? ⟨w.heap.size + 1 + 1, 0, none⟩ = some (.slice none 0 0) := by go_simp
    have e3 : ((W.setCell ⟨w.heap.size + 1 + 1, 0, none⟩ (.slice none 0 0)).setCell ⟨w.heap.size + 1 + 1 + 1, 0, none⟩ (.int .i64 4)).cell? ⟨w.heap.size + 1 + 1 + 1, 0, none⟩ = some (.int .i64 4) := by go_simp
    have HD2 := Lib.hid hD2
    have HP := Lib.hid hP
    clear hD2 hP
    gi_wp2
    obtain ⟨X, hX⟩ : ∃ X, (W.setCell ⟨w.heap.size + 1 + 1, 0, none⟩ (.slice none 0 0)).setCell ⟨w.heap.size + 1 + 1 + 1, 0, none⟩ (.int .i64 4) = X := ⟨_, rfl⟩
    rw [hX] at HD2 HP e2 e3 ⊢
    have e2' := (cell_put HD2.out rfl (.deferred none) ⟨w.heap.size + 1 + 1, 0, none⟩).trans e2
    have e3' := (cell_put HD2.out rfl (.deferred none) ⟨w.heap.size + 1 + 1 + 1, 0, none⟩).trans e3
    refine ⟨by simp, .inl ⟨_, _, rfl, run_takeDeferred HD2.out, ?_⟩⟩
    refine ⟨.tuple #[.slice none 0 0, iv 4], by simp [results, Try.results22, go_sem, e2', e3'], HP.out.trans (below_putObj _ (by omega) _), o, HORD.out, .inl ⟨?_, rfl⟩⟩
    exact List.find?_eq_none.2 fun s hs => by rw [HIN.out s hs]; simp
  · rintro pre W hpre ⟨hbB, p, s, v, rfl, hno, hyes, k2, k3, hown, hz⟩ hsz hD
    obtain ⟨A4, cap4, rfl, _⟩ := own_rd1 hown
    have e2' := (cell_put hD rfl (.deferred none) ⟨w.heap.size + 1 + 1, 0, none⟩).trans k2
    have e3' := (cell_put hD rfl (.deferred none) ⟨w.heap.size + 1 + 1 + 1, 0, none⟩).trans k3
    have hown2 := hown.kept (grownBy_putObj' W W0.heap.size (.deferred none)) (.inr (fun e => by have := (hown.lt _ e).1; omega))
    obtain ⟨A5, cap5, e5, hrd, _⟩ := own_rd1 hown2
    injection e5 with e51 e52 e53
    subst e51
    have HBB := Lib.hid hbB
    have HNO := Lib.hid hno
    have HYES := Lib.hid hyes
    have HPRE := Lib.hid hpre
    have HD := Lib.hid hD
    have HRD := Lib.hid hrd
    have hge : w.heap.size ≤ W0.heap.size := by omega
    clear s0
    clear hbB hown hno hyes hpre hD hB2 hs0 hc0 hO0 r1 r2 r3 g2 g3 hown2 hrd
    gi_wp2
    refine ⟨by simp, .inl ⟨_, _, rfl, run_takeDeferred HD.out, ?_⟩⟩
    refine ⟨.tuple #[.slice A4 s.length cap4, iv 0], by simp [results, Try.results22, go_sem, e2', e3'], HBB.out.trans (below_putObj _ (by omega) _), o, HORD.out, .inr ⟨s, A4, cap4, ?_, rfl, HRD.out⟩⟩
    obtain ⟨r, hr⟩ := HPRE.out
    unfold forgedF
    rw [← hr, List.find?_append, List.find?_append, List.find?_eq_none.2 (fun t ht => by rw [HNO.out t ht]; simp)]
    simp [List.find?, HYES.out]
end Go.Proofs.Ytblbbhenmhkknaa

namespace Go.Proofs.Ytblbbhenmhkknaa
open Go.RowKit Go.Maps

theorem flatMap_len {α β : Type} (g : α → List β) (b : Nat) : ∀ (l : List α), (∀ x ∈ l, (g x).length ≤ b) → (l.flatMap g).length ≤ l.length * b := by
  intro l
  induction l with
  | nil => intro _; simp
  | cons a l ih =>
    intro h
    simp only [List.flatMap_cons, List.length_append, List.length_cons, Nat.succ_mul]
    have := ih fun x hx => h x (by simp [hx])
    have := h a (by simp)
    omega
theorem combs_len (n : Nat) : ∀ k f, (combs n k f).length ≤ (n + 1) ^ k := by
  intro k
  induction k with
  | zero => intro f; simp [combs]
  | succ k ih =>
    intro f
    refine Nat.le_trans (flatMap_len _ ((n + 1) ^ k) _ fun x _ => by simpa using ih (x + 1)) ?_
    rw [List.length_range', Nat.pow_succ, Nat.mul_comm]
    exact Nat.mul_le_mul_left _ (by omega)
theorem setsTo_len (n m : Nat) (hn : n ≤ 8) (hm : m ≤ 9) : (setsTo n m).length ≤ 3486784401 := by
  have h : (setsTo n m).length ≤ (List.range m).length * (9 ^ 9) := by
    refine flatMap_len _ _ _ fun k hk => ?_
    have hk' : k ≤ 9 := by have := List.mem_range.1 hk; omega
    refine Nat.le_trans (combs_len n k 0) (Nat.le_trans (Nat.pow_le_pow_left (by omega : n + 1 ≤ 9) k) (Nat.pow_le_pow_right (by omega) hk'))
  rw [List.length_range] at h
  have : m * 9 ^ 9 ≤ 9 * 9 ^ 9 := Nat.mul_le_mul_right _ hm
  omega
theorem ownerL_cons (c : ByteArray) (ps : List Pap) (i : Nat) (o fl : List Nat) : ∃ d, ownerL c ps (i :: o) fl = ownerL d ps o fl ∧ (d = c ∨ ∃ p ∈ ps, d = p.dst) := by
  cases h : memB fl i
  · cases hp : ps[i]? with
    | none => exact ⟨c, by simp [ownerL, h, hp], .inl rfl⟩
    | some p =>
      refine ⟨stepO c p, by simp [ownerL, h, hp], ?_⟩
      unfold stepO
      split
      · exact .inr ⟨p, List.mem_of_getElem? hp, rfl⟩
      · exact .inl rfl
  · exact ⟨c, by simp [ownerL, h], .inl rfl⟩
theorem ownerL_cases (first : ByteArray) (ps : List Pap) (fl : List Nat) : ∀ (o : List Nat) (c : ByteArray), (c = first ∨ ∃ p ∈ ps, c = p.dst) → (ownerL c ps o fl = first ∨ ∃ p ∈ ps, ownerL c ps o fl = p.dst) := by
  intro o
  induction o with
  | nil => intro c h; exact h
  | cons i o ih =>
    intro c h
    obtain ⟨d, e, hd⟩ := ownerL_cons c ps i o fl
    rw [e]
    refine ih d ?_
    rcases hd with rfl | hd
    · exact h
    · exact .inr hd
theorem ownerL_size {first : ByteArray} {ps : List Pap} (hf : first.size ≤ maxLen) (hok : PapsOk ps) (o fl : List Nat) : (ownerL first ps o fl).size ≤ maxLen := by
  rcases ownerL_cases first ps fl o first (.inl rfl) with h | ⟨p, hp, h⟩
  · rw [h]; exact hf
  · rw [h]; exact hok.dst p hp
end Go.Proofs.Ytblbbhenmhkknaa
