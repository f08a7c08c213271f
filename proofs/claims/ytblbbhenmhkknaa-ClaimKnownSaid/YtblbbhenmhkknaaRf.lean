/- The loop over the sets of papers: what the loop owes, and what it gives. -/
import Derived.RangeFuncWrites
import Derived.Test.YtblbbhenmhkknaaIt2
namespace Go.Proofs.Ytblbbhenmhkknaa
open Go.RowKit Go.Shelf
attribute [local go_sem] Oper.semAt_some

theorem below_putObj {B : Nat} (X : World) {k : Nat} (hk : B ≤ k) (o : Obj) : Below B X (X.putObj k o) :=
  ⟨rfl, rfl, rfl, by simp [World.putObj], fun i hi => World.putObj_heap_other (by omega)⟩
theorem Hands.put {s : List Nat} {v : Value} {W : World} (h : Hands s v W) {k : Nat} {o : Obj} (ho : W.heap[k]? = some o) (hc : o.isCells = false) (o' : Obj) : Hands s v (W.putObj k o') := by
  obtain ⟨A, cap, rfl, hr⟩ := h
  refine ⟨A, cap, rfl, fun i x hx => ?_⟩
  obtain ⟨b, off, rfl, hlt, hcell⟩ := hr i x hx
  refine ⟨b, off, rfl, by simpa [World.putObj] using hlt, ?_⟩
  have hne : b ≠ k := by
    rintro rfl
    simp only [World.cell?, ho] at hcell
    cases o <;> simp_all [Obj.isCells]
  have e : (W.putObj k o').heap[b]? = W.heap[b]? := World.putObj_heap_other (by omega)
  simp only [World.cell?, e] at hcell ⊢
  exact hcell

/-- How a round's body may be left. -/
def roundOut (bw sb : Nat) (I : List (List Nat) → World → Prop) (Ix : List (List Nat) → World → Prop) (xs : List (List Nat)) (W : World) : Exit → Act → World → Prop
  | .normal, _, W' => KeepB bw sb W W' ∧ I xs W'
  | .ret, _, W' => KeepB bw sb W W' ∧ Ix xs W'
  | _, _, _ => False

theorem KeepB.trans {bw sb : Nat} {X Y Z : World} (h : KeepB bw sb X Y) (k : KeepB bw sb Y Z) : KeepB bw sb X Z :=
  ⟨Nat.le_trans h.size k.size, fun i hi hlt => (k.same i hi (Nat.lt_of_lt_of_le hlt h.size)).trans (h.same i hi hlt)⟩
theorem KeepB.mono {bw bw' sb : Nat} {X Y : World} (h : KeepB bw sb X Y) (hb : bw ≤ bw') : KeepB bw' sb X Y :=
  ⟨h.size, fun i hi hlt => h.same i (hi.imp (fun h => Nat.le_trans hb h) id) hlt⟩
theorem KeepB.put (bw sb : Nat) (W : World) (k : Nat) (o : Obj) (h1 : k < bw) (h2 : k ≠ sb) : KeepB bw sb W (W.putObj k o) :=
  ⟨by simp [World.putObj], fun i hi _ => World.putObj_heap_other (by rcases hi with hi | rfl <;> omega)⟩

theorem rangeFunc_sets {p : Tmp} {g : Operand} {assign body : Code} {Q : Exit → Act → World → Prop} {a : Act} {w : World} (n sb N f : Nat) (first : ByteArray) (A' : Option Addr) (capP : Nat) (vo : Value)
    (hg : a.eval g = .func (.func 95) #[] #[.pointer (some ⟨sb, 0, none⟩)]) (hsb : Blk w sb 96 #[.string first, .slice A' N capP, .int .i64 f, vo]) (hN : N ≤ 8) (hf : f ≤ 8)
    (I Ix : List (List Nat) → World → Prop) (hI : ∀ s W1 W2, I s W1 → Below w.heap.size W1 W2 → I s W2) (hIx : ∀ s W1 W2 k, (k = w.heap.size + 1 ∨ k = w.heap.size + 4) → Ix s W1 → W1.grownBy W2 (some k) → Ix s W2) (h0 : I [] w)
    (hbody : ∀ (m l : Nat) (pre : List (List Nat)) (s : List Nat) (v : Value) (W : World), I pre W → Hands s v W → pre ++ [s] <+: setsTo N (min f N + 1) → w.heap.size + 4 < W.heap.size → Blk W sb 96 #[.string first, .slice A' N capP, .int .i64 f, vo] →
      assign.wpIn (Fence.wide.inRound l) m Try.prog (Exit.then (fun a1 W1 => W1 = W ∧ ∀ W2, I pre W2 → Hands s v W2 → w.heap.size + 4 < W2.heap.size → Blk W2 sb 96 #[.string first, .slice A' N capP, .int .i64 f, vo] → body.wpIn (Fence.wide.inRound l) m Try.prog (roundOut w.heap.size sb I Ix (pre ++ [s]) W2) a1 W2) (fun _ _ _ => False)) { tmps := a.tmps.setIfInBounds p v, defers := [] } W)
    (hdone : ∀ (W : World), I (setsTo N (min f N + 1)) W → w.heap.size + 2 ≤ W.heap.size → W.heap[w.heap.size]? = some (.deferred (some [])) → Q .normal { a with defers := { target := .collected w.heap.size, args := #[] } :: a.defers } W)
    (hstop : ∀ (pre : List (List Nat)) (W : World), pre <+: setsTo N (min f N + 1) → Ix pre W → w.heap.size + 2 ≤ W.heap.size → W.heap[w.heap.size]? = some (.deferred (some [])) → Code.ret.wpIn Fence.wide n Try.prog Q { a with defers := { target := .collected w.heap.size, args := #[] } :: a.defers } W) :
    (Code.rangeFunc g #[p] assign body).wpIn Fence.wide n Try.prog Q a w := by
  have hslt := hsb.lt
  refine wpIn_rangeFunc ?_
  intro fn hfn
  obtain ⟨rec, hrec⟩ : ∃ rec : LoopState → Option Code → Loop, rec = fun st pe => { state := st, pending := pe, fn, tmps := a.tmps, params := #[p], assign, body, defers := w.heap.size } := ⟨_, rfl⟩
  obtain ⟨W1, hW1⟩ : ∃ W1, (w.alloc (.deferred (some []))).alloc (.loop (rec .ready none)) = W1 := ⟨_, rfl⟩
  have hL1 : W1.heap[w.heap.size + 1]? = some (.loop (rec .ready none)) := by
    rw [← hW1]; have := World.alloc_heap_new (w.alloc (.deferred (some []))) (.loop (rec .ready none)); rwa [World.size_alloc] at this
  have hK1 : W1.heap[w.heap.size]? = some (.deferred (some [])) := by
    rw [← hW1]; exact (Below.heap_alloc _ _ _ (by simp)).trans (World.alloc_heap_new w _)
  have hb1 : Below w.heap.size w W1 := by
    rw [← hW1]; exact ((Below.refl _ w).alloc (Nat.le_refl _) _).alloc (by simp) _
  have hs1 : W1.heap.size = w.heap.size + 2 := by rw [← hW1]; simp
  have hI1 : I [] W1 := hI _ _ _ h0 hb1
  have hsb1 : Blk W1 sb 96 #[.string first, .slice A' N capP, .int .i64 f, vo] := hsb.same (hb1.block _ hslt)
  refine ⟨w.heap.size + 1, [{ target := .collected w.heap.size, args := #[] }], W1, { target := .fn (.func 95) #[.pointer (some ⟨sb, 0, none⟩)], args := #[.func (.yield (w.heap.size + 1)) #[] #[]] }, W1, 95,
    #[.func (.yield (w.heap.size + 1)) #[] #[]] ++ #[.pointer (some ⟨sb, 0, none⟩)], W1, ?_, ?_, ?_, ?_, hdd _, ?_⟩
  · rw [← hW1, hrec]; exact run_enterLoop_outer _ _ _ _ _
  · simp only [resolve, hg]
    simp [go_sem]
  · intro f' hf'; trivial
  · simp [invoke, go_sem]
  · have ready : ∀ {B : Nat} {X Y : World} {k : Nat} {o : Obj}, Below B X Y → k < B → X.heap[k]? = some o → Y.heap[k]? = some o := fun hb hk ho => (hb.block _ hk).trans ho
    refine (sets_in sb (w.heap.size + 1) N f first A' capP vo
      (fun pre W => I pre W ∧ W.heap[w.heap.size + 1]? = some (.loop (rec .ready none)) ∧ W.heap[w.heap.size]? = some (.deferred (some [])) ∧ Blk W sb 96 #[.string first, .slice A' N capP, .int .i64 f, vo])
      (fun pre W => Ix pre W ∧ W.heap[w.heap.size + 1]? = some (.loop (rec .done (some .ret))) ∧ W.heap[w.heap.size]? = some (.deferred (some [])))
      (n - 1) W1 hN hf hsb1
      (fun s A B h hb => ⟨hI s A B h.1 (hb.mono (by omega)), ready hb (by omega) h.2.1, ready hb (by omega) h.2.2.1, h.2.2.2.same (hb.block _ (by omega))⟩)
      (fun s A B h hb => ⟨hIx s A B _ (.inr (by omega)) h.1 hb, (hb.block _ (Array.getElem?_eq_some_iff.1 h.2.1).1 (fun e => by injection e with e; omega)).trans h.2.1, (hb.block _ (Array.getElem?_eq_some_iff.1 h.2.2).1 (fun e => by injection e with e; omega)).trans h.2.2⟩) ?_ ⟨hI1, hL1, hK1, hsb1⟩).mono ?_
    · rintro m pre x v W ⟨hi, hl, hk, hs⟩ hH hpre hbw hbl
      have hlt : w.heap.size + 1 < W.heap.size := (Array.getElem?_eq_some_iff.1 hl).1
      have hy : (Instr.yield (w.heap.size + 1) #[v]).run Try.prog W = .ok (.round (w.heap.size + 1) fn (a.tmps.setIfInBounds p v) assign body) W := by
        have := run_yield (P := Try.prog) (args := #[v]) hl (by rw [hrec]; rfl)
        rw [hrec] at this
        simpa using this
      refine ⟨fn, _, assign, body, hy, roundIn_of_wpIn hfn ?_⟩
      refine wpIn_mono (hbody m (w.heap.size + 1) pre x v W hi hH hpre (by omega) hs) ?_
      rintro e a1 W1' hp
      cases e with
      | normal =>
        obtain ⟨rfl, hp⟩ := hp
        refine ⟨_, run_beginRound hl (by rw [hrec]), ?_⟩
        have hl2 : (W1'.putObj (w.heap.size + 1) (.loop { rec .ready none with state := .busy })).heap[w.heap.size + 1]? = some (.loop { rec .ready none with state := .busy }) := World.putObj_heap_same hlt
        have hk2 : (W1'.putObj (w.heap.size + 1) (.loop { rec .ready none with state := .busy })).heap[w.heap.size]? = some (.deferred (some [])) := (World.putObj_heap_other (by omega)).trans hk
        refine wpIn_mono (hp _ (hI _ _ _ hi (below_putObj _ (by omega) _)) (hH.put hl rfl _) (by simp [World.putObj]; omega) (hs.same (World.putObj_heap_other (by omega)))) ?_
        have fin : ∀ (jump : Option Code) (W3 : World), KeepB w.heap.size sb (W1'.putObj (w.heap.size + 1) (.loop { rec .ready none with state := .busy })) W3 →
            (Instr.endRound (w.heap.size + 1) jump).run Try.prog W3 = .ok (.bool jump.isNone) (W3.putObj (w.heap.size + 1) (.loop (rec (if jump.isNone then .ready else .done) jump))) ∧
            (W3.putObj (w.heap.size + 1) (.loop (rec (if jump.isNone then .ready else .done) jump))).heap[w.heap.size + 1]? = some (.loop (rec (if jump.isNone then .ready else .done) jump)) ∧
            (W3.putObj (w.heap.size + 1) (.loop (rec (if jump.isNone then .ready else .done) jump))).heap[w.heap.size]? = some (.deferred (some [])) ∧
            Blk (W3.putObj (w.heap.size + 1) (.loop (rec (if jump.isNone then .ready else .done) jump))) sb 96 #[.string first, .slice A' N capP, .int .i64 f, vo] ∧
            KeepB W1.heap.size sb W1' (W3.putObj (w.heap.size + 1) (.loop (rec (if jump.isNone then .ready else .done) jump))) := fun jump W3 hk3 => by
          have hl3 : W3.heap[w.heap.size + 1]? = some (.loop { rec .ready none with state := .busy }) := (hk3.same _ (.inl (by omega)) (by simp [World.putObj]; omega)).trans hl2
          have hd3 : W3.heap[w.heap.size]? = some (.deferred (some [])) := (hk3.same _ (.inl (by omega)) (by simp [World.putObj]; omega)).trans hk2
          have hs3 : Blk W3 sb 96 #[.string first, .slice A' N capP, .int .i64 f, vo] := (hs.same (World.putObj_heap_other (by omega))).same (hk3.same _ (.inr rfl) (by simp [World.putObj]; omega))
          have := run_endRound (P := Try.prog) jump hl3
          rw [hrec] at this ⊢
          refine ⟨this, World.putObj_heap_same (Array.getElem?_eq_some_iff.1 hl3).1, (World.putObj_heap_other (by omega)).trans hd3, hs3.same (World.putObj_heap_other (by omega)), ?_⟩
          rw [hs1]
          exact ((KeepB.put _ sb W1' _ _ (by omega) (by omega)).trans (hk3.mono (by omega))).trans (KeepB.put _ sb W3 _ _ (by omega) (by omega))
        rintro e a3 W3 hp3
        cases e with
        | normal =>
          obtain ⟨hk3, hi3⟩ := hp3
          obtain ⟨hr, hl4, hk4, hs4, hkb⟩ := fin none W3 hk3
          exact ⟨_, _, hr, hkb, .inl ⟨rfl, hI _ _ _ hi3 (below_putObj _ (by omega) _), hl4, hk4, hs4⟩⟩
        | ret =>
          obtain ⟨hk3, hi3⟩ := hp3
          obtain ⟨hr, hl4, hk4, hs4, hkb⟩ := fin (some .ret) W3 hk3
          exact ⟨_, _, hr, hkb, .inr ⟨rfl, hIx _ _ _ _ (.inl rfl) hi3 (grownBy_putObj' _ _ _), hl4, hk4⟩⟩
        | exit id => exact hp3.elim
        | goto t => exact hp3.elim
        | panic ch => exact hp3.elim
        | outgrown => exact hp3.elim
      | ret => exact hp.elim
      | exit id => exact hp.elim
      | goto t => exact hp.elim
      | panic ch => exact hp.elim
      | outgrown => exact hp.elim
    · rintro e W2 ⟨⟨v, rfl⟩, (⟨hi, hl, hk, _⟩ | ⟨pre, hpre, hi, hl, hk⟩)⟩
      · have hlt2 := (Array.getElem?_eq_some_iff.1 hl).1
        exact ⟨none, _, by have := run_endLoop (P := Try.prog) hl (by rw [hrec]; simp); rw [hrec] at this; exact this,
          hdone _ (hI _ _ _ hi (below_putObj _ (by omega) _)) (by simp [World.putObj]; omega) ((World.putObj_heap_other (by omega)).trans hk)⟩
      · have hlt2 := (Array.getElem?_eq_some_iff.1 hl).1
        exact ⟨some .ret, _, by have := run_endLoop (P := Try.prog) hl (by rw [hrec]; simp); rw [hrec] at this; exact this,
          hstop pre _ hpre (hIx _ _ _ _ (.inl rfl) hi (grownBy_putObj' _ _ _)) (by simp [World.putObj]; omega) ((World.putObj_heap_other (by omega)).trans hk)⟩
end Go.Proofs.Ytblbbhenmhkknaa
