/- The iterator over the sets of papers: what it keeps in memory, and the function that calls itself. -/
import Derived.RangeFuncNested
import Derived.RangeFuncBound
import Derived.RangeFuncCalls
import Derived.RangeFuncLeaves
import Derived.Shelf.Abstract
import Derived.Shelf.RegionOpen
import Derived.WalkKit
import Derived.OwnWalkIn
import Derived.TacticsInMore
import Derived.LoopNIn
import Derived.LoopIn
import Derived.WalkSmall
import Derived.Test.YtblbbhenmhkknaaYW12
import Derived.Test.YtblbbhenmhkknaaYCmb
namespace Go.Proofs.Ytblbbhenmhkknaa
open Go.RowKit Go.Shelf
attribute [local go_sem] Oper.semAt_some

/-- A block that is known whole. -/
def Blk (w : World) (g : Nat) (t : TypeId) (cs : Array Value) : Prop := w.heap[g]? = some (.cells cs t (0, 0))
section
variable {w w' : World} {g : Nat} {t : TypeId} {cs : Array Value}
theorem Blk.lt (h : Blk w g t cs) : g < w.heap.size := by
  rcases Nat.lt_or_ge g w.heap.size with hlt | hge
  · exact hlt
  · unfold Blk at h; rw [Array.getElem?_eq_none hge] at h; cases h
theorem Blk.cell (h : Blk w g t cs) (i : Nat) : w.cell? ⟨g, i, none⟩ = cs[i]? := by
  unfold Blk at h; simp [World.cell?, h]
theorem Blk.frozen (h : Blk w g t cs) (i : Nat) : w.frozen? ⟨g, i, none⟩ = false := by
  unfold Blk at h
  simp [World.frozen?, h]
theorem Blk.new (w : World) (t : TypeId) (cs : Array Value) : Blk (w.alloc (.cells cs t)) w.heap.size t cs := by
  unfold Blk; exact World.alloc_heap_new w _
theorem Blk.alloc (h : Blk w g t cs) (o : Obj) : Blk (w.alloc o) g t cs := (Below.heap_alloc w o g h.lt).trans h
theorem Blk.set_ (h : Blk w g t cs) (i : Nat) (u : Value) : Blk (w.setCell ⟨g, i, none⟩ u) g t (cs.setIfInBounds i u) := by
  unfold Blk at h ⊢
  simp [World.setCell, Array.getElem?_modify, h]
theorem Blk.far (h : Blk w g t cs) {p : Addr} (hp : g ≠ p.block) (u : Value) : Blk (w.setCell p u) g t cs := (Below.heap_setCell w p u g hp).trans h
theorem Blk.same (h : Blk w g t cs) (hs : w'.heap[g]? = w.heap[g]?) : Blk w' g t cs := hs.trans h
theorem Blk.grown {row : Option Nat} (h : Blk w g t cs) (hb : w.grownBy w' row) (hg : some g ≠ row) : Blk w' g t cs := (hb.block g h.lt hg).trans h
theorem own_ne {base : Nat} {e : TypeId} {size : Nat} {v : Value} {n : Nat} {xs : List Value} (h : w.ownsRow base e size v n xs) (hb : Blk w g t cs) (ht : t ≠ e) : some g ≠ v.ownBlock := by
  intro e2
  rcases h.2 with ⟨rfl, _⟩ | ⟨g', cap, cur, rfl, _, hg, _⟩
  · cases e2
  · simp only [Value.ownBlock, Option.some.injEq] at e2
    subst e2
    unfold Blk at hb
    rw [hb] at hg
    injection hg with hg
    injection hg with _ h2 _
    exact ht h2
theorem ownsRow_same {base : Nat} {e : TypeId} {size : Nat} {v : Value} {n : Nat} {xs : List Value} (h : w.ownsRow base e size v n xs) (hs : ∀ k, base ≤ k → k < w.heap.size → w'.heap[k]? = w.heap[k]?) : w'.ownsRow base e size v n xs := by
  obtain ⟨h1, h2⟩ := h
  refine ⟨h1, ?_⟩
  rcases h2 with h2 | ⟨g, cap, cur, hv, hb, hg, r⟩
  · exact .inl h2
  · refine .inr ⟨g, cap, cur, hv, hb, ?_, r⟩
    have hlt : g < w.heap.size := by
      rcases Nat.lt_or_ge g w.heap.size with hlt | hge
      · exact hlt
      · rw [Array.getElem?_eq_none hge] at hg; cases hg
    rw [hs g hb hlt]; exact hg
end

theorem grownSet (w : World) (c : Nat) (u : Value) : w.grownBy (w.setCell ⟨c, 0, none⟩ u) (some c) :=
  ⟨rfl, rfl, rfl, by simp [World.setCell], fun k _ hne => Below.heap_setCell _ _ _ _ (fun e => hne (by rw [e]))⟩
theorem below_setB {B : Nat} {a w : World} (h : Below B a w) {c : Nat} (hc : B ≤ c) (u : Value) : Below B a (w.setCell ⟨c, 0, none⟩ u) := h.setCell hc u

/-- What a round keeps: the blocks from bw on, and the ship's. -/
structure KeepB (bw sb : Nat) (w w' : World) : Prop where
  size : w.heap.size ≤ w'.heap.size
  same : ∀ k, (bw ≤ k ∨ k = sb) → k < w.heap.size → w'.heap[k]? = w.heap[k]?

/-- What the iterator holds in memory: the list of papers so far, the round's function, the ship, itself. -/
structure FillInv (bw lb yb sb fb l : Nat) (ship : Array Value) (W : World) (p : List Nat) (lv : Value) : Prop where
  hl : Blk W lb 32 #[lv]
  hy : Blk W yb 143 #[.func (.yield l) #[] #[]]
  hs : Blk W sb 96 ship
  hf : Blk W fb 138 #[.func (.func 96) #[] #[.pointer (some ⟨lb, 0, none⟩), .pointer (some ⟨yb, 0, none⟩), .pointer (some ⟨sb, 0, none⟩), .pointer (some ⟨fb, 0, none⟩)]]
  own : W.ownsRow bw 3 1 lv p.length (p.map nv)
  size : bw ≤ W.heap.size
theorem FillInv.kept {bw lb yb sb fb l : Nat} {ship : Array Value} {W W' : World} {p : List Nat} {lv : Value} (h : FillInv bw lb yb sb fb l ship W p lv) (hk : KeepB bw sb W W') (h1 : bw ≤ lb) (h2 : bw ≤ yb) (h3 : bw ≤ fb) : FillInv bw lb yb sb fb l ship W' p lv :=
  ⟨h.hl.same (hk.same _ (.inl h1) h.hl.lt), h.hy.same (hk.same _ (.inl h2) h.hy.lt), h.hs.same (hk.same _ (.inr rfl) h.hs.lt), h.hf.same (hk.same _ (.inl h3) h.hf.lt),
   ownsRow_same h.own fun k hk1 hk2 => hk.same k (.inl hk1) hk2, Nat.le_trans h.size hk.size⟩

/-- The list one longer: behind the append, and the store into its variable. -/
theorem FillInv.push {bw lb yb sb fb l : Nat} {ship : Array Value} {W w1 : World} {p : List Nat} {lv v' : Value} {o : Obj} {i : Nat} (h : FillInv bw lb yb sb fb l ship W p lv) (hown : w1.ownsRow bw 3 1 v' (p.length + 1) (p.map nv ++ [.int .i64 (i : Int)])) (hg : (W.alloc o).grownBy w1 lv.ownBlock)
    (h1 : yb ≠ lb) (h2 : sb ≠ lb) (h3 : fb ≠ lb) : FillInv bw lb yb sb fb l ship (w1.setCell ⟨lb, 0, none⟩ v') (p ++ [i]) v' := by
  have own := h.own.alloc o
  have b1 := (h.hl.alloc o).grown hg (own_ne own (h.hl.alloc o) (by decide))
  have b2 := (h.hy.alloc o).grown hg (own_ne own (h.hy.alloc o) (by decide))
  have b3 := (h.hs.alloc o).grown hg (own_ne own (h.hs.alloc o) (by decide))
  have b4 := (h.hf.alloc o).grown hg (own_ne own (h.hf.alloc o) (by decide))
  refine ⟨?_, b2.far h1 _, b3.far h2 _, b4.far h3 _, ?_, ?_⟩
  · have := b1.set_ 0 v'
    simpa using this
  · have := hown.kept (grownSet w1 lb v') (.inr (fun e => own_ne hown b1 (by decide) e.symm))
    simpa using this
  · have := hg.size
    have h4 := h.size
    simp at this
    simp [World.setCell]
    omega
/-- The list one shorter. -/
theorem FillInv.pop {bw lb yb sb fb l : Nat} {ship : Array Value} {W : World} {p : List Nat} {i g cap : Nat} (h : FillInv bw lb yb sb fb l ship W (p ++ [i]) (.slice (some ⟨g, 0, none⟩) (p.length + 1) cap))
    (h1 : yb ≠ lb) (h2 : sb ≠ lb) (h3 : fb ≠ lb) : FillInv bw lb yb sb fb l ship (W.setCell ⟨lb, 0, none⟩ (.slice (some ⟨g, 0, none⟩) p.length cap)) p (.slice (some ⟨g, 0, none⟩) p.length cap) := by
  have own := h.own
  have own2 : W.ownsRow bw 3 1 (.slice (some ⟨g, 0, none⟩) p.length cap) p.length (p.map nv) := by
    refine ownsRow_pop (last := [nv i]) (by simp) ?_
    simpa using own
  refine ⟨?_, h.hy.far h1 _, h.hs.far h2 _, h.hf.far h3 _, ?_, ?_⟩
  · have := h.hl.set_ 0 (.slice (some ⟨g, 0, none⟩) p.length cap)
    simpa using this
  · exact own2.kept (grownSet W lb _) (.inr (fun e => own_ne own2 h.hl (by decide) e.symm))
  · have := h.size
    simpa [World.setCell] using this

theorem roomN (k : Nat) : Fence.wide.room k := fun d h => by cases h
theorem RoundAny {m m' : Nat} {P : Program} {l : Nat} {f : FuncId} {tmps : Array Value} {assign body : Code} {w : World} {R : Ending → World → Prop}
    (h : RoundIn Fence.wide m P l f tmps assign body w R) : RoundIn Fence.wide m' P l f tmps assign body w R := ⟨h.1, fun c cs _ => h.2 c cs (roomN _)⟩
theorem YieldAny {m : Nat} (m' : Nat) {P : Program} {l : Nat} {args : Array Value} {W : World} {R : Ending → World → Prop} (h : YieldAt Fence.wide m P l args W R) : YieldAt Fence.wide m' P l args W R := by
  obtain ⟨fn, tmps, assign, body, hy, hR⟩ := h
  exact ⟨fn, tmps, assign, body, hy, RoundAny hR⟩

/-- The value that a round is handed: a slice that reads as the set. -/
def Hands (s : List Nat) (v : Value) (W : World) : Prop := ∃ A cap, v = .slice A s.length cap ∧ Rd1 nv W W.heap.size A s

/-- What a round owes: it goes on, or it leaves. -/
def Rounds (m bw sb l lb : Nat) (all : List (List Nat)) (J Jx : List (List Nat) → World → Prop) : Prop :=
  ∀ (pre : List (List Nat)) (s : List Nat) (v : Value) (W : World), J pre W → Hands s v W → pre ++ [s] <+: all → bw ≤ W.heap.size → lb < W.heap.size → YieldAt Fence.wide m Try.prog l #[v] W fun e W' =>
    KeepB bw sb W W' ∧ ((e = .returned (.bool true) ∧ J (pre ++ [s]) W') ∨ (e = .returned (.bool false) ∧ Jx (pre ++ [s]) W'))

/-- What the function that calls itself gives. -/
def FillPost (bw lb yb sb fb l : Nat) (ship : Array Value) (all : List (List Nat)) (J Jx : List (List Nat) → World → Prop) (p : List Nat) (more : List (List Nat)) (e : Ending) (W' : World) : Prop :=
  (∃ lv, FillInv bw lb yb sb fb l ship W' p lv) ∧ ((e = .returned (.bool true) ∧ J more W') ∨ (e = .returned (.bool false) ∧ ∃ pre, pre <+: all ∧ Jx pre W'))

theorem hdd (k : Nat) : (Fence.wide.depth.isSome = true → 1 ≤ k) := fun h => by cases h

set_option maxRecDepth 100000 in
set_option maxHeartbeats 2000000 in
theorem fill_zero (bw lb yb sb fb l n : Nat) (ship : Array Value) (all : List (List Nat)) (J Jx : List (List Nat) → World → Prop) (h1 : bw ≤ lb) (h2 : bw ≤ yb) (h3 : bw ≤ fb)
    (hY : Rounds (n - 1) bw sb l lb all J Jx) (p : List Nat) (from_ : Nat) (done : List (List Nat)) (W : World) (lv : Value) (hI : FillInv bw lb yb sb fb l ship W p lv) (hJ : J done W) (hall : done ++ [p] <+: all) :
    CallsIn Fence.wide n Try.prog 96 #[.int .i64 p.length, .int .i64 from_, .pointer (some ⟨lb, 0, none⟩), .pointer (some ⟨yb, 0, none⟩), .pointer (some ⟨sb, 0, none⟩), .pointer (some ⟨fb, 0, none⟩)] W
      (FillPost bw lb yb sb fb l ship all J Jx p (done ++ [p])) := by
  have hc1 := hI.hl.cell 0
  have hc2 := hI.hy.cell 0
  obtain ⟨A, cap, rfl, hrd, _⟩ := own_rd1 hI.own
  obtain ⟨fn, tmps, assign, body, hy, hR⟩ := hY done p _ W hJ ⟨A, cap, rfl, hrd⟩ hall hI.size hI.hl.lt
  have HI := Lib.hid hI
  have HALL := Lib.hid hall
  clear hI hJ hY hall hrd
  refine callsIn_of_wp Try.func96 rfl trivial ?_ rfl
  simp only [Try.ntmps96, List.size_toArray, List.length_cons, List.length_nil, Nat.reduceAdd, Nat.reduceSub, Array.replicate_succ, Array.replicate_zero, List.push_toArray, List.append_toArray, List.nil_append, List.cons_append]
  gi_wp2_with (((try refine ⟨hdd _, ?_⟩); refine hR.mono ?_; clear hR; rintro e W2 ⟨hk, (⟨rfl, hJ2⟩ | ⟨rfl, hx2⟩)⟩))
  · go_ret
    exact ⟨⟨_, HI.out.kept hk h1 h2 h3⟩, .inl ⟨rfl, hJ2⟩⟩
  · go_ret
    exact ⟨⟨_, HI.out.kept hk h1 h2 h3⟩, .inr ⟨rfl, _, HALL.out, hx2⟩⟩

set_option maxRecDepth 100000 in
set_option maxHeartbeats 4000000 in
theorem fill_in (bw lb yb sb fb l N : Nat) (first : ByteArray) (A' : Option Addr) (capP : Nat) (forged : Int) (vo : Value) (all : List (List Nat)) (J Jx : List (List Nat) → World → Prop) (h1 : bw ≤ lb) (h2 : bw ≤ yb) (h3 : bw ≤ fb) (hsb : sb < bw) (e1 : yb ≠ lb) (e3 : fb ≠ lb) (hN : N ≤ 8)
    (hJb : ∀ s W1 W2, J s W1 → Below bw W1 W2 → J s W2) (hJxb : ∀ s W1 W2, Jx s W1 → W1.grownBy W2 (some lb) → Jx s W2)
    (hY : ∀ m, Rounds m bw sb l lb all J Jx) : ∀ (k n : Nat) (p : List Nat) (from_ : Nat) (done : List (List Nat)) (W : World) (lv : Value), from_ ≤ N → p.length + k ≤ 8 →
      FillInv bw lb yb sb fb l #[.string first, .slice A' N capP, .int .i64 forged, vo] W p lv → J done W → done ++ (combs N k from_).map (p ++ ·) <+: all →
    CallsIn Fence.wide n Try.prog 96 #[.int .i64 (p.length + k : Nat), .int .i64 from_, .pointer (some ⟨lb, 0, none⟩), .pointer (some ⟨yb, 0, none⟩), .pointer (some ⟨sb, 0, none⟩), .pointer (some ⟨fb, 0, none⟩)] W
      (FillPost bw lb yb sb fb l #[.string first, .slice A' N capP, .int .i64 forged, vo] all J Jx p (done ++ (combs N k from_).map (p ++ ·))) := by
  obtain ⟨i0, hi, hz0, hz1, hz2⟩ := info_parts Try.info3
  intro k
  induction k with
  | zero =>
    intro n p from_ done W lv hfr hk hI hJ hall
    simp only [combs, List.map_cons, List.map_nil, List.append_nil] at hall ⊢
    exact fill_zero bw lb yb sb fb l n _ all J Jx h1 h2 h3 (hY _) p from_ done W lv hI hJ hall
  | succ k ih =>
    intro n p from_ done W lv hfr hk hI hJ hall
    have he : ((p.length : Int) == ((p.length + (k + 1) : Nat) : Int)) = false := beq_eq_false_iff_ne.2 (by omega)
    have hc1 : W.cell? ⟨lb, 0, none⟩ = some lv := hI.hl.cell 0
    obtain ⟨A, cap, hlv, _, _⟩ := own_rd1 hI.own
    rw [hlv] at hc1
    have HI := Lib.hid hI
    have HJ := Lib.hid hJ
    have HALL := Lib.hid hall
    have IH := Lib.hid ih
    have HY := Lib.hid hY
    have HJB := Lib.hid hJb
    have HJXB := Lib.hid hJxb
    clear hI hJ hall ih hY hJb hJxb hlv
    refine callsIn_of_wp Try.func96 rfl trivial ?_ rfl
    simp only [Try.ntmps96, List.size_toArray, List.length_cons, List.length_nil, Nat.reduceAdd, Nat.reduceSub, Array.replicate_succ, Array.replicate_zero, List.push_toArray, List.append_toArray, List.nil_append, List.cons_append]
    gi_wp2
    gi_loopw [9] (fun vi wr => ∃ (i : Nat) (lv : Value), vi = .int .i64 i ∧ from_ ≤ i ∧ i ≤ N ∧ Hid (FillInv bw lb yb sb fb l #[.string first, .slice A' N capP, .int .i64 forged, vo] wr p lv) ∧ Hid (J (done ++ (combsTo N k from_ i).map (p ++ ·)) wr)) (fun vi _ => N - (intOf vi).toNat)
    case atStart => exact ⟨from_, lv, rfl, Nat.le_refl _, hfr, HI, by rw [combsTo_start]; simpa [Hid] using HJ.out⟩
    case round =>
      clear HI HJ hc1
      obtain ⟨i, lv2, rfl, hfi, hiN, HI, HJ⟩ := hrel
      have hs1 : wr.cell? ⟨sb, 1, none⟩ = some (.slice A' N capP) := HI.out.hs.cell 1
      have hl1 : wr.cell? ⟨lb, 0, none⟩ = some lv2 := HI.out.hl.cell 0
      have hlf := HI.out.hl.frozen 0
      have hsz := HI.out.size
      have hsbl := HI.out.hs.lt
      have hlbl := HI.out.hl.lt
      by_cases hlt : i < N
      · have hltz : (i : Int) < (N : Int) := by omega
        have hnew : ∀ j u, [Value.int .i64 (i : Int)][j]? = some u → (wr.alloc (.cells #[.int .i64 (i : Int)] 3)).cell? ((⟨wr.heap.size, 0, none⟩ : Addr).add j) = some u := one_new _ _ _
        have HN := Lib.hid hnew
        clear hnew
        gi_wp2_with (gi_at_builtin; refine wpListIn_append_own _ rfl _ _ 32 rfl bw 3 i0 (.int .i64 0) 1 8 Try.underlying32 hi hz0 hz1 hz2 rfl (by decide) _ _ _ rfl (HI.out.own.alloc _) ⟨wr.heap.size, 0, none⟩ 1 1 [.int .i64 (i : Int)] rfl rfl ?c1 ?c2 ?c3 ?c4 ?c5 ?_)
        case c1 => exact HN.out
        case c2 => simp [Value.oneCell']
        case c3 => unfold maxLen; omega
        case c4 => omega
        case c5 => simp; omega
        intro v' w1 hown' hgrow _
        have hI1 := HI.out.push (o := .cells #[.int .i64 (i : Int)] 3) hown' hgrow e1 (by omega) e3
        have hb1 : Below bw wr (w1.setCell ⟨lb, 0, none⟩ v') := below_setB (((Below.refl _ _).alloc hsz _).grown hgrow (by simp; omega) (fun q e => (HI.out.own.lt q e).1)) h1 _
        have hJ1 := HJB.out _ _ _ HJ.out hb1
        obtain ⟨g', cap', rfl, hg1, hg2, hg3⟩ := own_form hown' (by omega)
        have hcall := IH.out (n - 1) (p ++ [i]) (i + 1) (done ++ (combsTo N k from_ i).map (p ++ ·)) _ _ (by omega) (by simp; omega) hI1 hJ1 (by
          refine List.IsPrefix.trans ?_ HALL.out
          have := combsTo_prefix N k from_ (N - (i + 1)) (i + 1) (by omega)
          rw [show i + 1 + (N - (i + 1)) = N from by omega, combsTo_end, combsTo_succ _ _ _ _ hfi] at this
          obtain ⟨r, hr⟩ := this
          refine ⟨r.map (p ++ ·), ?_⟩
          rw [← hr]
          simp [List.append_assoc])
        have hmore : (done ++ (combsTo N k from_ i).map (p ++ ·)) ++ (combs N k (i + 1)).map ((p ++ [i]) ++ ·) = done ++ (combsTo N k from_ (i + 1)).map (p ++ ·) := by
          rw [combsTo_succ _ _ _ _ hfi]
          simp [List.append_assoc]
        rw [hmore, show (((p ++ [i]).length + k : Nat) : Int) = (p.length : Int) + ((k : Int) + 1) from by simp; omega, show ((i + 1 : Nat) : Int) = (i : Int) + 1 from by omega] at hcall
        have HC := Lib.hid hcall
        have HI1 := Lib.hid hI1
        have q1 : w1.cell? ⟨lb, 0, none⟩ = some lv2 := by
          have own := HI.out.own.alloc (.cells #[.int .i64 (i : Int)] 3)
          exact ((HI.out.hl.alloc _).grown hgrow (own_ne own (HI.out.hl.alloc _) (by decide))).cell 0
        have q2 : w1.frozen? ⟨lb, 0, none⟩ = false := by
          have own := HI.out.own.alloc (.cells #[.int .i64 (i : Int)] 3)
          exact ((HI.out.hl.alloc _).grown hgrow (own_ne own (HI.out.hl.alloc _) (by decide))).frozen 0
        have q3 : (w1.setCell ⟨lb, 0, none⟩ (.slice (some ⟨g', 0, none⟩) (p.length + 1) cap')).cell? ⟨fb, 0, none⟩ = _ := HI1.out.hf.cell 0
        have HG := Lib.hid hgrow
        have HO := Lib.hid hown'
        clear hcall hI1 hJ1 hmore hgrow hown' hb1
        gi_wp2_with fail
        refine ⟨trivial, hdd _, HC.out.mono ?_⟩
        clear HC IH q1 q2 q3 HG HO hl1 hlf hs1 HI
        rintro e w3 ⟨⟨lv3, hI3⟩, hout⟩
        have hI3' := hI3
        obtain ⟨g3, cap3, rfl, hg31, hg32, hg33⟩ := own_form hI3.own (by simp)
        rw [show (p ++ [i]).length = p.length + 1 from by simp] at hI3' hI3
        have k1 : w3.cell? ⟨lb, 0, none⟩ = some (.slice (some ⟨g3, 0, none⟩) (p.length + 1) cap3) := hI3.hl.cell 0
        have k2 := hI3.hl.frozen 0
        have hcap : p.length + 1 ≤ cap3 := by simpa using hg33
        have hI4 := hI3'.pop e1 (by omega) e3
        have hb4 : Below bw w3 (w3.setCell ⟨lb, 0, none⟩ (.slice (some ⟨g3, 0, none⟩) p.length cap3)) := below_setB (Below.refl _ _) h1 _
        have HI4 := Lib.hid hI4
        have HB4 := Lib.hid hb4
        clear hI3 hI3' hI4 hb4
        rcases hout with ⟨rfl, hJ3⟩ | ⟨rfl, pre, hpre, hx3⟩
        · have HJ3 := Lib.hid hJ3
          clear hJ3
          gi_wp2
          go_roundw
          case rel => exact ⟨i + 1, .slice (some ⟨g3, 0, none⟩) p.length cap3, by go_num, by omega, by omega, HI4, HJB.out _ _ _ HJ3.out HB4.out⟩
          case measure => simp [intOf]; omega
        · have HPRE := Lib.hid hpre
          have HX3 := Lib.hid hx3
          clear hpre hx3
          gi_wp2
          go_ret
          exact ⟨⟨_, HI4.out⟩, .inr ⟨rfl, pre, HPRE.out, HJXB.out _ _ _ HX3.out (grownSet _ _ _)⟩⟩
      · gi_wp2
        go_ret
        obtain rfl : i = N := by omega
        rw [combsTo_end] at HJ
        exact ⟨⟨_, HI.out⟩, .inl ⟨rfl, HJ.out⟩⟩
end Go.Proofs.Ytblbbhenmhkknaa
