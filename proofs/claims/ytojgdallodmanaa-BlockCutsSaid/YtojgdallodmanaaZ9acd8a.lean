/- Blocks that are known whole, rounds of a loop over a function. (block.cut).blocks. The blocks of a cut, asked for in a region. block.Bad. Whether one of some blocks does not hang together; whether one of them can be heavier than so much. -/
import Derived.RangeFuncNested
import Derived.RangeFuncBound
import Derived.RangeFuncCalls
import Derived.RangeFuncLeaves
import Derived.RangeFuncWrites
import Derived.Shelf.Abstract
import Derived.Shelf.RegionOpen
import Derived.WalkKit
import Derived.OwnWalkIn
import Derived.TacticsInMore
import Derived.LoopNIn
import Derived.LoopIn
import Derived.WalkSmall
import Derived.Laws.EntriesVeiled
import Derived.Test.YtojgdallodmanaaZ382934
namespace Go.Proofs.Ytojgdallodmanaa
open Go.RowKit Go.Shelf

/-- A block that is known whole. -/
def Blk (w : World) (g : Nat) (t : TypeId) (cs : Array Value) : Prop := w.heap[g]? = some (.cells cs t (0, 0))
section
variable {w w' : World} {g : Nat} {t : TypeId} {cs : Array Value}
theorem Blk.lt (h : Blk w g t cs) : g < w.heap.size := by
  rcases Nat.lt_or_ge g w.heap.size with hlt | hge
  · exact hlt
  · unfold Blk at h; rw [Array.getElem?_eq_none hge] at h; cases h
theorem Blk.cell (h : Blk w g t cs) (i : Nat) : w.cell? ⟨g, i, none⟩ = cs[i]? := by
  unfold Blk at h; simp [World.cell?, h]
theorem Blk.frozen (h : Blk w g t cs) (i : Nat) : w.frozen? ⟨g, i, none⟩ = false := by
  unfold Blk at h
  simp [World.frozen?, h]
theorem Blk.new (w : World) (t : TypeId) (cs : Array Value) : Blk (w.alloc (.cells cs t)) w.heap.size t cs := by
  unfold Blk; exact World.alloc_heap_new w _
theorem Blk.alloc (h : Blk w g t cs) (o : Obj) : Blk (w.alloc o) g t cs := (Below.heap_alloc w o g h.lt).trans h
theorem Blk.set_ (h : Blk w g t cs) (i : Nat) (u : Value) : Blk (w.setCell ⟨g, i, none⟩ u) g t (cs.setIfInBounds i u) := by
  unfold Blk at h ⊢
  simp [World.setCell, Array.getElem?_modify, h]
theorem Blk.far (h : Blk w g t cs) {p : Addr} (hp : g ≠ p.block) (u : Value) : Blk (w.setCell p u) g t cs := (Below.heap_setCell w p u g hp).trans h
theorem Blk.same (h : Blk w g t cs) (hs : w'.heap[g]? = w.heap[g]?) : Blk w' g t cs := hs.trans h
theorem Blk.grown {row : Option Nat} (h : Blk w g t cs) (hb : w.grownBy w' row) (hg : some g ≠ row) : Blk w' g t cs := (hb.block g h.lt hg).trans h
theorem own_ne {base : Nat} {e : TypeId} {size : Nat} {v : Value} {n : Nat} {xs : List Value} (h : w.ownsRow base e size v n xs) (hb : Blk w g t cs) (ht : t ≠ e) : some g ≠ v.ownBlock := by
  intro e2
  rcases h.2 with ⟨rfl, _⟩ | ⟨g', cap, cur, rfl, _, hg, _⟩
  · cases e2
  · simp only [Value.ownBlock, Option.some.injEq] at e2
    subst e2
    unfold Blk at hb
    rw [hb] at hg
    injection hg with hg
    injection hg with _ h2 _
    exact ht h2
theorem ownsRow_same {base : Nat} {e : TypeId} {size : Nat} {v : Value} {n : Nat} {xs : List Value} (h : w.ownsRow base e size v n xs) (hs : ∀ k, base ≤ k → k < w.heap.size → w'.heap[k]? = w.heap[k]?) : w'.ownsRow base e size v n xs := by
  obtain ⟨h1, h2⟩ := h
  refine ⟨h1, ?_⟩
  rcases h2 with h2 | ⟨g, cap, cur, hv, hb, hg, r⟩
  · exact .inl h2
  · refine .inr ⟨g, cap, cur, hv, hb, ?_, r⟩
    have hlt : g < w.heap.size := by
      rcases Nat.lt_or_ge g w.heap.size with hlt | hge
      · exact hlt
      · rw [Array.getElem?_eq_none hge] at hg; cases hg
    rw [hs g hb hlt]; exact hg
end

theorem grownSet (w : World) (c : Nat) (u : Value) : w.grownBy (w.setCell ⟨c, 0, none⟩ u) (some c) :=
  ⟨rfl, rfl, rfl, by simp [World.setCell], fun k _ hne => Below.heap_setCell _ _ _ _ (fun e => hne (by rw [e]))⟩
theorem below_setB {B : Nat} {a w : World} (h : Below B a w) {c : Nat} (hc : B ≤ c) (u : Value) : Below B a (w.setCell ⟨c, 0, none⟩ u) := h.setCell hc u

theorem roomN (k : Nat) : Fence.wide.room k := fun d h => by cases h
theorem RoundAny {m m' : Nat} {P : Program} {l : Nat} {f : FuncId} {tmps : Array Value} {assign body : Code} {w : World} {R : Ending → World → Prop}
    (h : RoundIn Fence.wide m P l f tmps assign body w R) : RoundIn Fence.wide m' P l f tmps assign body w R := ⟨h.1, fun c cs _ => h.2 c cs (roomN _)⟩
theorem YieldAny {m : Nat} (m' : Nat) {P : Program} {l : Nat} {args : Array Value} {W : World} {R : Ending → World → Prop} (h : YieldAt Fence.wide m P l args W R) : YieldAt Fence.wide m' P l args W R := by
  obtain ⟨fn, tmps, assign, body, hy, hR⟩ := h
  exact ⟨fn, tmps, assign, body, hy, RoundAny hR⟩

theorem hdd (k : Nat) : (Fence.wide.depth.isSome = true → 1 ≤ k) := fun h => by cases h
theorem below_putObj {B : Nat} (X : World) {k : Nat} (hk : B ≤ k) (o : Obj) : Below B X (X.putObj k o) :=
  ⟨rfl, rfl, rfl, by simp [World.putObj], fun i hi => World.putObj_heap_other (by omega)⟩
theorem cell_put {W : World} {k : Nat} {o : Obj} (ho : W.heap[k]? = some o) (hc : o.isCells = false) (o' : Obj) (p : Addr) (hc2 : o'.isCells = false := by rfl) : (W.putObj k o').cell? p = W.cell? p := by
  rcases Decidable.em (p.block = k) with e | hne
  · have h1 : (W.putObj k o').heap[p.block]? = some o' := by rw [e]; exact World.putObj_heap_same (Array.getElem?_eq_some_iff.1 ho).1
    have h2 : W.heap[p.block]? = some o := by rw [e]; exact ho
    simp only [World.cell?, h1, h2]
    cases o <;> cases o' <;> simp_all [Obj.isCells]
  · have e : (W.putObj k o').heap[p.block]? = W.heap[p.block]? := World.putObj_heap_other (by omega)
    simp only [World.cell?, e]
end Go.Proofs.Ytojgdallodmanaa

namespace Go.Proofs.Ytojgdallodmanaa
open Go.RowKit

/-- The blocks of the first k parts of a cut, and how many they are. -/
def blkTo (c : List Nat) : Nat → List Nat
  | 0 => List.replicate 8 0
  | k + 1 => match c[k]? with
    | some n => (blkTo c k).set n ((blkTo c k)[n]?.getD 0 ||| 2 ^ k)
    | none => blkTo c k
def manyTo (c : List Nat) : Nat → Nat
  | 0 => 0
  | k + 1 => match c[k]? with
    | some n => max (manyTo c k) (n + 1)
    | none => manyTo c k
theorem blkTo_len (c : List Nat) : ∀ k, (blkTo c k).length = 8 := by
  intro k
  induction k with
  | zero => rfl
  | succ k ih =>
    rw [blkTo]
    split
    · rw [List.length_set]; exact ih
    · exact ih
theorem blkTo_lt (c : List Nat) : ∀ k, k ≤ 8 → ∀ x ∈ blkTo c k, x < 256 := by
  intro k
  induction k with
  | zero =>
    intro _ x hx
    rw [blkTo, List.mem_replicate] at hx
    omega
  | succ k ih =>
    intro hk x hx
    rw [blkTo] at hx
    split at hx
    · rename_i n _
      rcases List.mem_or_eq_of_mem_set hx with h | h
      · exact ih (by omega) x h
      · rw [h]
        refine or_lt ?_ (pow_lt (by omega))
        cases hg : (blkTo c k)[n]? with
        | none => simp
        | some y => exact ih (by omega) y (List.mem_of_getElem? hg)
    · exact ih (by omega) x hx
theorem manyTo_le {c : List Nat} (hc : ∀ x ∈ c, x < 8) : ∀ k, manyTo c k ≤ 8 := by
  intro k
  induction k with
  | zero => simp [manyTo]
  | succ k ih =>
    rw [manyTo]
    split
    · rename_i n hn
      have := hc n (List.mem_of_getElem? hn)
      omega
    · exact ih
def cutV (c : List Nat) : Value := .agg (c.map nv).toArray
theorem eight {l : List Nat} (h : l.length = 8) : ∃ a b c d e f g i, l = [a, b, c, d, e, f, g, i] := by
  match l, h with
  | [a, b, c, d, e, f, g, i], _ => exact ⟨a, b, c, d, e, f, g, i, rfl⟩
theorem Blk.nat {w : World} {g : Nat} {t : TypeId} {l : List Nat} (h : Blk w g t (l.map nv).toArray) {i x : Nat} (hi : l[i]? = some x) : w.cell? ⟨g, i, none⟩ = some (nv x) := by
  rw [h.cell]; simp [hi]
theorem Blk.setNat {w : World} {g : Nat} {t : TypeId} {l : List Nat} (h : Blk w g t (l.map nv).toArray) (i x : Nat) : Blk (w.setCell ⟨g, i, none⟩ (nv x)) g t ((l.set i x).map nv).toArray := by
  have := h.set_ i (nv x)
  rwa [List.setIfInBounds_toArray, ← List.map_set] at this

theorem und123 : Try.prog.underlying 123 = some (.array (Try.prog.arrayLen 123) (Try.prog.elem 123)) := by kernel_rfl
theorem und122 : Try.prog.underlying 122 = some (.array (Try.prog.arrayLen 122) (Try.prog.elem 122)) := by kernel_rfl
theorem len123 : Try.prog.arrayLen 123 = 8 := by kernel_rfl
theorem len122 : Try.prog.arrayLen 122 = 8 := by kernel_rfl
theorem size123 (w : World) : (sizeOf (Try.prog.elem 123)).run Try.prog w = .ok 1 w := by kernel_rfl
theorem size122 (w : World) : (sizeOf (Try.prog.elem 122)).run Try.prog w = .ok 1 w := by kernel_rfl
theorem slice123 (w : World) (b n : Nat) (hn : n ≤ 8) : (Instr.sliceAt 123 (.pointer (some ⟨b, 0, none⟩)) none (some (.int .i64 (n : Int))) none).run Try.prog w = .ok (.slice (some ⟨b, 0, none⟩) n 8) w := by
  rw [run_sliceAt_array_h w 123 ⟨b, 0, none⟩ und123 .i64 (n : Int) (by omega) (by rw [len123]; omega), size123]
  simp [slicedAt, len123, Addr.add]
theorem slice122 (w : World) (b n : Nat) (hn : n ≤ 8) : (Instr.sliceAt 122 (.pointer (some ⟨b, 0, none⟩)) none (some (.int .i64 (n : Int))) none).run Try.prog w = .ok (.slice (some ⟨b, 0, none⟩) n 8) w := by
  rw [run_sliceAt_array_h w 122 ⟨b, 0, none⟩ und122 .i64 (n : Int) (by omega) (by rw [len122]; omega), size122]
  simp [slicedAt, len122, Addr.add]

def BlocksPost (c : List Nat) (n : Nat) (w : World) (e : Ending) (w' : World) : Prop := e = .returned (.tuple #[cutV (blkTo c n), nv (manyTo c n)]) ∧ Below w.heap.size w w'

set_option maxRecDepth 100000 in
set_option maxHeartbeats 8000000 in
theorem blocks_any (c : List Nat) (n : Nat) (w : World) (hc : c.length = 8) (hc8 : ∀ x ∈ c, x < 8) (hn : n ≤ 8) :
    Calls Try.prog 79 #[cutV c, .int .i64 n] w (BlocksPost c n w) := by
  obtain ⟨POST, hPOST⟩ : ∃ P, BlocksPost c n w = P := ⟨_, rfl⟩
  have HP : Hid (∀ e w', e = .returned (.tuple #[cutV (blkTo c n), nv (manyTo c n)]) → Below w.heap.size w w' → POST e w') := Lib.hid fun e w' h1 h2 => by rw [← hPOST]; exact ⟨h1, h2⟩
  rw [hPOST]
  clear hPOST
  obtain ⟨W2, hW2⟩ : ∃ W2, (w.alloc (.cells (c.map nv).toArray 123)).alloc (.cells #[.int .i64 0, .int .i64 0, .int .i64 0, .int .i64 0, .int .i64 0, .int .i64 0, .int .i64 0, .int .i64 0] 122) = W2 := ⟨_, rfl⟩
  have b0 : Blk W2 w.heap.size 123 (c.map nv).toArray := by rw [← hW2]; exact (Blk.new w 123 _).alloc _
  have b1 : Blk W2 (w.heap.size + 1) 122 ((blkTo c 0).map nv).toArray := by
    rw [← hW2]
    have h := Blk.new (w.alloc (.cells (c.map nv).toArray 123)) 122 #[.int .i64 0, .int .i64 0, .int .i64 0, .int .i64 0, .int .i64 0, .int .i64 0, .int .i64 0, .int .i64 0]
    rw [World.size_alloc] at h
    exact h
  have hb : Below w.heap.size w W2 := by rw [← hW2]; exact belowA (belowA (belowR _) _) _
  have hz : W2.heap.size = w.heap.size + 2 := by rw [← hW2]; simp
  have B0 := Lib.hid b0
  have B1 := Lib.hid b1
  have HB := Lib.hid hb
  clear b0 b1 hb hz
  have hcv : cutV c = .agg (c.map nv).toArray := rfl
  obtain ⟨c0, c1, c2, c3, c4, c5, c6, c7, hce⟩ := eight hc
  have HCE := Lib.hid hce
  rw [hcv]
  rw [hce] at hW2 ⊢
  simp only [List.map_cons, List.map_nil] at hW2 ⊢
  have hsl := fun W b => slice123 W b n hn
  have hwr : ∀ k : Nat, k < 8 → IntKind.i64.wrap (2 ^ k) = ((2 ^ k : Nat) : Int) := fun k hk => shl1 k (by omega)
  go_enter Try.func79, Try.ntmps79
  go_wp2_with fail
  clear hW2 hsl hcv
  go_loopw [5, 11] (fun vm vi wr => ∃ k : Nat, k ≤ n ∧ vi = .int .i64 k ∧ vm = .int .i64 (manyTo c k) ∧ Hid (Blk wr w.heap.size 123 (c.map nv).toArray) ∧ Hid (Blk wr (w.heap.size + 1) 122 ((blkTo c k).map nv).toArray) ∧ Hid (Below w.heap.size w wr)) (fun _ vi _ => n - (intOf vi).toNat)
  case atStart => exact ⟨0, Nat.zero_le _, rfl, rfl, B0, B1, HB⟩
  case round =>
    clear B0 B1 HB
    obtain ⟨k, hk, rfl, rfl, B0, B1, HB⟩ := hrel
    by_cases hlt : k < n
    · obtain ⟨x, hx⟩ : ∃ x, c[k]? = some x := ⟨_, List.getElem?_eq_getElem (by omega)⟩
      have hx8 := hc8 x (List.mem_of_getElem? hx)
      have e0 : wr.cell? ⟨w.heap.size, k, none⟩ = some (nv x) := B0.out.nat hx
      obtain ⟨s, hs⟩ : ∃ s, (blkTo c k)[x]? = some s := ⟨_, List.getElem?_eq_getElem (by rw [blkTo_len]; exact hx8)⟩
      have hsl := blkTo_lt c k (by omega) s (List.mem_of_getElem? hs)
      have e1 : wr.cell? ⟨w.heap.size + 1, x, none⟩ = some (nv s) := B1.out.nat hs
      have ef := B1.out.frozen x
      have hst : blkTo c (k + 1) = (blkTo c k).set x (s ||| 2 ^ k) := by rw [blkTo, hx]; simp only; rw [hs]; rfl
      have hmt : manyTo c (k + 1) = max (manyTo c k) (x + 1) := by rw [manyTo, hx]
      have hmk : ((max (manyTo c k) (x + 1) : Nat) : Int) = max (manyTo c k : Int) ((x : Int) + 1) := by omega
      have hsh := hwr k (by omega)
      have hor := or64 (a := s) (b := 2 ^ k) (by omega) (by have := pow_lt (a := k) (by omega); omega)
      have HST := Lib.hid hst
      have HMT := Lib.hid hmt
      have HMK := Lib.hid hmk
      obtain ⟨P, hP⟩ : ∃ P, (2 ^ k : Nat) = P := ⟨_, rfl⟩
      have hml := manyTo_le hc8 k
      obtain ⟨m, hm⟩ : ∃ m, manyTo c k = m := ⟨_, rfl⟩
      rw [hP] at hsh hor HST
      rw [hm] at HMT HMK hml ⊢
      obtain ⟨S, hS⟩ : ∃ S, s ||| P = S := ⟨_, rfl⟩
      rw [hS] at hor HST
      clear hst hmt hmk hP hm hS hx hs hwr
      go_wp2_with fail
      go_region
      all_goals go_wp2_with fail
      refine ⟨⟨k + 1, by omega, by go_num, by rw [HMT.out, HMK.out], Lib.hid (B0.out.far (by simp only; omega) _), Lib.hid ?_, Lib.hid (belowDr (belowS HB.out (by simp only; omega) _))⟩, by simp [intOf]; omega⟩
      rw [HST.out]
      exact B1.out.setNat x S
    · obtain rfl : k = n := by omega
      clear hwr
      have hml := manyTo_le hc8 k
      obtain ⟨s0, s1, s2, s3, s4, s5, s6, s7, hse⟩ := eight (blkTo_len c k)
      have hB1 := B1.out
      rw [hse] at hB1
      have e0 : wr.cell? ⟨w.heap.size + 1, 0, none⟩ = some (nv s0) := hB1.nat rfl
      have e1 : wr.cell? ⟨w.heap.size + 1, 1, none⟩ = some (nv s1) := hB1.nat rfl
      have e2 : wr.cell? ⟨w.heap.size + 1, 2, none⟩ = some (nv s2) := hB1.nat rfl
      have e3 : wr.cell? ⟨w.heap.size + 1, 3, none⟩ = some (nv s3) := hB1.nat rfl
      have e4 : wr.cell? ⟨w.heap.size + 1, 4, none⟩ = some (nv s4) := hB1.nat rfl
      have e5 : wr.cell? ⟨w.heap.size + 1, 5, none⟩ = some (nv s5) := hB1.nat rfl
      have e6 : wr.cell? ⟨w.heap.size + 1, 6, none⟩ = some (nv s6) := hB1.nat rfl
      have e7 : wr.cell? ⟨w.heap.size + 1, 7, none⟩ = some (nv s7) := hB1.nat rfl
      have f0 := hB1.frozen 0
      have f1 := hB1.frozen 1
      have f2 := hB1.frozen 2
      have f3 := hB1.frozen 3
      have f4 := hB1.frozen 4
      have f5 := hB1.frozen 5
      have f6 := hB1.frozen 6
      have f7 := hB1.frozen 7
      have HB1 := Lib.hid hB1
      have HSE := Lib.hid hse
      clear hB1 hse
      go_wp2_with fail
      obtain ⟨wx, hwx⟩ : ∃ wx, ((((((((wr.setCell ⟨w.heap.size + 1, 0, none⟩ (nv s0)).setCell ⟨w.heap.size + 1, 1, none⟩ (nv s1)).setCell ⟨w.heap.size + 1, 2, none⟩ (nv s2)).setCell ⟨w.heap.size + 1, 3, none⟩ (nv s3)).setCell ⟨w.heap.size + 1, 4, none⟩ (nv s4)).setCell ⟨w.heap.size + 1, 5, none⟩ (nv s5)).setCell ⟨w.heap.size + 1, 6, none⟩ (nv s6)).setCell ⟨w.heap.size + 1, 7, none⟩ (nv s7)) = wx := ⟨_, rfl⟩
      have hbx : Blk wx (w.heap.size + 1) 122 ([s0, s1, s2, s3, s4, s5, s6, s7].map nv).toArray := by
        rw [← hwx]
        exact (((((((HB1.out.setNat 0 s0).setNat 1 s1).setNat 2 s2).setNat 3 s3).setNat 4 s4).setNat 5 s5).setNat 6 s6).setNat 7 s7
      have hbw : Below w.heap.size w wx := by
        rw [← hwx]
        have hle : w.heap.size ≤ w.heap.size + 1 := by omega
        exact belowS (belowS (belowS (belowS (belowS (belowS (belowS (belowS HB.out hle _) hle _) hle _) hle _) hle _) hle _) hle _) hle _
      rw [hwx]
      clear hwx e0 e1 e2 e3 e4 e5 e6 e7 f0 f1 f2 f3 f4 f5 f6 f7
      have e0 : wx.cell? ⟨w.heap.size + 1, 0, none⟩ = some (nv s0) := hbx.nat rfl
      have e1 : wx.cell? ⟨w.heap.size + 1, 1, none⟩ = some (nv s1) := hbx.nat rfl
      have e2 : wx.cell? ⟨w.heap.size + 1, 2, none⟩ = some (nv s2) := hbx.nat rfl
      have e3 : wx.cell? ⟨w.heap.size + 1, 3, none⟩ = some (nv s3) := hbx.nat rfl
      have e4 : wx.cell? ⟨w.heap.size + 1, 4, none⟩ = some (nv s4) := hbx.nat rfl
      have e5 : wx.cell? ⟨w.heap.size + 1, 5, none⟩ = some (nv s5) := hbx.nat rfl
      have e6 : wx.cell? ⟨w.heap.size + 1, 6, none⟩ = some (nv s6) := hbx.nat rfl
      have e7 : wx.cell? ⟨w.heap.size + 1, 7, none⟩ = some (nv s7) := hbx.nat rfl
      refine bodyPost_ret (v := .tuple #[.agg #[nv s0, nv s1, nv s2, nv s3, nv s4, nv s5, nv s6, nv s7], nv (manyTo c k)]) (by simp [results, Try.results79, go_sem, e0, e1, e2, e3, e4, e5, e6, e7]) rfl ?_
      refine HP.out _ _ ?_ hbw
      rw [HSE.out]
      rfl
end Go.Proofs.Ytojgdallodmanaa

namespace Go.Proofs.Ytojgdallodmanaa
open Go.RowKit

theorem below8 {a w : World} {g : Nat} (h : Below a.heap.size a w) (hg : a.heap.size ≤ g) (v0 v1 v2 v3 v4 v5 v6 v7 : Value) : Below a.heap.size a ((((((((w.setCell ⟨g, 0, none⟩ v0).setCell ⟨g, 1, none⟩ v1).setCell ⟨g, 2, none⟩ v2).setCell ⟨g, 3, none⟩ v3).setCell ⟨g, 4, none⟩ v4).setCell ⟨g, 5, none⟩ v5).setCell ⟨g, 6, none⟩ v6).setCell ⟨g, 7, none⟩ v7) :=
  belowS (belowS (belowS (belowS (belowS (belowS (belowS (belowS h hg _) hg _) hg _) hg _) hg _) hg _) hg _) hg _
theorem Blk.set8 {w : World} {g : Nat} {t : TypeId} {x0 x1 x2 x3 x4 x5 x6 x7 : Value} (h : Blk w g t #[x0, x1, x2, x3, x4, x5, x6, x7]) (v0 v1 v2 v3 v4 v5 v6 v7 : Value) : Blk ((((((((w.setCell ⟨g, 0, none⟩ v0).setCell ⟨g, 1, none⟩ v1).setCell ⟨g, 2, none⟩ v2).setCell ⟨g, 3, none⟩ v3).setCell ⟨g, 4, none⟩ v4).setCell ⟨g, 5, none⟩ v5).setCell ⟨g, 6, none⟩ v6).setCell ⟨g, 7, none⟩ v7) g t #[v0, v1, v2, v3, v4, v5, v6, v7] := by
  have := (((((((h.set_ 0 v0).set_ 1 v1).set_ 2 v2).set_ 3 v3).set_ 4 v4).set_ 5 v5).set_ 6 v6).set_ 7 v7
  simpa using this

set_option maxRecDepth 100000 in
set_option maxHeartbeats 8000000 in
theorem reg28_15 {Q : Exit → Act → World → Prop} {V : World} {g gc : Nat} {c : List Nat} {c0 c1 c2 c3 c4 c5 c6 c7 n cap : Nat} {A : Option Addr} {z0 z1 z2 z3 z4 z5 z6 z7 z9 z11 z12 z13 z14 z15 z16 z17 z18 z19 z20 z21 z22 z23 z24 z25 z26 z27 z28 z29 z30 z31 z32 z33 z34 z35 z36 z37 z38 z39 z40 z41 z42 z43 z44 z45 z46 z47 z48 z49 z50 z51 z52 z53 z54 z55 z56 z57 z58 z59 z60 z61 z62 z63 z64 z65 z66 z67 z68 z69 z70 z71 z72 z73 z74 z75 z76 z77 z78 z79 z80 z81 z82 z83 z84 z85 z86 z87 z88 z89 z90 : Value} (hce : c = [c0, c1, c2, c3, c4, c5, c6, c7]) (hc8 : ∀ x ∈ c, x < 8) (hn : n ≤ 8)
    (hS : ∀ W, Below V.heap.size V W → W.cell? ⟨gc, 0, none⟩ = some (nv c0) ∧ W.cell? ⟨gc, 1, none⟩ = some (nv c1) ∧ W.cell? ⟨gc, 2, none⟩ = some (nv c2) ∧ W.cell? ⟨gc, 3, none⟩ = some (nv c3) ∧ W.cell? ⟨gc, 4, none⟩ = some (nv c4) ∧ W.cell? ⟨gc, 5, none⟩ = some (nv c5) ∧ W.cell? ⟨gc, 6, none⟩ = some (nv c6) ∧ W.cell? ⟨gc, 7, none⟩ = some (nv c7) ∧ W.cell? ⟨g, 0, none⟩ = some (.slice A n cap))
    (hQ : ∀ gg u60 u61 u62 u63 u64 u65 u66 u67 u68 u69 u70 wx, V.heap.size ≤ gg → gg < wx.heap.size → Below V.heap.size V wx → Blk wx gg 122 ((blkTo c n).map nv).toArray → Q .normal ⟨#[z0, z1, z2, z3, z4, z5, z6, z7, ptr g, z9, .pointer (some ⟨gc, 0, none⟩), z11, z12, z13, .pointer (some ⟨gg, 0, none⟩), nv (manyTo c n), z16, z17, z18, z19, z20, z21, z22, z23, z24, z25, z26, z27, z28, z29, z30, z31, z32, z33, z34, z35, z36, z37, z38, z39, z40, z41, z42, z43, z44, z45, z46, z47, z48, z49, z50, z51, z52, z53, z54, z55, z56, z57, z58, z59, u60, u61, u62, u63, u64, u65, u66, u67, u68, u69, u70, z71, z72, z73, z74, z75, z76, z77, z78, z79, z80, z81, z82, z83, z84, z85, z86, z87, z88, z89, z90], []⟩ wx) :
    (regionOf Try.f28 15).wp Try.prog Q ⟨#[z0, z1, z2, z3, z4, z5, z6, z7, ptr g, z9, .pointer (some ⟨gc, 0, none⟩), z11, z12, z13, z14, z15, z16, z17, z18, z19, z20, z21, z22, z23, z24, z25, z26, z27, z28, z29, z30, z31, z32, z33, z34, z35, z36, z37, z38, z39, z40, z41, z42, z43, z44, z45, z46, z47, z48, z49, z50, z51, z52, z53, z54, z55, z56, z57, z58, z59, z60, z61, z62, z63, z64, z65, z66, z67, z68, z69, z70, z71, z72, z73, z74, z75, z76, z77, z78, z79, z80, z81, z82, z83, z84, z85, z86, z87, z88, z89, z90], []⟩ V := by
  have HQ := Lib.hid hQ
  have HS := Lib.hid hS
  have hcl : c.length = 8 := by rw [hce]; rfl
  have hbk := fun W => blocks_any c n W hcl hc8 hn
  have hcv : cutV c = .agg #[nv c0, nv c1, nv c2, nv c3, nv c4, nv c5, nv c6, nv c7] := by rw [hce]; rfl
  obtain ⟨s0, s1, s2, s3, s4, s5, s6, s7, hse⟩ := eight (blkTo_len c n)
  have hsv : cutV (blkTo c n) = .agg #[nv s0, nv s1, nv s2, nv s3, nv s4, nv s5, nv s6, nv s7] := by rw [hse]; rfl
  unfold BlocksPost at hbk
  rw [hcv, hsv] at hbk
  have HBK := Lib.hid hbk
  have hQ2 : ∀ gg u60 u61 u62 u63 u64 u65 u66 u67 u68 u69 u70 wx, V.heap.size ≤ gg → gg < wx.heap.size → Below V.heap.size V wx → Blk wx gg 122 #[nv s0, nv s1, nv s2, nv s3, nv s4, nv s5, nv s6, nv s7] → Q .normal ⟨#[z0, z1, z2, z3, z4, z5, z6, z7, ptr g, z9, .pointer (some ⟨gc, 0, none⟩), z11, z12, z13, .pointer (some ⟨gg, 0, none⟩), nv (manyTo c n), z16, z17, z18, z19, z20, z21, z22, z23, z24, z25, z26, z27, z28, z29, z30, z31, z32, z33, z34, z35, z36, z37, z38, z39, z40, z41, z42, z43, z44, z45, z46, z47, z48, z49, z50, z51, z52, z53, z54, z55, z56, z57, z58, z59, u60, u61, u62, u63, u64, u65, u66, u67, u68, u69, u70, z71, z72, z73, z74, z75, z76, z77, z78, z79, z80, z81, z82, z83, z84, z85, z86, z87, z88, z89, z90], []⟩ wx := fun gg u60 u61 u62 u63 u64 u65 u66 u67 u68 u69 u70 wx a b d e => HQ.out gg u60 u61 u62 u63 u64 u65 u66 u67 u68 u69 u70 wx a b d (by rw [hse]; exact e)
  have HQ2 := Lib.hid hQ2
  clear hQ hS hbk hcv hsv hse hQ2 HQ hce
  conv => arg 2; whnf
  have hb0 : Below V.heap.size V V.drew := belowDq (belowR V)
  have HB0 := Lib.hid hb0
  clear hb0
  go_region_held3 (fun W => W.cell? ⟨gc, 0, none⟩ = some (nv c0) ∧ W.cell? ⟨gc, 1, none⟩ = some (nv c1) ∧ W.cell? ⟨gc, 2, none⟩ = some (nv c2) ∧ W.cell? ⟨gc, 3, none⟩ = some (nv c3) ∧ W.cell? ⟨gc, 4, none⟩ = some (nv c4) ∧ W.cell? ⟨gc, 5, none⟩ = some (nv c5) ∧ W.cell? ⟨gc, 6, none⟩ = some (nv c6) ∧ W.cell? ⟨gc, 7, none⟩ = some (nv c7) ∧ W.cell? ⟨g, 0, none⟩ = some (.slice A n cap)) (first | (with_reducible exact HS.out _ HB0.out) | (with_reducible exact HS.out _ (belowDq (belowA (belowR V) _))) | (with_reducible exact HS.out _ hb1) | (with_reducible exact HS.out _ (belowA hb1 _)) | (with_reducible exact HS.out _ (below8 hb1 (Nat.le_refl _) _ _ _ _ _ _ _ _)) | (with_reducible exact HS.out _ (below8 (belowA hb1 _) hb1.size _ _ _ _ _ _ _ _))) (((go_at_call 79; (first | ((with_reducible refine (HBK.out V.drew).mono ?_); rintro e w1 ⟨rfl, hb1'⟩; have hb1 := belowT HB0.out hb1') | ((with_reducible refine (HBK.out (V.alloc (.cells #[.int .i64 0, .int .i64 0, .int .i64 0, .int .i64 0, .int .i64 0, .int .i64 0, .int .i64 0, .int .i64 0] 122)).drew).mono ?_); rintro e w1 ⟨rfl, hb1'⟩; have hb1 := belowT (belowDq (belowA (belowR V) _)) hb1'; have hbl : Blk w1 V.heap.size 122 #[.int .i64 0, .int .i64 0, .int .i64 0, .int .i64 0, .int .i64 0, .int .i64 0, .int .i64 0, .int .i64 0] := (Blk.new V 122 #[.int .i64 0, .int .i64 0, .int .i64 0, .int .i64 0, .int .i64 0, .int .i64 0, .int .i64 0, .int .i64 0]).same (hb1'.block V.heap.size (by simp)); have e0 : w1.cell? ⟨V.heap.size, 0, none⟩ = some (.int .i64 0) := hbl.cell 0; have f0 := hbl.frozen 0; have e1 : w1.cell? ⟨V.heap.size, 1, none⟩ = some (.int .i64 0) := hbl.cell 1; have f1 := hbl.frozen 1; have e2 : w1.cell? ⟨V.heap.size, 2, none⟩ = some (.int .i64 0) := hbl.cell 2; have f2 := hbl.frozen 2; have e3 : w1.cell? ⟨V.heap.size, 3, none⟩ = some (.int .i64 0) := hbl.cell 3; have f3 := hbl.frozen 3; have e4 : w1.cell? ⟨V.heap.size, 4, none⟩ = some (.int .i64 0) := hbl.cell 4; have f4 := hbl.frozen 4; have e5 : w1.cell? ⟨V.heap.size, 5, none⟩ = some (.int .i64 0) := hbl.cell 5; have f5 := hbl.frozen 5; have e6 : w1.cell? ⟨V.heap.size, 6, none⟩ = some (.int .i64 0) := hbl.cell 6; have f6 := hbl.frozen 6; have e7 : w1.cell? ⟨V.heap.size, 7, none⟩ = some (.int .i64 0) := hbl.cell 7; have f7 := hbl.frozen 7; have hlt := hbl.lt)))))
  · exact HQ2.out w1.heap.size _ _ _ _ _ _ _ _ _ _ _ _ hb1.size (by simp) (belowA hb1 _) (Blk.new w1 122 _)
  · exact HQ2.out V.heap.size _ _ _ _ _ _ _ _ _ _ _ _ (Nat.le_refl _) (by simpa using hlt) (below8 hb1 (Nat.le_refl _) _ _ _ _ _ _ _ _) (hbl.set8 _ _ _ _ _ _ _ _)

end Go.Proofs.Ytojgdallodmanaa

namespace Go.Proofs.Ytojgdallodmanaa
open Go.RowKit

/-- The numbers of a cut as a variable holds them, the first k of them so far. -/
def numsTo (nums : List Int) (k : Nat) : List Nat := (nums.take k).map Int.toNat ++ List.replicate (8 - k) 0
def cut8 (nums : List Int) : List Nat := numsTo nums nums.length
def cutOkTo (nums : List Int) : Nat → Bool
  | 0 => true
  | k + 1 => cutOkTo nums k && (match nums[k]? with
    | some x => decide (0 ≤ x ∧ x ≤ (manyTo (cut8 nums) k : Int))
    | none => true)
theorem numsTo_len (nums : List Int) {k : Nat} (hk : k ≤ nums.length) (h8 : nums.length ≤ 8) : (numsTo nums k).length = 8 := by
  simp [numsTo]; omega
theorem numsTo_set (nums : List Int) {k : Nat} {x : Int} (hx : nums[k]? = some x) (h8 : nums.length ≤ 8) : (numsTo nums k).set k x.toNat = numsTo nums (k + 1) := by
  obtain ⟨hk, rfl⟩ := List.getElem?_eq_some_iff.1 hx
  have e : 8 - k = (8 - (k + 1)) + 1 := by omega
  unfold numsTo
  rw [List.set_append_right _ _ (by simp; omega), e, List.replicate_succ, List.take_succ_eq_append_getElem hk, List.map_append]
  have : k - (List.map Int.toNat (List.take k nums)).length = 0 := by simp; omega
  rw [this]
  simp
theorem numsTo_at (nums : List Int) {k : Nat} (hk : k < nums.length) (h8 : nums.length ≤ 8) : (numsTo nums k)[k]? = some 0 := by
  have e : ((nums.take k).map Int.toNat).length = k := by simp; omega
  unfold numsTo
  rw [List.getElem?_append_right (by omega), e, List.getElem?_replicate, if_pos (by omega)]
theorem cut8_at (nums : List Int) {k : Nat} {x : Int} (hx : nums[k]? = some x) : (cut8 nums)[k]? = some x.toNat := by
  obtain ⟨hk, rfl⟩ := List.getElem?_eq_some_iff.1 hx
  unfold cut8 numsTo
  rw [List.take_length, List.getElem?_append_left (by simpa using hk), List.getElem?_map, List.getElem?_eq_getElem hk]
  rfl
theorem manyTo_step {c : List Nat} {k n : Nat} (h : c[k]? = some n) : manyTo c (k + 1) = max (manyTo c k) (n + 1) := by rw [manyTo, h]
theorem cutOkTo_mono {nums : List Int} {m : Nat} : ∀ k, k ≤ m → cutOkTo nums m = true → cutOkTo nums k = true := by
  induction m with
  | zero => intro k hk h; obtain rfl : k = 0 := by omega
            exact h
  | succ m ih =>
    intro k hk h
    rcases Nat.lt_or_ge k (m + 1) with hlt | hge
    · rw [cutOkTo, Bool.and_eq_true] at h
      exact ih k (by omega) h.1
    · obtain rfl : k = m + 1 := by omega
      exact h
theorem cutOkTo_false {nums : List Int} {k m : Nat} (hk : k ≤ m) (h : cutOkTo nums k = false) : cutOkTo nums m = false := by
  cases hm : cutOkTo nums m with
  | false => rfl
  | true => rw [cutOkTo_mono k hk hm] at h; cases h
theorem many_le_k {nums : List Int} : ∀ k, k ≤ nums.length → cutOkTo nums k = true → manyTo (cut8 nums) k ≤ k := by
  intro k
  induction k with
  | zero => intro _ _; simp [manyTo]
  | succ k ih =>
    intro hk h
    have hx := List.getElem?_eq_getElem (show k < nums.length by omega)
    rw [cutOkTo, hx, Bool.and_eq_true] at h
    have := ih (by omega) h.1
    have h2 := h.2
    simp only [decide_eq_true_eq] at h2
    rw [manyTo_step (cut8_at nums hx)]
    omega
theorem cut8_lt {nums : List Int} (h8 : nums.length ≤ 8) (h : cutOkTo nums nums.length = true) : ∀ x ∈ cut8 nums, x < 8 := by
  intro x hx
  unfold cut8 numsTo at hx
  rw [List.take_length] at hx
  rcases List.mem_append.1 hx with hx | hx
  · obtain ⟨y, hy, rfl⟩ := List.mem_map.1 hx
    obtain ⟨k, hk⟩ := List.getElem?_of_mem hy
    have hkl := (List.getElem?_eq_some_iff.1 hk).1
    have h1 := cutOkTo_mono (k + 1) (by omega) h
    rw [cutOkTo, hk, Bool.and_eq_true] at h1
    have h2 := h1.2
    simp only [decide_eq_true_eq] at h2
    have := many_le_k k (by omega) h1.1
    omega
  · rw [List.mem_replicate] at hx
    omega

/-- The parts of a set hang together, and the winch can pull them. -/
def goodS (h : Hul) (N : List Nd) (s : Nat) : Bool := hangsB h.js s && decide (mostV h N s * h.shi ≤ 1000 * h.winch)
def badAt (h : Hul) (N : List Nd) (sets : List Nat) (many : Nat) : Int := match (List.range many).find? (fun i => !goodS h N (sets[i]?.getD 0)) with
  | some i => (i : Int)
  | none => -1
theorem badAt_none {h : Hul} {N : List Nd} {sets : List Nat} {many : Nat} (hh : ∀ i, i < many → goodS h N (sets[i]?.getD 0) = true) : badAt h N sets many = -1 := by
  unfold badAt
  rw [List.find?_range_eq_none.2 (fun i hi => by rw [hh i hi]; rfl)]
theorem badAt_some {h : Hul} {N : List Nd} {sets : List Nat} {many i : Nat} (hi : i < many) (hh : ∀ j, j < i → goodS h N (sets[j]?.getD 0) = true) (hb : goodS h N (sets[i]?.getD 0) = false) : badAt h N sets many = (i : Int) := by
  unfold badAt
  rw [List.find?_range_eq_some.2 ⟨by rw [hb]; rfl, by simpa using hi, fun j hj => by rw [hh j hj]; rfl⟩]
def BadPost (h : Hul) (l : List Wgh) (nums : List Int) (w : World) (e : Ending) (w' : World) : Prop :=
  Below w.heap.size w w' ∧ ((openE h l ≠ 0 ∧ e = .returned (.tuple #[iv 0, iv (openE h l)])) ∨ (openE h l = 0 ∧ openPre h l = 0 ∧ Feas h l ∧
    ((nums.length ≠ h.ps.length ∧ e = .returned (.tuple #[iv 0, iv 3])) ∨ (nums.length = h.ps.length ∧ cutOkTo nums nums.length = false ∧ e = .returned (.tuple #[iv 0, iv 6])) ∨
     (nums.length = h.ps.length ∧ cutOkTo nums nums.length = true ∧ ∃ N, IsTree h l N ∧ e = .returned (.tuple #[iv (badAt h N (blkTo (cut8 nums) h.ps.length) (manyTo (cut8 nums) h.ps.length)), iv 0])))))

theorem blkTo_lt2 (c : List Nat) : ∀ k, ∀ x ∈ blkTo c k, x < 2 ^ k := by
  intro k
  induction k with
  | zero =>
    intro x hx
    rw [blkTo, List.mem_replicate] at hx
    omega
  | succ k ih =>
    intro x hx
    have h2 : 2 ^ (k + 1) = 2 * 2 ^ k := by rw [Nat.pow_succ]; omega
    have hp : 1 ≤ 2 ^ k := Nat.one_le_two_pow
    rw [blkTo] at hx
    split at hx
    · rename_i n _
      rcases List.mem_or_eq_of_mem_set hx with h | h
      · have := ih x h; omega
      · rw [h]
        refine Nat.or_lt_two_pow (n := k + 1) ?_ (by omega)
        cases hg : (blkTo c k)[n]? with
        | none => exact Nat.two_pow_pos _
        | some y =>
          have := ih y (List.mem_of_getElem? hg)
          simp
          omega
    · have := ih x hx; omega

set_option maxRecDepth 100000 in
set_option maxHeartbeats 8000000 in
theorem bad_any (h : Hul) (A J : Option Addr) (B cap capJ : Nat) (AL : Option Addr) (l : List Wgh) (capL : Nat) (AN : Option Addr) (nums : List Int) (capN : Nat) (w : World) (hH : HulRd w B h A cap J capJ) (hL : RdN 3 encWgh w B AL l) (hlc : l.length ≤ capL) (hN : Rd1 iv w B AN nums) (hnl : nums.length ≤ maxLen) (hB : B ≤ w.heap.size) :
    Calls Try.prog 28 #[hv h A cap J capJ, .slice AL l.length capL, .slice AN nums.length capN] w (BadPost h l nums w) := by
  have hmx : nums.length ≤ 9223372036854775807 := by unfold maxLen at hnl; omega
  obtain ⟨W1, hW1, hb0, hz1, p0, p1, p2, p3, p4⟩ := hulBox w h A cap J capJ
  have hop := open_any h A J B cap capJ AL l capL W1 (hH.below hb0 hB) (hL.below hb0 hB) hlc (Nat.le_trans hB hb0.size)
  have HOP := Lib.hid hop
  have HB0 := Lib.hid hb0
  have HNR := Lib.hid hN
  have hz1 : w.heap.size ≤ W1.heap.size := hb0.size
  clear hop hb0 hH hL hN
  go_enter Try.func28, Try.ntmps28
  go_wp2_with fail
  refine HOP.out.mono ?_
  intro e w1 hpost
  obtain ⟨hb1, hpost⟩ := openPost_cases hpost
  have HB1 := Lib.hid (belowT HB0.out hb1)
  have hz2 := hb1.size
  clear hb1 HOP hW1 HB0 p0 p1 p2 p3 p4
  rcases hpost with ⟨hne, rfl⟩ | ⟨h0, hp, hf, N, g, bs, br, km, BD, hNT, rfl, HD⟩
  · obtain ⟨E, hE⟩ : ∃ E, openE h l = E := ⟨_, rfl⟩
    have HE := Lib.hid hE
    rw [hE] at hne ⊢
    have hcb : (E == 0) = false := by simpa using hne
    clear hE
    go_wp2_with fail
    go_ret2
    exact ⟨HB1.out, .inl ⟨by rw [HE.out]; exact hne, by rw [HE.out]; rfl⟩⟩
  · have hk := hulOk (openPre_zero hp).1
    have hn8 := hk.n8
    have hT := treeOk_isTree hp hNT
    have hkm := HD.kn.lt
    have hk0 := HD.k0
    have c0 := HD.st.c0
    have HD0 := Lib.hid HD
    by_cases hnn : nums.length = h.ps.length
    case neg =>
      have hcb : ((nums.length : Int) == (h.ps.length : Int)) = false := by rw [beq_eq_false_iff_ne]; omega
      go_wp2_with fail
      go_ret2
      exact ⟨HB1.out, .inr ⟨h0, hp, hf, .inl ⟨hnn, rfl⟩⟩⟩
    case pos =>
    have HFC : Hid (∀ e w', Below w.heap.size w w' → ((cutOkTo nums nums.length = false ∧ e = .returned (.tuple #[iv 0, iv 6])) ∨ (cutOkTo nums nums.length = true ∧ e = .returned (.tuple #[iv (badAt h N (blkTo (cut8 nums) h.ps.length) (manyTo (cut8 nums) h.ps.length)), iv 0]))) → BadPost h l nums w e w') := Lib.hid fun e w' a b => ⟨a, .inr ⟨h0, hp, hf, b.elim (fun b => .inr (.inl ⟨hnn, b.1, b.2⟩)) (fun b => .inr (.inr ⟨hnn, b.1, N, hNT, b.2⟩))⟩⟩
    have HBD : Hid (∀ s, s < 2 ^ h.ps.length → 0 ≤ mostV h N s ∧ mostV h N s ≤ 42949672960) := Lib.hid fun s hs => by have := mostV_bd hp hNT hf hs; omega
    clear HD hf h0
    go_wp2_with fail
    obtain ⟨w2, hw2⟩ : ∃ w2, w1.alloc (.cells #[.int .i64 0, .int .i64 0, .int .i64 0, .int .i64 0, .int .i64 0, .int .i64 0, .int .i64 0, .int .i64 0] 123) = w2 := ⟨_, rfl⟩
    have hb2 : Below w1.heap.size w1 w2 := by rw [← hw2]; exact belowA (belowR _) _
    have b2 : Blk w2 w1.heap.size 123 ((numsTo nums 0).map nv).toArray := by rw [← hw2]; exact Blk.new w1 123 _
    have B2 := Lib.hid b2
    have HB2 := Lib.hid hb2
    have hw2z : w1.heap.size < w2.heap.size := by rw [← hw2]; simp
    have HNE := Lib.hid hnn
    rw [hw2]
    clear hw2 hb2 b2 
    go_loopw [11, 40] (fun vm vi wr => ∃ k : Nat, k ≤ h.ps.length ∧ vi = .int .i64 k ∧ vm = .int .i64 (manyTo (cut8 nums) k) ∧ manyTo (cut8 nums) k ≤ k ∧ Hid (cutOkTo nums k = true) ∧ Hid (Blk wr w1.heap.size 123 ((numsTo nums k).map nv).toArray) ∧ Hid (Below w1.heap.size w1 wr)) (fun _ vi _ => h.ps.length - (intOf vi).toNat)
    case atStart => exact ⟨0, Nat.zero_le _, rfl, rfl, by simp [manyTo], Lib.hid rfl, B2, HB2⟩
    case round =>
      clear B2 HB2 hw2z w2
      obtain ⟨k, hkk, rfl, rfl, hmk, HOK, B2, HB2⟩ := hrel
      have hwrz := B2.out.lt
      by_cases hlt : k < h.ps.length
      · obtain ⟨x, hx⟩ : ∃ x, nums[k]? = some x := ⟨_, List.getElem?_eq_getElem (by omega)⟩
        obtain ⟨bb, off, rfl, hbB, e0⟩ := (HNR.out.below (belowT HB1.out HB2.out) hB) k x hx
        have hcs : cutOkTo nums (k + 1) = decide (0 ≤ x ∧ x ≤ (manyTo (cut8 nums) k : Int)) := by rw [cutOkTo, HOK.out, hx]; simp
        have HCS := Lib.hid hcs
        obtain ⟨m, hm⟩ : ∃ m, manyTo (cut8 nums) k = m := ⟨_, rfl⟩
        have HM := Lib.hid hm
        rw [hm] at HCS hmk ⊢
        have HX := Lib.hid hx
        clear hcs hm hx
        by_cases hok : 0 ≤ x ∧ x ≤ (m : Int)
        · have hst := numsTo_set nums HX.out (by omega)
          have hms := manyTo_step (cut8_at nums HX.out)
          rw [HM.out] at hms
          obtain ⟨x, rfl⟩ : ∃ y : Nat, x = y := ⟨x.toNat, by omega⟩
          rw [Int.toNat_natCast] at hst hms
          have hmz : ((max m (x + 1) : Nat) : Int) = max (m : Int) ((x : Int) + 1) := by omega
          have c1 : wr.cell? ⟨w1.heap.size, k, none⟩ = some (nv 0) := B2.out.nat (numsTo_at nums (by omega) (by omega))
          have cf := B2.out.frozen k
          have HST := Lib.hid hst
          have HMS := Lib.hid hms
          have HMZ := Lib.hid hmz
          clear hst hms hmz
          go_wp2_with fail
          refine ⟨⟨k + 1, by omega, by go_num, by rw [HMS.out, HMZ.out], by rw [HMS.out]; omega, Lib.hid (by rw [HCS.out]; exact decide_eq_true hok), Lib.hid ?_, Lib.hid (belowS HB2.out (Nat.le_refl _) _)⟩, by simp [intOf]; omega⟩
          rw [← HST.out]
          exact B2.out.setNat k x
        · have hcf : cutOkTo nums nums.length = false := cutOkTo_false (k := k + 1) (by omega) (by rw [HCS.out]; exact decide_eq_false hok)
          have HCF := Lib.hid hcf
          clear hcf
          go_wp2_with fail
          all_goals (
            go_ret2
            exact HFC.out _ _ (belowT HB1.out HB2.out) (.inl ⟨HCF.out, rfl⟩))
      · obtain rfl : k = h.ps.length := by omega
        have hokn : cutOkTo nums nums.length = true := by rw [hnn]; exact HOK.out
        have hc8 := cut8_lt (by omega) hokn
        have hb : Blk wr w1.heap.size 123 ((cut8 nums).map nv).toArray := by have := B2.out; unfold cut8; rw [hnn]; exact this
        have hcl : (cut8 nums).length = 8 := numsTo_len nums (Nat.le_refl _) (by omega)
        obtain ⟨c, hc⟩ : ∃ c, cut8 nums = c := ⟨_, rfl⟩
        rw [hc] at hc8 hb hcl hmk
        have hds := HD0.out.st.below HB2.out
        have hkn := HD0.out.kn.below HB2.out
        have HC := Lib.hid hc
        have HOKN := Lib.hid hokn
        obtain ⟨a0, a1, a2, a3, a4, a5, a6, a7, hce⟩ := eight hcl
        have hS : ∀ W, Below wr.heap.size wr W → W.cell? ⟨w1.heap.size, 0, none⟩ = some (nv a0) ∧ W.cell? ⟨w1.heap.size, 1, none⟩ = some (nv a1) ∧ W.cell? ⟨w1.heap.size, 2, none⟩ = some (nv a2) ∧ W.cell? ⟨w1.heap.size, 3, none⟩ = some (nv a3) ∧ W.cell? ⟨w1.heap.size, 4, none⟩ = some (nv a4) ∧ W.cell? ⟨w1.heap.size, 5, none⟩ = some (nv a5) ∧ W.cell? ⟨w1.heap.size, 6, none⟩ = some (nv a6) ∧ W.cell? ⟨w1.heap.size, 7, none⟩ = some (nv a7) ∧ W.cell? ⟨g, 0, none⟩ = some (.slice A h.ps.length cap) := fun W hb' => by
          have hb2 := hb.same (hb'.block _ hb.lt)
          rw [hce] at hb2
          exact ⟨hb2.nat rfl, hb2.nat rfl, hb2.nat rfl, hb2.nat rfl, hb2.nat rfl, hb2.nat rfl, hb2.nat rfl, hb2.nat rfl, keepC hb' hds.c0⟩
        have HDS := Lib.hid hds
        have HKN := Lib.hid hkn
        have HS := Lib.hid hS
        clear hS hds hkn hb hc hokn HOK B2
        go_wp2_with fail
        go_upto_region 15 with fail
        rw [HC.out]
        refine reg28_15 hce hc8 hn8 HS.out ?_
        intro gg u60 u61 u62 u63 u64 u65 u66 u67 u68 u69 u70 wx hgg hgl hbx hblk
        dsimp only
        have hml := manyTo_le hc8 h.ps.length
        have hw5 := HDS.out.below hbx
        have hk5 := HKN.out.below hbx
        obtain ⟨M, hM⟩ : ∃ M, manyTo c h.ps.length = M := ⟨_, rfl⟩
        obtain ⟨S, hS⟩ : ∃ S, blkTo c h.ps.length = S := ⟨_, rfl⟩
        have hSl : S.length = 8 := by rw [← hS]; exact blkTo_len _ _
        have hS2 : ∀ x ∈ S, x < 2 ^ h.ps.length := by rw [← hS]; exact blkTo_lt2 _ _
        have hS256 : ∀ x ∈ S, x < 256 := by rw [← hS]; exact blkTo_lt _ _ hn8
        rw [hM] at hml ⊢
        rw [hS] at hblk
        have HFC2 : Hid (∀ e w', Below w.heap.size w w' → e = .returned (.tuple #[iv (badAt h N S M), iv 0]) → BadPost h l nums w e w') := Lib.hid fun e w' a b => HFC.out e w' a (.inr ⟨HOKN.out, by rw [HC.out, hM, hS]; exact b⟩)
        have HBX := Lib.hid (belowT HB2.out hbx)
        have HBLK := Lib.hid hblk
        have HDS5 := Lib.hid hw5
        have HKN5 := Lib.hid hk5
        have hkx := hk5.lt
        have hgx : km < wr.heap.size := HKN.out.lt
        have hslx := fun W => slice122 W gg M hml
        clear hM hS hw5 hk5 hblk hbx HS HDS HKN HFC HB2 HNR
        go_wp2_with fail
        clear hslx
        go_loopw [74] (fun vi wr2 => ∃ i : Nat, i ≤ M ∧ vi = .int .i64 i ∧ Hid (OnlyAt wx wr2 km) ∧ Hid (KnownAt wr2 km (mostV h N)) ∧ Hid (∀ j, j < i → goodS h N (S[j]?.getD 0) = true)) (fun vi _ => M - (intOf vi).toNat)
        case atStart => exact ⟨0, Nat.zero_le _, rfl, Lib.hid (OnlyAt.refl wx km), HKN5, Lib.hid (fun j hj => by omega)⟩
        case round =>
          obtain ⟨i, hi, rfl, HO, HK, HG⟩ := hrel
          by_cases hlt2 : i < M
          · obtain ⟨s, hs⟩ : ∃ s, S[i]? = some s := ⟨_, List.getElem?_eq_getElem (by omega)⟩
            have hsm := List.mem_of_getElem? hs
            have hs256 := hS256 s hsm
            have e0 : wr.cell? ⟨gg, i, none⟩ = some (nv s) := HO.out.cell (HBLK.out.nat hs) (by omega)
            have hds := HDS5.out.only HO.out (.inl rfl)
            have hha := hangs_any g s h.ps.length J h.js capJ BD wr hs256 hn8 hk.js hk.j12 hds.c1 hds.rj hds.hB
            have hli := fun W (hb : Below wr.heap.size wr W) => light_any (hds.below hb) hT (HK.out.below hb) s hs256 (by have := hk.s1; have := hk.s2; have := hk.s3; omega) (by have := hk.w1; have := hk.w2; omega) (HBD.out s (hS2 s hsm))
            have hgs : goodS h N (S[i]?.getD 0) = (hangsB h.js s && decide (mostV h N s * h.shi ≤ 1000 * h.winch)) := by rw [hs]; rfl
            have HGS := Lib.hid hgs
            have HLI := Lib.hid hli
            obtain ⟨q1, hq1⟩ : ∃ q, hangsB h.js s = q := ⟨_, rfl⟩
            obtain ⟨q2, hq2⟩ : ∃ q, decide (mostV h N s * h.shi ≤ 1000 * h.winch) = q := ⟨_, rfl⟩
            rw [hq1, hq2] at HGS
            rw [hq2] at HLI
            rw [hq1] at hha
            have HHA := Lib.hid hha
            clear hli hgs hq1 hq2 hs hha
            go_wp2_with fail
            refine HHA.out.mono ?_
            rintro e w6 ⟨rfl, hb6⟩
            have HB6 := Lib.hid hb6
            clear hb6
            cases q1
            · go_wp2_with fail
              go_ret2
              exact HFC2.out _ _ ((HO.out.trans (OnlyAt.of_below HB6.out km)).below (belowT HB1.out HBX.out) (by omega)) (by rw [badAt_some hlt2 HG.out HGS.out]; rfl)
            · go_wp2_with fail
              refine (HLI.out w6 HB6.out).mono ?_
              rintro e w7 ⟨rfl, ho7, hk7⟩
              have HO7 := Lib.hid ((HO.out.trans (OnlyAt.of_below HB6.out km)).trans ho7)
              have HK7 := Lib.hid hk7
              clear ho7 hk7
              cases q2
              · go_wp2_with fail
                go_ret2
                exact HFC2.out _ _ (HO7.out.below (belowT HB1.out HBX.out) (by omega)) (by rw [badAt_some hlt2 HG.out HGS.out]; rfl)
              · go_wp2_with fail
                exact ⟨⟨i + 1, by omega, by go_num, HO7, HK7, Lib.hid fun j hj => by
                  rcases Nat.lt_or_ge j i with hji | hji
                  · exact HG.out j hji
                  · obtain rfl : j = i := by omega
                    exact HGS.out⟩, by simp [intOf]; omega⟩
          · obtain rfl : i = M := by omega
            go_wp2_with fail
            go_ret2
            exact HFC2.out _ _ (HO.out.below (belowT HB1.out HBX.out) (by omega)) (by rw [badAt_none HG.out]; rfl)
end Go.Proofs.Ytojgdallodmanaa

namespace Go.Proofs.Ytojgdallodmanaa
open Go.RowKit

/-- The first of a list of numbers that is so. -/
def firstAt (pred : Nat → Bool) (S : List Nat) (m : Nat) : Int := match (List.range m).find? (fun i => pred (S[i]?.getD 0)) with
  | some i => (i : Int)
  | none => -1
def anyTo (pred : Nat → Bool) (S : List Nat) (m : Nat) : Bool := (List.range m).any (fun i => pred (S[i]?.getD 0))
theorem firstAt_none {pred : Nat → Bool} {S : List Nat} {m : Nat} (h : ∀ i, i < m → pred (S[i]?.getD 0) = false) : firstAt pred S m = -1 := by
  unfold firstAt
  rw [List.find?_range_eq_none.2 (fun i hi => by rw [h i hi]; rfl)]
theorem firstAt_some {pred : Nat → Bool} {S : List Nat} {m i : Nat} (hi : i < m) (h : ∀ j, j < i → pred (S[j]?.getD 0) = false) (hb : pred (S[i]?.getD 0) = true) : firstAt pred S m = (i : Int) := by
  have e : (List.range m).find? (fun i => pred (S[i]?.getD 0)) = some i := List.find?_range_eq_some.2 ⟨hb, by simpa using hi, fun j hj => by rw [h j hj]; rfl⟩
  unfold firstAt
  rw [e]
theorem firstAt_any (pred : Nat → Bool) (S : List Nat) (m : Nat) : decide (0 ≤ firstAt pred S m) = anyTo pred S m := by
  unfold firstAt anyTo
  cases h : (List.range m).find? (fun i => pred (S[i]?.getD 0)) with
  | none =>
    rw [List.find?_eq_none] at h
    have : (List.range m).any (fun i => pred (S[i]?.getD 0)) = false := by
      rw [List.any_eq_false]
      exact h
    rw [this]; rfl
  | some i =>
    have h1 := List.find?_some h
    have h2 := List.mem_of_find?_eq_some h
    have : (List.range m).any (fun i => pred (S[i]?.getD 0)) = true := by
      rw [List.any_eq_true]
      exact ⟨i, h2, h1⟩
    rw [this]
    simp
theorem firstAt_bd (pred : Nat → Bool) (S : List Nat) (m : Nat) : -1 ≤ firstAt pred S m ∧ firstAt pred S m < m + 1 := by
  unfold firstAt
  cases h : (List.range m).find? (fun i => pred (S[i]?.getD 0)) with
  | none => simp only; omega
  | some i =>
    have h2 := List.mem_of_find?_eq_some h
    simp only [List.mem_range] at h2
    simp only
    omega

/-- (*block.deck).cuts$1$1$1. -/
theorem nohang_any (g db s n capJ B : Nat) (Ja : Option Addr) (js : List (Int × Int)) (w : World) (hs : s < 256) (hn8 : n ≤ 8) (hj : JsOk n js) (hjl : js.length ≤ 12) (hd : w.cell? ⟨db, 0, none⟩ = some (ptr g))
    (c1 : w.cell? ⟨g, 1, none⟩ = some (.slice Ja js.length capJ)) (hR : RdN 2 encSp w B Ja js) (hB : B ≤ w.heap.size) :
    Calls Try.prog 115 #[.int .i64 s, ptr db] w fun e w' => e = .returned (.bool (!hangsB js s)) ∧ Below w.heap.size w w' := by
  have hh := hangs_any g s n Ja js capJ B w hs hn8 hj hjl c1 hR hB
  have HH := Lib.hid hh
  clear hh c1 hR hj
  go_enter Try.func115, Try.ntmps115
  go_wp2_with fail
  refine HH.out.mono ?_
  rintro e w1 ⟨rfl, hb⟩
  have HB := Lib.hid hb
  clear hb HH hd
  go_wp2_with fail
  go_ret
  exact ⟨rfl, HB.out⟩

set_option maxRecDepth 100000 in
set_option maxHeartbeats 4000000 in
theorem index115_any (a : Value) (pred : Nat → Bool) (Inv : World → Prop) (gg m : Nat) (S : List Nat) (w : World) (hm : m ≤ S.length) (h8 : S.length ≤ 8) (hI : Inv w) (hc : ∀ W, Inv W → ∀ i x, S[i]? = some x → W.cell? ⟨gg, i, none⟩ = some (nv x))
    (hF : ∀ W x, Inv W → x ∈ S → Calls Try.prog 115 #[.int .i64 (x : Nat), a] W fun e w' => e = .returned (.bool (pred x)) ∧ Inv w') :
    Calls Try.prog 119 #[.slice (some ⟨gg, 0, none⟩) m 8, .func (.func 115) #[] #[a]] w fun e w' => e = .returned (iv (firstAt pred S m)) ∧ Inv w' := by
  have HF := Lib.hid hF
  have HC := Lib.hid hc
  have HI := Lib.hid hI
  clear hF hc hI
  go_enter Try.func119, Try.ntmps119
  go_wp2_with fail
  go_loopw [8] (fun vi wr => ∃ i : Nat, i ≤ m ∧ vi = .int .i64 i ∧ Hid (Inv wr) ∧ Hid (∀ j, j < i → pred (S[j]?.getD 0) = false)) (fun vi _ => m - (intOf vi).toNat)
  case atStart => exact ⟨0, Nat.zero_le _, rfl, HI, Lib.hid (fun j hj => by omega)⟩
  case round =>
    clear HI
    obtain ⟨i, hi, rfl, HI, HN⟩ := hrel
    by_cases hlt : i < m
    · obtain ⟨x, hx⟩ : ∃ x, S[i]? = some x := ⟨_, List.getElem?_eq_getElem (by omega)⟩
      have e0 := HC.out wr HI.out i x hx
      have HX := Lib.hid hx
      have hf := HF.out wr x HI.out (List.mem_of_getElem? hx)
      have hp : pred (S[i]?.getD 0) = pred x := by rw [hx]; rfl
      have HP := Lib.hid hp
      obtain ⟨q, hq⟩ : ∃ q, pred x = q := ⟨_, rfl⟩
      rw [hq] at hf HP
      have HFF := Lib.hid hf
      clear hf hp hq hx
      go_wp2_with fail
      refine HFF.out.mono ?_
      rintro e w1 ⟨rfl, hI1⟩
      have HI1 := Lib.hid hI1
      clear hI1
      cases q
      · go_wp2_with fail
        exact ⟨⟨i + 1, by omega, by go_num, HI1, Lib.hid fun j hj => by
          rcases Nat.lt_or_ge j i with hji | hji
          · exact HN.out j hji
          · obtain rfl : j = i := by omega
            exact HP.out⟩, by simp [intOf]; omega⟩
      · go_wp2_with fail
        go_ret
        exact ⟨by rw [firstAt_some hlt HN.out HP.out]; rfl, HI1.out⟩
    · obtain rfl : i = m := by omega
      go_wp2_with fail
      go_ret
      exact ⟨by rw [firstAt_none HN.out]; rfl, HI.out⟩
set_option maxRecDepth 100000 in
set_option maxHeartbeats 4000000 in
theorem contains115_any (a : Value) (pred : Nat → Bool) (Inv : World → Prop) (gg m : Nat) (S : List Nat) (w : World) (hm : m ≤ S.length) (h8 : S.length ≤ 8) (hI : Inv w) (hc : ∀ W, Inv W → ∀ i x, S[i]? = some x → W.cell? ⟨gg, i, none⟩ = some (nv x))
    (hF : ∀ W x, Inv W → x ∈ S → Calls Try.prog 115 #[.int .i64 (x : Nat), a] W fun e w' => e = .returned (.bool (pred x)) ∧ Inv w') :
    Calls Try.prog 95 #[.slice (some ⟨gg, 0, none⟩) m 8, .func (.func 115) #[] #[a]] w fun e w' => e = .returned (.bool (anyTo pred S m)) ∧ Inv w' := by
  have hi := index115_any a pred Inv gg m S w hm h8 hI hc hF
  have ha := firstAt_any pred S m
  obtain ⟨q, hq⟩ : ∃ q, firstAt pred S m = q := ⟨_, rfl⟩
  rw [hq] at hi ha
  have HI := Lib.hid hi
  have HA := Lib.hid ha
  clear hi ha hI hc hF
  go_enter Try.func95, Try.ntmps95
  go_wp2_with fail
  refine HI.out.mono ?_
  rintro e w1 ⟨rfl, hI1⟩
  have HI1 := Lib.hid hI1
  clear hI1 HI
  go_wp2_with fail
  go_ret
  exact ⟨by rw [← HA.out]; rfl, HI1.out⟩
set_option maxRecDepth 100000 in
set_option maxHeartbeats 4000000 in
theorem index128_any (a b : Value) (pred : Nat → Bool) (Inv : World → Prop) (gg m : Nat) (S : List Nat) (w : World) (hm : m ≤ S.length) (h8 : S.length ≤ 8) (hI : Inv w) (hc : ∀ W, Inv W → ∀ i x, S[i]? = some x → W.cell? ⟨gg, i, none⟩ = some (nv x))
    (hF : ∀ W x, Inv W → x ∈ S → Calls Try.prog 128 #[.int .i64 (x : Nat), a, b] W fun e w' => e = .returned (.bool (pred x)) ∧ Inv w') :
    Calls Try.prog 119 #[.slice (some ⟨gg, 0, none⟩) m 8, .func (.func 128) #[] #[a, b]] w fun e w' => e = .returned (iv (firstAt pred S m)) ∧ Inv w' := by
  have HF := Lib.hid hF
  have HC := Lib.hid hc
  have HI := Lib.hid hI
  clear hF hc hI
  go_enter Try.func119, Try.ntmps119
  go_wp2_with fail
  go_loopw [8] (fun vi wr => ∃ i : Nat, i ≤ m ∧ vi = .int .i64 i ∧ Hid (Inv wr) ∧ Hid (∀ j, j < i → pred (S[j]?.getD 0) = false)) (fun vi _ => m - (intOf vi).toNat)
  case atStart => exact ⟨0, Nat.zero_le _, rfl, HI, Lib.hid (fun j hj => by omega)⟩
  case round =>
    clear HI
    obtain ⟨i, hi, rfl, HI, HN⟩ := hrel
    by_cases hlt : i < m
    · obtain ⟨x, hx⟩ : ∃ x, S[i]? = some x := ⟨_, List.getElem?_eq_getElem (by omega)⟩
      have e0 := HC.out wr HI.out i x hx
      have HX := Lib.hid hx
      have hf := HF.out wr x HI.out (List.mem_of_getElem? hx)
      have hp : pred (S[i]?.getD 0) = pred x := by rw [hx]; rfl
      have HP := Lib.hid hp
      obtain ⟨q, hq⟩ : ∃ q, pred x = q := ⟨_, rfl⟩
      rw [hq] at hf HP
      have HFF := Lib.hid hf
      clear hf hp hq hx
      go_wp2_with fail
      refine HFF.out.mono ?_
      rintro e w1 ⟨rfl, hI1⟩
      have HI1 := Lib.hid hI1
      clear hI1
      cases q
      · go_wp2_with fail
        exact ⟨⟨i + 1, by omega, by go_num, HI1, Lib.hid fun j hj => by
          rcases Nat.lt_or_ge j i with hji | hji
          · exact HN.out j hji
          · obtain rfl : j = i := by omega
            exact HP.out⟩, by simp [intOf]; omega⟩
      · go_wp2_with fail
        go_ret
        exact ⟨by rw [firstAt_some hlt HN.out HP.out]; rfl, HI1.out⟩
    · obtain rfl : i = m := by omega
      go_wp2_with fail
      go_ret
      exact ⟨by rw [firstAt_none HN.out]; rfl, HI.out⟩
set_option maxRecDepth 100000 in
set_option maxHeartbeats 4000000 in
theorem contains128_any (a b : Value) (pred : Nat → Bool) (Inv : World → Prop) (gg m : Nat) (S : List Nat) (w : World) (hm : m ≤ S.length) (h8 : S.length ≤ 8) (hI : Inv w) (hc : ∀ W, Inv W → ∀ i x, S[i]? = some x → W.cell? ⟨gg, i, none⟩ = some (nv x))
    (hF : ∀ W x, Inv W → x ∈ S → Calls Try.prog 128 #[.int .i64 (x : Nat), a, b] W fun e w' => e = .returned (.bool (pred x)) ∧ Inv w') :
    Calls Try.prog 95 #[.slice (some ⟨gg, 0, none⟩) m 8, .func (.func 128) #[] #[a, b]] w fun e w' => e = .returned (.bool (anyTo pred S m)) ∧ Inv w' := by
  have hi := index128_any a b pred Inv gg m S w hm h8 hI hc hF
  have ha := firstAt_any pred S m
  obtain ⟨q, hq⟩ : ∃ q, firstAt pred S m = q := ⟨_, rfl⟩
  rw [hq] at hi ha
  have HI := Lib.hid hi
  have HA := Lib.hid ha
  clear hi ha hI hc hF
  go_enter Try.func95, Try.ntmps95
  go_wp2_with fail
  refine HI.out.mono ?_
  rintro e w1 ⟨rfl, hI1⟩
  have HI1 := Lib.hid hI1
  clear hI1 HI
  go_wp2_with fail
  go_ret
  exact ⟨by rw [← HA.out]; rfl, HI1.out⟩
end Go.Proofs.Ytojgdallodmanaa
