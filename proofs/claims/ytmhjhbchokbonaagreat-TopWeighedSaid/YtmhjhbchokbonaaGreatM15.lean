/- The cuts of a hull, in the order in which they are gone through: the plain law, and what the iterator keeps in memory. The iterator over the cuts: the function that calls itself. The iterator over the cuts: the function that calls itself, whole. The iterator over the cuts: the function that yields them, and the loop over them. The loop over the cuts: what the loop owes, and what it gives. .. -/
import Derived.Shelf.Small.Bits
import Derived.Shelf.Small.Wraps
import Derived.Shelf.Strconv.Itoa0
import Derived.Shelf.Sort.Plain
import Derived.Ground.Names2Prog
import Derived.Shelf.Slices.CompactI
import Derived.Shelf.Slices.SearchI
import Derived.Shelf.Slices.Cells
import Derived.Shelf.Slices.In.SortNone
import Derived.Ground.SlgnProg
import Derived.Shelf.SlicesE.Clone
import Derived.Test.YtmhjhbchokbonaaGreatProg
import Derived.Test.YtmhjhbchokbonaaGreatM0
import Derived.Test.YtmhjhbchokbonaaGreatM6
import Derived.Test.YtmhjhbchokbonaaGreatM10
import Derived.Test.YtmhjhbchokbonaaGreatM14
set_option maxRecDepth 1000000
set_option maxHeartbeats 16000000
namespace Go.Proofs.YtmhjhbchokbonaaGreat
open Go.RowKit Go.Shelf
def pad (p : List Nat) : List Nat := p ++ List.replicate (8 - p.length) 0
def hangCut (js : List (Int × Int)) (p : List Nat) (n : Nat) : Bool := !anyTo (fun s => !hangsB js s) (blkTo (pad p) n) (manyTo (pad p) n)
def cutsF (js : List (Int × Int)) (n b : Nat) : Nat → List Nat → Nat → List (List Nat)
 | 0, p, _ => if hangCut js p n then [pad p] else []
 | k + 1, p, next => (List.range (min (next + 1) b)).flatMap fun i => cutsF js n b k (p ++ [i]) (max next (i + 1))
def cutsTo (js : List (Int × Int)) (n b k : Nat) (p : List Nat) (next i : Nat) : List (List Nat) := (List.range i).flatMap fun i => cutsF js n b k (p ++ [i]) (max next (i + 1))
section
variable {js : List (Int × Int)} {n b k : Nat} {p : List Nat} {next : Nat}
theorem cutsTo_zero : cutsTo js n b k p next 0 = [] := rfl
theorem cutsTo_succ (i : Nat) : cutsTo js n b k p next (i + 1) = cutsTo js n b k p next i ++ cutsF js n b k (p ++ [i]) (max next (i + 1)) := by
 unfold cutsTo
 rw [List.range_succ, List.flatMap_append]
 simp
theorem cutsTo_prefix : ∀ (d i : Nat), cutsTo js n b k p next i <+: cutsTo js n b k p next (i + d) := by
 intro d
 induction d with
 | zero => intro i; exact List.prefix_refl _
 | succ d ih =>
  intro i
  refine (ih i).trans ?_
  rw [show i + (d + 1) = (i + d) + 1 from by omega, cutsTo_succ]
  exact List.prefix_append _ _
end
structure CutOk (n : Nat) (C p : List Nat) : Prop where
 len : C.length = 8
 lt : ∀ x ∈ C, x < 8
 take : C.take p.length = p
 drop : C.drop n = List.replicate (8 - n) 0
theorem CutOk.pad {n : Nat} {C p : List Nat} (h : CutOk n C p) (hp : p.length = n) : C = pad p := by
 have e : C = C.take n ++ C.drop n := (List.take_append_drop n C).symm
 have h1 := h.take
 rw [hp] at h1
 rw [e, h1, h.drop]
 unfold Go.Proofs.YtmhjhbchokbonaaGreat.pad
 rw [hp]
theorem CutOk.push {n : Nat} {C p : List Nat} (h : CutOk n C p) (hp : p.length < n) (hn : n ≤ 8) {i : Nat} (hi : i < 8) : CutOk n (C.set p.length i) (p ++ [i]) := by
 have hl := h.len
 refine ⟨by rw [List.length_set]; exact hl, fun x hx => ?_, ?_, ?_⟩
 ·rcases List.mem_or_eq_of_mem_set hx with hx | rfl
  ·exact h.lt x hx
  ·exact hi
 ·have e : (C.set p.length i)[p.length]? = some i := by rw [List.getElem?_set_self (by omega)]
  obtain ⟨h1, h2⟩ := List.getElem?_eq_some_iff.1 e
  rw [List.length_append, List.length_singleton, List.take_succ_eq_append_getElem h1, h2, List.take_set_of_le (Nat.le_refl _), h.take]
 ·rw [List.drop_set_of_lt hp, h.drop]
theorem CutOk.pop {n : Nat} {C p : List Nat} {i : Nat} (h : CutOk n C (p ++ [i])) : CutOk n C p := by
 refine ⟨h.len, h.lt, ?_, h.drop⟩
 have := congrArg (fun l => l.take p.length) h.take
 simp only [List.take_take] at this
 rw [List.length_append, List.length_singleton, Nat.min_eq_left (by omega), List.take_append_of_le_length (Nat.le_refl _), List.take_length] at this
 exact this
structure KeepM (M : Nat → Prop) (w w' : World) : Prop where
 size : w.heap.size ≤ w'.heap.size
 same : ∀ k, ¬ M k → k < w.heap.size → w'.heap[k]? = w.heap[k]?
theorem KeepM.refl (M : Nat → Prop) (w : World) : KeepM M w w := ⟨Nat.le_refl _, fun _ _ _ => rfl⟩
theorem KeepM.trans {M : Nat → Prop} {X Y Z : World} (h : KeepM M X Y) (k : KeepM M Y Z) : KeepM M X Z :=
 ⟨Nat.le_trans h.size k.size, fun i hi hlt => (k.same i hi (Nat.lt_of_lt_of_le hlt h.size)).trans (h.same i hi hlt)⟩
theorem KeepM.of_below {M : Nat → Prop} {W X : World} (h : BW W X) : KeepM M W X := ⟨h.size, fun k _ hk => h.block k hk⟩
theorem KeepM.of_only {M : Nat → Prop} {W X : World} {km : Nat} (h : OnlyAt W X km) (hk : M km) : KeepM M W X := ⟨h.size, fun k hm hlt => h.block k hlt (fun e => hm (e ▸ hk))⟩
theorem KeepM.set_ {M : Nat → Prop} (W : World) {c o : Nat} (u : Value) (h : M c) : KeepM M W (W.setCell ⟨c, o, none⟩ u) :=
 ⟨by simp [World.setCell], fun k hk _ => Below.heap_setCell W ⟨c, o, none⟩ u k (fun e => hk (e ▸ h))⟩
structure FillInv (M : Nat → Prop) (bw pb cb db yb qb fb l g n b B0 capJ : Nat) (J : Option Addr) (js : List (Int × Int)) (W : World) (C : List Nat) : Prop where
 hp : Blk W pb 3 #[nv n]
 hc : Blk W cb 155 (C.map nv).toArray
 hd : Blk W db 110 #[ptr g]
 hy : Blk W yb 188 #[.func (.yield l) #[] #[]]
 hq : Blk W qb 3 #[nv b]
 hf : Blk W fb 169 #[.func (.func 114) #[] #[ptr pb, ptr cb, ptr db, ptr yb, ptr qb, ptr fb]]
 c1 : W.cell? ⟨g, 1, none⟩ = some (.slice J js.length capJ)
 rj : RdN 2 encSp W B0 J js
 size : bw ≤ W.heap.size
 b0 : B0 ≤ bw
 gl : g < bw
structure FillAt (M : Nat → Prop) (bw pb cb db yb qb fb g n b B0 : Nat) (js : List (Int × Int)) : Prop where
 m : ∀ k, M k → k < bw
 mp : ¬ M pb
 md : ¬ M db
 mq : ¬ M qb
 mg : ¬ M g
 m0 : ∀ k, k < B0 → ¬ M k
 c0 : bw ≤ cb
 y0 : bw ≤ yb
 f0 : bw ≤ fb
 p0 : pb < bw
 d0 : db < bw
 q0 : qb < bw
 cy : yb ≠ cb
 cf : fb ≠ cb
 n1 : 1 ≤ n
 n8 : n ≤ 8
 jo : JsOk n js
 jl : js.length ≤ 12
section
variable {M : Nat → Prop} {bw pb cb db yb qb fb l g n b B0 capJ : Nat} {J : Option Addr} {js : List (Int × Int)} {W W' : World} {C : List Nat}
theorem cell_same {w w' : World} {b o : Nat} {v : Value} (h : w.cell? ⟨b, o, none⟩ = some v) (hs : w'.heap[b]? = w.heap[b]?) : w'.cell? ⟨b, o, none⟩ = some v := by
 rw [← h]; simp only [World.cell?, hs]
theorem RdN.same {α : Type} {k : Nat} {enc : α → List Value} {w w' : World} {B : Nat} {A : Option Addr} {xs : List α} (h : RdN k enc w B A xs) (hs : ∀ b, b < B → w'.heap[b]? = w.heap[b]?) : RdN k enc w' B A xs :=
 h.keep fun p hp => by simp only [World.cell?, hs p.block hp]
theorem FillInv.kept (h : FillInv M bw pb cb db yb qb fb l g n b B0 capJ J js W C) (A : FillAt M bw pb cb db yb qb fb g n b B0 js) (hk : KeepM M W W') : FillInv M bw pb cb db yb qb fb l g n b B0 capJ J js W' C := by
 have hge : ∀ k, bw ≤ k → ¬ M k := fun k hk hm => by have := A.m k hm; omega
 exact ⟨h.hp.same (hk.same _ A.mp h.hp.lt), h.hc.same (hk.same _ (hge _ A.c0) h.hc.lt), h.hd.same (hk.same _ A.md h.hd.lt), h.hy.same (hk.same _ (hge _ A.y0) h.hy.lt), h.hq.same (hk.same _ A.mq h.hq.lt), h.hf.same (hk.same _ (hge _ A.f0) h.hf.lt),
  cell_same h.c1 (hk.same _ A.mg (lt_of_cell h.c1)), h.rj.same (fun b hb => hk.same _ (A.m0 b hb) (by have := h.b0; have := h.size; omega)), Nat.le_trans h.size hk.size, h.b0, h.gl⟩
theorem FillInv.below (h : FillInv M bw pb cb db yb qb fb l g n b B0 capJ J js W C) (A : FillAt M bw pb cb db yb qb fb g n b B0 js) (hb : BW W W') : FillInv M bw pb cb db yb qb fb l g n b B0 capJ J js W' C := h.kept A (KeepM.of_below hb)
theorem FillInv.put (h : FillInv M bw pb cb db yb qb fb l g n b B0 capJ J js W C) (A : FillAt M bw pb cb db yb qb fb g n b B0 js) (i x : Nat) : FillInv M bw pb cb db yb qb fb l g n b B0 capJ J js (W.setCell ⟨cb, i, none⟩ (nv x)) (C.set i x) := by
 have hf : ∀ {k}, k ≠ cb → (W.setCell ⟨cb, i, none⟩ (nv x)).heap[k]? = W.heap[k]? := fun {k} hk => Below.heap_setCell W ⟨cb, i, none⟩ (nv x) k hk
 have hc := A.c0
 exact ⟨h.hp.same (hf (by have := A.p0; omega)), h.hc.setNat i x, h.hd.same (hf (by have := A.d0; omega)), h.hy.same (hf A.cy), h.hq.same (hf (by have := A.q0; omega)), h.hf.same (hf A.cf),
  cell_same h.c1 (hf (by have := h.gl; omega)), h.rj.same (fun b hb => hf (by have := h.b0; omega)), by simpa [World.setCell] using h.size, h.b0, h.gl⟩
theorem FillInv.nohang (h : FillInv M bw pb cb db yb qb fb l g n b B0 capJ J js W C) (A : FillAt M bw pb cb db yb qb fb g n b B0 js) {s : Nat} (hs : s < 256) : Calls Tryz.prog 115 #[iv s, ptr db] W (Rt W (.bool (!hangsB js s))) :=
 nohang_any g db s n capJ B0 J js W hs A.n8 A.jo A.jl (h.hd.cell 0) h.c1 h.rj (Nat.le_trans h.b0 h.size)
end
attribute [local go_sem] Oper.semAt_some
def Rounds (m bw l : Nat) (M : Nat → Prop) (all : List (List Nat)) (J Jx : List (List Nat) → World → Prop) : Prop :=
 ∀ (pre : List (List Nat)) (s : List Nat) (W : World), J pre W → pre ++ [s] <+: all → bw < W.heap.size → YieldAt Fence.wide m Tryz.prog l #[cutV s] W fun e W' =>
  KeepM M W W' ∧ ((e = .returned (.bool true) ∧ J (pre ++ [s]) W') ∨ (e = .returned (.bool false) ∧ Jx (pre ++ [s]) W'))
def FillPost (M : Nat → Prop) (bw pb cb db yb qb fb l g n b B0 capJ : Nat) (Ja : Option Addr) (js : List (Int × Int)) (all : List (List Nat)) (J Jx : List (List Nat) → World → Prop) (p : List Nat) (more : List (List Nat)) (e : Ending) (W' : World) : Prop :=
 (∃ C, CutOk n C p ∧ FillInv M bw pb cb db yb qb fb l g n b B0 capJ Ja js W' C) ∧ ((e = .returned (.bool true) ∧ J more W') ∨ (e = .returned (.bool false) ∧ ∃ pre, pre <+: all ∧ Jx pre W'))
section
variable (M : Nat → Prop) (bw pb cb db yb qb fb l g n b B0 capJ : Nat) (Ja : Option Addr) (js : List (Int × Int)) (all : List (List Nat)) (J Jx : List (List Nat) → World → Prop)
theorem fill_zero (A : FillAt M bw pb cb db yb qb fb g n b B0 js) (hJb : ∀ s W1 W2, J s W1 → Below bw W1 W2 → J s W2) (m : Nat)
  (hY : ∀ m, Rounds m bw l M all J Jx) (p : List Nat) (hpn : p.length = n) (next : Nat) (done : List (List Nat)) (W : World) (C : List Nat) (hI : FillInv M bw pb cb db yb qb fb l g n b B0 capJ Ja js W C) (hC : CutOk n C p) (hJ : J done W) (hall : done ++ cutsF js n b 0 p next <+: all) :
  CallsIn Fence.wide m Tryz.prog 114 #[iv n, iv next, ptr pb, ptr cb, ptr db, ptr yb, ptr qb, ptr fb] W
   (FillPost M bw pb cb db yb qb fb l g n b B0 capJ Ja js all J Jx p (done ++ cutsF js n b 0 p next)) := by
 have hCp := hC.pad hpn
 have q1 : W.cell? ⟨pb, 0, none⟩ = some (nv n) := hI.hp.cell 0
 have n8 := A.n8
 have hblk := blocks_any C n W hC.len hC.lt n8
 have hcv : cutV C = .agg (C.map nv).toArray := rfl
 obtain ⟨c0, c1, c2, c3, c4, c5, c6, c7, hce⟩ := eight hC.len
 have hcv2 : cutV C = .agg #[nv c0, nv c1, nv c2, nv c3, nv c4, nv c5, nv c6, nv c7] := by rw [hce]; rfl
 have hIc := hI.hc
 rw [hce] at hIc
 have r0 : W.cell? ⟨cb, 0, none⟩ = some (nv c0) := hIc.nat rfl
 have r1 : W.cell? ⟨cb, 1, none⟩ = some (nv c1) := hIc.nat rfl
 have r2 : W.cell? ⟨cb, 2, none⟩ = some (nv c2) := hIc.nat rfl
 have r3 : W.cell? ⟨cb, 3, none⟩ = some (nv c3) := hIc.nat rfl
 have r4 : W.cell? ⟨cb, 4, none⟩ = some (nv c4) := hIc.nat rfl
 have r5 : W.cell? ⟨cb, 5, none⟩ = some (nv c5) := hIc.nat rfl
 have r6 : W.cell? ⟨cb, 6, none⟩ = some (nv c6) := hIc.nat rfl
 have r7 : W.cell? ⟨cb, 7, none⟩ = some (nv c7) := hIc.nat rfl
 obtain ⟨S, hS⟩ := ex (blkTo C n)
 obtain ⟨K, hK⟩ := ex (manyTo C n)
 have hSl : S.length = 8 := by rw [← hS]; exact blkTo_len _ _
 have hS256 : ∀ x ∈ S, x < 256 := by rw [← hS]; exact blkTo_lt _ _ n8
 have hK8 : K ≤ 8 := by rw [← hK]; exact manyTo_le hC.lt n
 have hcuts : cutsF js n b 0 p next = if anyTo (fun s => !hangsB js s) S K = true then [] else [C] := by
  unfold cutsF hangCut
  rw [← hCp, hS, hK]
  cases anyTo (fun s => !hangsB js s) S K <;> rfl
 obtain ⟨s0, s1, s2, s3, s4, s5, s6, s7, hse⟩ := eight hSl
 have hsv : cutV S = .agg #[nv s0, nv s1, nv s2, nv s3, nv s4, nv s5, nv s6, nv s7] := by rw [hse]; rfl
 unfold BlocksPost at hblk
 rw [hcv2, hS, hK, hsv] at hblk
 obtain ⟨X, hX⟩ := ex (cutsF js n b 0 p next)
 rw [hX] at hcuts hall ⊢
 have HBLK := Lq hblk
 have HI := Lq hI
 have HCO := Lq hC
 have HJ := Lq hJ
 have HALL := Lq hall
 have HJB := Lq hJb
 have HY := Lq hY
 have HCUTS := Lq hcuts
 have HAT := Lq A
 have HCV := Lq hcv2
 have HSE := Lq hse
 have HCE := Lq hce
 have hsl := fun W gg => slice122 W gg K hK8
 clear hblk hI hC hJ hall hJb hY hcuts A hcv hcv2 hce hX hS hK hIc hCp hpn hsv hse
 refine callsIn_of_wp Tryz.func114 rfl trivial ?_ rfl
 simp only [Tryz.ntmps114, List.size_toArray, List.length_cons, List.length_nil, Nat.reduceAdd, Nat.reduceSub, Array.replicate_succ, Array.replicate_zero, List.push_toArray, List.append_toArray, List.nil_append, List.cons_append]
 gi_wp2_with fail
 refine ⟨trivial, hdd _, (callsIn_wide.2 HBLK.out).mono ?_⟩
 rintro e w1 ⟨rfl, hb1⟩
 have HB1 := Lq hb1
 clear hb1
 have hI1 := HI.out.below HAT.out HB1.out
 have HI1 := Lq hI1
 obtain ⟨w2, hw2⟩ := ex (w1.alloc (.cells #[nv s0, nv s1, nv s2, nv s3, nv s4, nv s5, nv s6, nv s7] 154))
 have b2 : Blk w2 w1.heap.size 154 (S.map nv).toArray := by rw [← hw2, HSE.out]; exact Blk.new w1 154 _
 have hb12 : BW w1 w2 := by rw [← hw2]; exact belowA (belowR _) _
 have hb2 : BW W w2 := belowT HB1.out hb12
 have hI2 := HI.out.below HAT.out hb2
 have hcon := contains115_any (ptr db) (fun s => !hangsB js s) (fun X => BW w2 X) w1.heap.size K S w2 (by omega) (by omega) (belowR _) (fun X hX i x hx => (b2.same (hX.block _ b2.lt)).nat hx) (fun X x hX hx => (((hI2.below HAT.out hX).nohang HAT.out (hS256 x hx)).mono fun e w' ⟨h1, h2⟩ => ⟨h1, belowT hX h2⟩))
 obtain ⟨q, hq⟩ := ex (anyTo (fun s => !hangsB js s) S K)
 have hct := HCUTS.out
 rw [hq] at hcon hct
 have HCON := Lq hcon
 have HCT := Lq hct
 have HB2 := Lq hb2
 have HI2 := Lq hI2
 clear hcon hct hb2 hI2 hq b2 hb12 hI1 HCUTS HSE
 gi_wp2_with fail
 refine ⟨trivial, hdd _, (callsIn_wide.2 HCON.out).mono ?_⟩
 rintro e w3 ⟨rfl, hb3⟩
 have hb3 := belowT HB2.out hb3
 have HB3 := Lq hb3
 have hI3 := HI.out.below HAT.out hb3
 have HI3 := Lq hI3
 have hJ3 := HJB.out done W w3 HJ.out (hb3.mono HI.out.size)
 have HJ3 := Lq hJ3
 clear hb3 hI3 hJ3 HCON hw2 hsl r0 r1 r2 r3 r4 r5 r6 r7
 cases q
 ·have hx : X = [C] := by rw [HCT.out]; rfl
  have HX := Lq hx
  have hI3c := HI3.out.hc
  rw [HCE.out] at hI3c
  have r0 : w3.cell? ⟨cb, 0, none⟩ = some (nv c0) := hI3c.nat rfl
  have r1 : w3.cell? ⟨cb, 1, none⟩ = some (nv c1) := hI3c.nat rfl
  have r2 : w3.cell? ⟨cb, 2, none⟩ = some (nv c2) := hI3c.nat rfl
  have r3 : w3.cell? ⟨cb, 3, none⟩ = some (nv c3) := hI3c.nat rfl
  have r4 : w3.cell? ⟨cb, 4, none⟩ = some (nv c4) := hI3c.nat rfl
  have r5 : w3.cell? ⟨cb, 5, none⟩ = some (nv c5) := hI3c.nat rfl
  have r6 : w3.cell? ⟨cb, 6, none⟩ = some (nv c6) := hI3c.nat rfl
  have r7 : w3.cell? ⟨cb, 7, none⟩ = some (nv c7) := hI3c.nat rfl
  have ry : w3.cell? ⟨yb, 0, none⟩ = some (.func (.yield l) #[] #[]) := HI3.out.hy.cell 0
  obtain ⟨fn, tmps, assign, body, hy, hR⟩ := HY.out (m - 1) done C w3 HJ3.out (by rw [← HX.out]; exact HALL.out) (by have := HAT.out.y0; have := HI3.out.hy.lt; omega)
  rw [HCV.out] at hy
  clear hx hI3c HCT HY HJ HJ3
  gi_wp2_with (((try refine ⟨hdd _, ?_⟩); refine hR.mono ?_; clear hR; rintro e W2 ⟨hk, (⟨rfl, hJ2⟩ | ⟨rfl, hx2⟩)⟩))
  ·go_ret
   exact ⟨⟨C, HCO.out, HI3.out.kept HAT.out hk⟩, .inl ⟨rfl, by rw [HX.out]; exact hJ2⟩⟩
  ·go_ret
   exact ⟨⟨C, HCO.out, HI3.out.kept HAT.out hk⟩, .inr ⟨rfl, _, by have := HALL.out; rw [HX.out] at this; exact this, hx2⟩⟩
 ·gi_wp2_with fail
  go_ret
  refine ⟨⟨C, HCO.out, HI3.out⟩, .inl ⟨rfl, ?_⟩⟩
  rw [HCT.out]
  simpa using HJ3.out
end
attribute [local go_sem] Oper.semAt_some
section
variable (M : Nat → Prop) (bw pb cb db yb qb fb l g n b B0 capJ : Nat) (Ja : Option Addr) (js : List (Int × Int)) (all : List (List Nat)) (J Jx : List (List Nat) → World → Prop)
theorem fill_in (A : FillAt M bw pb cb db yb qb fb g n b B0 js) (hb8 : b ≤ 8) (hJb : ∀ s W1 W2, J s W1 → Below bw W1 W2 → J s W2)
  (hY : ∀ m, Rounds m bw l M all J Jx) : ∀ (k m : Nat) (p : List Nat) (next : Nat) (done : List (List Nat)) (W : World) (C : List Nat), p.length + k = n → next ≤ 8 →
   FillInv M bw pb cb db yb qb fb l g n b B0 capJ Ja js W C → CutOk n C p → J done W → done ++ cutsF js n b k p next <+: all →
  CallsIn Fence.wide m Tryz.prog 114 #[iv p.length, iv next, ptr pb, ptr cb, ptr db, ptr yb, ptr qb, ptr fb] W
   (FillPost M bw pb cb db yb qb fb l g n b B0 capJ Ja js all J Jx p (done ++ cutsF js n b k p next)) := by
 intro k
 induction k with
 | zero =>
  intro m p next done W C hpk hnx hI hC hJ hall
  have hpn : p.length = n := by omega
  rw [hpn]
  exact fill_zero M bw pb cb db yb qb fb l g n b B0 capJ Ja js all J Jx A hJb m hY p hpn next done W C hI hC hJ hall
 | succ k ih =>
  intro m p next done W C hpk hnx hI hC hJ hall
  have he : ((p.length : Int) == (n : Int)) = false := beq_eq_false_iff_ne.2 (by omega)
  have q1 : W.cell? ⟨pb, 0, none⟩ = some (nv n) := hI.hp.cell 0
  have q2 : W.cell? ⟨qb, 0, none⟩ = some (nv b) := hI.hq.cell 0
  have n8 := A.n8
  have hcm : cutsTo js n b k p next (min (next + 1) b) = cutsF js n b (k + 1) p next := rfl
  rw [← hcm] at hall ⊢
  have hmz : min ((next : Int) + 1) (b : Int) = ((min (next + 1) b : Nat) : Int) := by omega
  obtain ⟨T, hT⟩ := ex (min (next + 1) b)
  rw [hT] at hall hmz ⊢
  have hT8 : T ≤ 8 := by omega
  have HI := Lq hI
  have HCO := Lq hC
  have HJ := Lq hJ
  have HALL := Lq hall
  have IH := Lq ih
  have HY := Lq hY
  have HJB := Lq hJb
  have HAT := Lq A
  clear hI hC hJ hall ih hY hJb A hcm hT
  refine callsIn_of_wp Tryz.func114 rfl trivial ?_ rfl
  simp only [Tryz.ntmps114, List.size_toArray, List.length_cons, List.length_nil, Nat.reduceAdd, Nat.reduceSub, Array.replicate_succ, Array.replicate_zero, List.push_toArray, List.append_toArray, List.nil_append, List.cons_append]
  gi_wp2
  gi_loopw [34] (fun vi wr => ∃ (i : Nat) (C2 : List Nat), vi = iv i ∧ i ≤ T ∧ Hid (CutOk n C2 p) ∧ Hid (FillInv M bw pb cb db yb qb fb l g n b B0 capJ Ja js wr C2) ∧ Hid (J (done ++ cutsTo js n b k p next i) wr)) (fun vi _ => T - (intOf vi).toNat)
  case atStart => exact ⟨0, C, rfl, Nat.zero_le _, HCO, HI, by rw [cutsTo_zero]; simpa [Hid] using HJ.out⟩
  case round =>
   clear HI HJ HCO q1 q2
   obtain ⟨i, C2, rfl, hiT, HCO, HI, HJ⟩ := hrel
   by_cases hlt : i < T
   ·obtain ⟨x0, hx0⟩ : ∃ x, C2[p.length]? = some x := ⟨_, List.getElem?_eq_getElem (by rw [HCO.out.len]; omega)⟩
    have e0 : wr.cell? ⟨cb, p.length, none⟩ = some (nv x0) := HI.out.hc.nat hx0
    have ef := HI.out.hc.frozen p.length
    have hI1 := HI.out.put HAT.out p.length i
    have hC1 := HCO.out.push (by omega) n8 (i := i) (by omega)
    have hb1 : Below bw wr (wr.setCell ⟨cb, p.length, none⟩ (nv i)) := (Below.refl _ _).setCell HAT.out.c0 _
    have hJ1 := HJB.out _ _ _ HJ.out hb1
    have hcall := IH.out (m - 1) (p ++ [i]) (max next (i + 1)) (done ++ cutsTo js n b k p next i) _ _ (by simp; omega) (by omega) hI1 hC1 hJ1 (by
     refine List.IsPrefix.trans ?_ HALL.out
     have := cutsTo_prefix (js := js) (n := n) (b := b) (k := k) (p := p) (next := next) (T - (i + 1)) (i + 1)
     rw [show i + 1 + (T - (i + 1)) = T from by omega, cutsTo_succ] at this
     obtain ⟨r, hr⟩ := this
     refine ⟨r, ?_⟩
     rw [← hr]
     simp [List.append_assoc])
    have hmore : (done ++ cutsTo js n b k p next i) ++ cutsF js n b k (p ++ [i]) (max next (i + 1)) = done ++ cutsTo js n b k p next (i + 1) := by
     rw [cutsTo_succ]
     simp [List.append_assoc]
    have q3 : (wr.setCell ⟨cb, p.length, none⟩ (nv i)).cell? ⟨fb, 0, none⟩ = some (.func (.func 114) #[] #[ptr pb, ptr cb, ptr db, ptr yb, ptr qb, ptr fb]) := hI1.hf.cell 0
    rw [hmore, show (((p ++ [i]).length : Nat) : Int) = (p.length : Int) + 1 from by simp, show ((max next (i + 1) : Nat) : Int) = max (next : Int) ((i : Int) + 1) from by omega] at hcall
    have HC := Lq hcall
    clear hcall hI1 hC1 hJ1 hmore hb1 hx0
    gi_wp2_with fail
    refine ⟨trivial, hdd _, HC.out.mono ?_⟩
    clear HC IH q3 e0 ef HI HCO
    rintro e w3 ⟨⟨C3, hC3, hI3⟩, hout⟩
    have HC3 := Lq hC3.pop
    have HI3 := Lq hI3
    clear hC3 hI3
    rcases hout with ⟨rfl, hJ3⟩ | ⟨rfl, pre, hpre, hx3⟩
    ·have HJ3 := Lq hJ3
     clear hJ3
     gi_wp2
     go_roundw
     case rel => exact ⟨i + 1, C3, by go_num, by omega, HC3, HI3, HJ3⟩
     case measure => simp [intOf]; omega
    ·have HPRE := Lq hpre
     have HX3 := Lq hx3
     clear hpre hx3
     gi_wp2
     go_ret
     exact ⟨⟨C3, HC3.out, HI3.out⟩, .inr ⟨rfl, pre, HPRE.out, HX3.out⟩⟩
   ·obtain rfl : i = T := by omega
    gi_wp2
    go_ret
    exact ⟨⟨C2, HCO.out, HI.out⟩, .inl ⟨rfl, HJ.out⟩⟩
end
attribute [local go_sem] Oper.semAt_some
def cutsL (js : List (Int × Int)) (n b : Nat) : List (List Nat) := cutsF js n b n [] 0
theorem cuts_in (M : Nat → Prop) (pb db qb l g n b B0 capJ : Nat) (Ja : Option Addr) (js : List (Int × Int)) (J Jx : List (List Nat) → World → Prop) (m : Nat) (W : World)
  (hp : Blk W pb 3 #[nv n]) (hd : Blk W db 110 #[ptr g]) (hq : Blk W qb 3 #[nv b]) (c1 : W.cell? ⟨g, 1, none⟩ = some (.slice Ja js.length capJ)) (rj : RdN 2 encSp W B0 Ja js) (hB0 : B0 ≤ W.heap.size)
  (hM : ∀ k, M k → k < W.heap.size) (mp : ¬ M pb) (md : ¬ M db) (mq : ¬ M qb) (mg : ¬ M g) (m0 : ∀ k, k < B0 → ¬ M k) (n1 : 1 ≤ n) (n8 : n ≤ 8) (hb8 : b ≤ 8) (jo : JsOk n js) (jl : js.length ≤ 12)
  (hJb : ∀ s W1 W2, J s W1 → Below W.heap.size W1 W2 → J s W2)
  (hY : ∀ m, Rounds m W.heap.size l M (cutsL js n b) J Jx) (h0 : J [] W) :
  CallsIn Fence.wide m Tryz.prog 113 #[.func (.yield l) #[] #[], ptr pb, ptr db, ptr qb] W fun e W' => (∃ v, e = .returned v) ∧
   (J (cutsL js n b) W' ∨ ∃ pre, pre <+: cutsL js n b ∧ Jx pre W') := by
 have plt := hp.lt
 have dlt := hd.lt
 have qlt := hq.lt
 have glt := lt_of_cell c1
 obtain ⟨W4, hW4⟩ := ex (((W.alloc (.cells #[.func (.yield l) #[] #[]] 188)).alloc (.cells #[iv 0, iv 0, iv 0, iv 0, iv 0, iv 0, iv 0, iv 0] 155)).alloc (.cells #[.func (.func 114) #[] #[ptr pb, ptr (W.heap.size + 1), ptr db, ptr W.heap.size, ptr qb, ptr (W.heap.size + 2)]] 169))
 have hz4 : W4.heap.size = W.heap.size + 3 := by rw [← hW4]; simp
 have hb4 : BW W W4 := by rw [← hW4]; exact belowA (belowA (belowA (belowR _) _) _) _
 have b4y : Blk W4 W.heap.size 188 #[.func (.yield l) #[] #[]] := by rw [← hW4]; exact ((Blk.new W 188 _).alloc _).alloc _
 have b4c : Blk W4 (W.heap.size + 1) 155 ((List.replicate 8 0).map nv).toArray := by
  rw [← hW4]
  have := (Blk.new (W.alloc (.cells #[.func (.yield l) #[] #[]] 188)) 155 #[iv 0, iv 0, iv 0, iv 0, iv 0, iv 0, iv 0, iv 0]).alloc (.cells #[.func (.func 114) #[] #[ptr pb, ptr (W.heap.size + 1), ptr db, ptr W.heap.size, ptr qb, ptr (W.heap.size + 2)]] 169)
  rw [World.size_alloc] at this
  exact this
 have b4f : Blk W4 (W.heap.size + 2) 169 #[.func (.func 114) #[] #[ptr pb, ptr (W.heap.size + 1), ptr db, ptr W.heap.size, ptr qb, ptr (W.heap.size + 2)]] := by
  rw [← hW4]
  have := Blk.new ((W.alloc (.cells #[.func (.yield l) #[] #[]] 188)).alloc (.cells #[iv 0, iv 0, iv 0, iv 0, iv 0, iv 0, iv 0, iv 0] 155)) 169 #[.func (.func 114) #[] #[ptr pb, ptr (W.heap.size + 1), ptr db, ptr W.heap.size, ptr qb, ptr (W.heap.size + 2)]]
  rw [World.size_alloc, World.size_alloc] at this
  exact this
 have hA : FillAt M W.heap.size pb (W.heap.size + 1) db W.heap.size qb (W.heap.size + 2) g n b B0 js :=
  ⟨hM, mp, md, mq, mg, m0, by omega, Nat.le_refl _, by omega, plt, dlt, qlt, by omega, by omega, n1, n8, jo, jl⟩
 have hI : FillInv M W.heap.size pb (W.heap.size + 1) db W.heap.size qb (W.heap.size + 2) l g n b B0 capJ Ja js W4 (List.replicate 8 0) :=
  ⟨hp.same (hb4.block _ plt), b4c, hd.same (hb4.block _ dlt), b4y, hq.same (hb4.block _ qlt), b4f, keepC hb4 c1, rj.below hb4 hB0, hb4.size, hB0, glt⟩
 have hC : CutOk n (List.replicate 8 0) [] := ⟨by simp, fun x hx => by rw [List.mem_replicate] at hx; omega, by simp, by rw [List.drop_replicate]⟩
 have hcall := fill_in M W.heap.size pb (W.heap.size + 1) db W.heap.size qb (W.heap.size + 2) l g n b B0 capJ Ja js (cutsL js n b) J Jx hA hb8 hJb hY n (m - 1) [] 0 [] W4 (List.replicate 8 0) (by simp) (by omega) hI hC (hJb _ _ _ h0 hb4) (by simp [cutsL])
 rw [show ([] : List (List Nat)) ++ cutsF js n b n [] 0 = cutsL js n b from by simp [cutsL]] at hcall
 have q3 : W4.cell? ⟨W.heap.size + 2, 0, none⟩ = some (.func (.func 114) #[] #[ptr pb, ptr (W.heap.size + 1), ptr db, ptr W.heap.size, ptr qb, ptr (W.heap.size + 2)]) := b4f.cell 0
 have HC := Lq hcall
 clear hcall hI hC hA b4y b4c b4f hb4 hz4 hY hJb h0 hp hd hq c1 rj
 refine callsIn_of_wp Tryz.func113 rfl trivial ?_ rfl
 simp only [Tryz.ntmps113, List.size_toArray, List.length_cons, List.length_nil, Nat.reduceAdd, Nat.reduceSub, Array.replicate_succ, Array.replicate_zero, List.push_toArray, List.append_toArray, List.nil_append, List.cons_append]
 gi_wp2_with fail
 refine ⟨trivial, hdd _, HC.out.mono ?_⟩
 rintro e w3 ⟨_, (⟨rfl, hJ3⟩ | ⟨rfl, pre, hpre, hx3⟩)⟩
 ·have HJ3 := Lq hJ3
  clear hJ3 HC q3
  gi_wp2
  go_end0
  exact ⟨⟨_, rfl⟩, .inl HJ3.out⟩
 ·have HX3 := Lq hx3
  have HPRE := Lq hpre
  clear hx3 hpre HC q3
  gi_wp2
  go_end0
  exact ⟨⟨_, rfl⟩, .inr ⟨pre, HPRE.out, HX3.out⟩⟩
attribute [local go_sem] Oper.semAt_some
theorem cuts_any (g : Nat) (A : Option Addr) (n cap b : Nat) (w : World) (c0 : w.cell? ⟨g, 0, none⟩ = some (.slice A n cap)) :
  Calls Tryz.prog 78 #[ptr g, iv b] w fun e w' =>
   e = .returned (.func (.func 113) #[] #[ptr (w.heap.size + 2), ptr w.heap.size, ptr (w.heap.size + 1)]) ∧ w' = ((w.alloc (.cells #[ptr g] 110)).alloc (.cells #[nv b] 3)).alloc (.cells #[nv n] 3) := by
 have hg := lt_of_cell c0
 go_enter Tryz.func78, Tryz.ntmps78
 go_wp2
 go_ret
 exact ⟨rfl, rfl⟩
def roundOut (M : Nat → Prop) (I : List (List Nat) → World → Prop) (Ix : List (List Nat) → World → Prop) (xs : List (List Nat)) (W : World) : Exit → Act → World → Prop
 | .normal, _, W' => KeepM M W W' ∧ I xs W'
 | .ret, _, W' => KeepM M W W' ∧ Ix xs W'
 | _, _, _ => False
theorem grownPut (W : World) (k : Nat) (o : Obj) : W.grownBy (W.putObj k o) (some k) := ⟨rfl, rfl, rfl, by simp [World.putObj], fun i _ hne => World.putObj_heap_other (fun e => hne (by rw [e]))⟩
theorem rangeFunc_cuts {p : Tmp} {gf : Operand} {assign body : Code} {Q : Exit → Act → World → Prop} {a : Act} {w : World} (nn : Nat) (M : Nat → Prop) (pb db qb g n b B0 capJ : Nat) (Ja : Option Addr) (js : List (Int × Int))
  (hg : a.eval gf = .func (.func 113) #[] #[ptr pb, ptr db, ptr qb])
  (hp : Blk w pb 3 #[nv n]) (hd : Blk w db 110 #[ptr g]) (hq : Blk w qb 3 #[nv b]) (c1 : w.cell? ⟨g, 1, none⟩ = some (.slice Ja js.length capJ)) (rj : RdN 2 encSp w B0 Ja js) (hB0 : B0 ≤ w.heap.size)
  (hM : ∀ k, M k → k < w.heap.size) (mp : ¬ M pb) (md : ¬ M db) (mq : ¬ M qb) (mg : ¬ M g) (m0 : ∀ k, k < B0 → ¬ M k) (n1 : 1 ≤ n) (n8 : n ≤ 8) (hb8 : b ≤ 8) (jo : JsOk n js) (jl : js.length ≤ 12)
  (I Ix : List (List Nat) → World → Prop) (hI : ∀ s W1 W2, I s W1 → Below w.heap.size W1 W2 → I s W2) (hIx : ∀ s W1 W2, Ix s W1 → Below w.heap.size W1 W2 → Ix s W2) (h0 : I [] w)
  (hbody : ∀ (m l : Nat) (pre : List (List Nat)) (s : List Nat) (W : World), I pre W → pre ++ [s] <+: cutsL js n b → w.heap.size + 2 < W.heap.size →
   assign.wpIn (Fence.wide.inRound l) m Tryz.prog (Exit.then (fun a1 W1 => BW W W1 ∧ ∀ W2, I pre W2 → W1.grownBy W2 (some (w.heap.size + 1)) → W2.heap.size = W1.heap.size → body.wpIn (Fence.wide.inRound l) m Tryz.prog (roundOut M I Ix (pre ++ [s]) W2) a1 W2) (fun _ _ _ => False)) { tmps := a.tmps.setIfInBounds p (cutV s), defers := [] } W)
  (hdone : ∀ (W : World), I (cutsL js n b) W → w.heap.size + 2 ≤ W.heap.size → W.heap[w.heap.size]? = some (.deferred (some [])) → Q .normal { a with defers := { target := .collected w.heap.size, args := #[] } :: a.defers } W)
  (hstop : ∀ (pre : List (List Nat)) (W : World), pre <+: cutsL js n b → Ix pre W → w.heap.size + 2 ≤ W.heap.size → W.heap[w.heap.size]? = some (.deferred (some [])) → Code.ret.wpIn Fence.wide nn Tryz.prog Q { a with defers := { target := .collected w.heap.size, args := #[] } :: a.defers } W) :
  (Code.rangeFunc gf #[p] assign body).wpIn Fence.wide nn Tryz.prog Q a w := by
 have plt := hp.lt
 have dlt := hd.lt
 have qlt := hq.lt
 have glt := lt_of_cell c1
 refine wpIn_rangeFunc ?_
 intro fn hfn
 obtain ⟨rec, hrec⟩ : ∃ rec : LoopState → Option Code → Loop, rec = fun st pe => { state := st, pending := pe, fn, tmps := a.tmps, params := #[p], assign, body, defers := w.heap.size } := ⟨_, rfl⟩
 obtain ⟨W1, hW1⟩ := ex ((w.alloc (.deferred (some []))).alloc (.loop (rec .ready none)))
 have hL1 : W1.heap[w.heap.size + 1]? = some (.loop (rec .ready none)) := by
  rw [← hW1]; have := World.alloc_heap_new (w.alloc (.deferred (some []))) (.loop (rec .ready none)); rwa [World.size_alloc] at this
 have hK1 : W1.heap[w.heap.size]? = some (.deferred (some [])) := by
  rw [← hW1]; exact (Below.heap_alloc _ _ _ (by simp)).trans (World.alloc_heap_new w _)
 have hb1 : BW w W1 := by
  rw [← hW1]; exact ((Below.refl _ w).alloc (Nat.le_refl _) _).alloc (by simp) _
 have hs1 : W1.heap.size = w.heap.size + 2 := by rw [← hW1]; simp
 have hI1 : I [] W1 := hI _ _ _ h0 hb1
 refine ⟨w.heap.size + 1, [{ target := .collected w.heap.size, args := #[] }], W1, { target := .fn (.func 113) #[ptr pb, ptr db, ptr qb], args := #[.func (.yield (w.heap.size + 1)) #[] #[]] }, W1, 113,
  #[.func (.yield (w.heap.size + 1)) #[] #[]] ++ #[ptr pb, ptr db, ptr qb], W1, ?_, ?_, ?_, ?_, hdd _, ?_⟩
 ·rw [← hW1, hrec]; exact run_enterLoop_outer _ _ _ _ _
 ·simp only [resolve, hg]
  simp [go_sem]
 ·intro f' hf'; trivial
 ·simp [invoke, go_sem]
 ·have ready : ∀ {B : Nat} {X Y : World} {k : Nat} {o : Obj}, Below B X Y → k < B → X.heap[k]? = some o → Y.heap[k]? = some o := fun hb hk ho => (hb.block _ hk).trans ho
  have hlM : ∀ k, k < w.heap.size → k ≠ w.heap.size + 1 := fun k hk => by omega
  refine (cuts_in (fun k => M k ∨ k = w.heap.size + 1) pb db qb (w.heap.size + 1) g n b B0 capJ Ja js
   (fun pre W => I pre W ∧ W.heap[w.heap.size + 1]? = some (.loop (rec .ready none)) ∧ W.heap[w.heap.size]? = some (.deferred (some [])))
   (fun pre W => Ix pre W ∧ W.heap[w.heap.size + 1]? = some (.loop (rec .done (some .ret))) ∧ W.heap[w.heap.size]? = some (.deferred (some [])))
   (nn - 1) W1 (hp.same (hb1.block _ plt)) (hd.same (hb1.block _ dlt)) (hq.same (hb1.block _ qlt)) (keepC hb1 c1) (rj.below hb1 hB0) (by omega)
   (fun k hk => by rcases hk with hk | hk; (have := hM k hk; omega); omega) (fun h => h.elim mp (hlM _ plt)) (fun h => h.elim md (hlM _ dlt)) (fun h => h.elim mq (hlM _ qlt)) (fun h => h.elim mg (hlM _ glt)) (fun k hk h => h.elim (m0 k hk) (hlM _ (by omega))) n1 n8 hb8 jo jl
   (fun s A B h hb => ⟨hI s A B h.1 (hb.mono (by omega)), ready hb (by omega) h.2.1, ready hb (by omega) h.2.2⟩) ?_ ⟨hI1, hL1, hK1⟩).mono ?_
  ·rintro m pre x W ⟨hi, hl, hk⟩ hpre hbw
   have hlt : w.heap.size + 1 < W.heap.size := (Array.getElem?_eq_some_iff.1 hl).1
   have hy : (Instr.yield (w.heap.size + 1) #[cutV x]).run Tryz.prog W = .ok (.round (w.heap.size + 1) fn (a.tmps.setIfInBounds p (cutV x)) assign body) W := by
    have := run_yield (P := Tryz.prog) (args := #[cutV x]) hl (by rw [hrec]; rfl)
    rw [hrec] at this
    simpa using this
   refine ⟨fn, _, assign, body, hy, roundIn_of_wpIn hfn ?_⟩
   refine wpIn_mono (hbody m (w.heap.size + 1) pre x W hi hpre (by omega)) ?_
   rintro e a1 W1' hp
   cases e with
   | normal =>
    obtain ⟨hbW, hp⟩ := hp
    have hl' : W1'.heap[w.heap.size + 1]? = some (.loop (rec .ready none)) := ready hbW hlt hl
    have hk' : W1'.heap[w.heap.size]? = some (.deferred (some [])) := ready hbW (by omega) hk
    have hlt' : w.heap.size + 1 < W1'.heap.size := (Array.getElem?_eq_some_iff.1 hl').1
    have hi' : I pre W1' := hI _ _ _ hi (hbW.mono (by omega))
    refine ⟨_, run_beginRound hl' (by rw [hrec]), ?_⟩
    have hl2 : (W1'.putObj (w.heap.size + 1) (.loop { rec .ready none with state := .busy })).heap[w.heap.size + 1]? = some (.loop { rec .ready none with state := .busy }) := World.putObj_heap_same hlt'
    have hk2 : (W1'.putObj (w.heap.size + 1) (.loop { rec .ready none with state := .busy })).heap[w.heap.size]? = some (.deferred (some [])) := (World.putObj_heap_other (by omega)).trans hk'
    refine wpIn_mono (hp _ (hI _ _ _ hi' (below_putObj _ (by omega) _)) (grownPut _ _ _) (by simp [World.putObj])) ?_
    have fin : ∀ (jump : Option Code) (W3 : World), KeepM M (W1'.putObj (w.heap.size + 1) (.loop { rec .ready none with state := .busy })) W3 →
      (Instr.endRound (w.heap.size + 1) jump).run Tryz.prog W3 = .ok (.bool jump.isNone) (W3.putObj (w.heap.size + 1) (.loop (rec (if jump.isNone then .ready else .done) jump))) ∧
      (W3.putObj (w.heap.size + 1) (.loop (rec (if jump.isNone then .ready else .done) jump))).heap[w.heap.size + 1]? = some (.loop (rec (if jump.isNone then .ready else .done) jump)) ∧
      (W3.putObj (w.heap.size + 1) (.loop (rec (if jump.isNone then .ready else .done) jump))).heap[w.heap.size]? = some (.deferred (some [])) ∧
      KeepM (fun k => M k ∨ k = w.heap.size + 1) W (W3.putObj (w.heap.size + 1) (.loop (rec (if jump.isNone then .ready else .done) jump))) := fun jump W3 hk3 => by
     have nM : ∀ k, w.heap.size ≤ k → ¬ M k := fun k hk hm => by have := hM k hm; omega
     have hl3 : W3.heap[w.heap.size + 1]? = some (.loop { rec .ready none with state := .busy }) := (hk3.same _ (nM _ (by omega)) (by simp [World.putObj]; omega)).trans hl2
     have hd3 : W3.heap[w.heap.size]? = some (.deferred (some [])) := (hk3.same _ (nM _ (by omega)) (by simp [World.putObj]; omega)).trans hk2
     have := run_endRound (P := Tryz.prog) jump hl3
     rw [hrec] at this ⊢
     have put : ∀ (X : World) (o : Obj), KeepM (fun k => M k ∨ k = w.heap.size + 1) X (X.putObj (w.heap.size + 1) o) := fun X o =>
      ⟨by simp [World.putObj], fun k hk _ => World.putObj_heap_other (fun e => hk (.inr e))⟩
     refine ⟨this, World.putObj_heap_same (Array.getElem?_eq_some_iff.1 hl3).1, (World.putObj_heap_other (by omega)).trans hd3, ?_⟩
     exact (((KeepM.of_below hbW).trans (put _ _)).trans ⟨hk3.size, fun k hk => hk3.same k (fun hm => hk (.inl hm))⟩).trans (put _ _)
    rintro e a3 W3 hp3
    cases e with
    | normal =>
     obtain ⟨hk3, hi3⟩ := hp3
     obtain ⟨hr, hl4, hk4, hkb⟩ := fin none W3 hk3
     exact ⟨_, _, hr, hkb, .inl ⟨rfl, hI _ _ _ hi3 (below_putObj _ (by omega) _), hl4, hk4⟩⟩
    | ret =>
     obtain ⟨hk3, hi3⟩ := hp3
     obtain ⟨hr, hl4, hk4, hkb⟩ := fin (some .ret) W3 hk3
     exact ⟨_, _, hr, hkb, .inr ⟨rfl, hIx _ _ _ hi3 (below_putObj _ (by omega) _), hl4, hk4⟩⟩
    | exit id => exact hp3.elim
    | goto t => exact hp3.elim
    | panic ch => exact hp3.elim
    | outgrown => exact hp3.elim
   | ret => exact hp.elim
   | exit id => exact hp.elim
   | goto t => exact hp.elim
   | panic ch => exact hp.elim
   | outgrown => exact hp.elim
  ·rintro e W2 ⟨⟨v, rfl⟩, (⟨hi, hl, hk⟩ | ⟨pre, hpre, hi, hl, hk⟩)⟩
   ·have hlt2 := (Array.getElem?_eq_some_iff.1 hl).1
    exact ⟨none, _, by have := run_endLoop (P := Tryz.prog) hl (by rw [hrec]; simp); rw [hrec] at this; exact this,
     hdone _ (hI _ _ _ hi (below_putObj _ (by omega) _)) (by simp [World.putObj]; omega) ((World.putObj_heap_other (by omega)).trans hk)⟩
   ·have hlt2 := (Array.getElem?_eq_some_iff.1 hl).1
    exact ⟨some .ret, _, by have := run_endLoop (P := Tryz.prog) hl (by rw [hrec]; simp); rw [hrec] at this; exact this,
     hstop pre _ hpre (hIx _ _ _ hi (below_putObj _ (by omega) _)) (by simp [World.putObj]; omega) ((World.putObj_heap_other (by omega)).trans hk)⟩
end Go.Proofs.YtmhjhbchokbonaaGreat
namespace Go.Proofs
open Go.Shelf
def Tryz.lays189_ren : Go.Shelf.Ren := ⟨fun | 189 => 110 | 125 => 133 | 257 => 132 | 128 => 151 | 129 => 152 | 294 => 142 | 295 => 143 | 296 => 144 | 297 => 145 | 298 => 146 | 299 => 147 | 216 => 148 | 300 => 149 | 301 => 150 | 328 => 156 | 329 => 157 | 330 => 158 | 331 => 159 | 332 => 160 | 215 => 161 | 343 => 163 | n => n, fun | 28 => 47 | 3 => 3 | 46 => 183 | 0 => 0 | 51 => 165 | 53 => 211 | 4 => 4 | 183 => 214 | 182 => 213 | 131 => 189 | 5 => 5 | 9 => 9 | 218 => 222 | 222 => 226 | 228 => 228 | 229 => 129 | n => n, fun | n => n⟩
theorem Tryz.lays189 : Go.Proofs.Lays.n189 Tryz.prog Tryz.lays189_ren := {
 mixed := by kernel_rfl
 f125 := Tryz.func133.trans (congrArg some (by kernel_rfl))
 f128 := Tryz.func151.trans (congrArg some (by kernel_rfl))
 f129 := Tryz.func152.trans (congrArg some (by kernel_rfl))
 f189 := Tryz.func110.trans (congrArg some (by kernel_rfl))
 f215 := Tryz.func161.trans (congrArg some (by kernel_rfl))
 f216 := Tryz.func148.trans (congrArg some (by kernel_rfl))
 f257 := Tryz.func132.trans (congrArg some (by kernel_rfl))
 f294 := Tryz.func142.trans (congrArg some (by kernel_rfl))
 f295 := Tryz.func143.trans (congrArg some (by kernel_rfl))
 f296 := Tryz.func144.trans (congrArg some (by kernel_rfl))
 f297 := Tryz.func145.trans (congrArg some (by kernel_rfl))
 f298 := Tryz.func146.trans (congrArg some (by kernel_rfl))
 f299 := Tryz.func147.trans (congrArg some (by kernel_rfl))
 f300 := Tryz.func149.trans (congrArg some (by kernel_rfl))
 f301 := Tryz.func150.trans (congrArg some (by kernel_rfl))
 f328 := Tryz.func156.trans (congrArg some (by kernel_rfl))
 f329 := Tryz.func157.trans (congrArg some (by kernel_rfl))
 f330 := Tryz.func158.trans (congrArg some (by kernel_rfl))
 f331 := Tryz.func159.trans (congrArg some (by kernel_rfl))
 f332 := Tryz.func160.trans (congrArg some (by kernel_rfl))
 f343 := Tryz.func163.trans (congrArg some (by kernel_rfl))
 t0 := Tryz.underlying0
 a0 := Tryz.isAgg0
 z0 := Tryz.sizeOf0
 v0 := Tryz.zeroValue0
 t3 := Tryz.underlying3
 a3 := Tryz.isAgg3
 z3 := Tryz.sizeOf3
 v3 := Tryz.zeroValue3
 t4 := Tryz.underlying4
 a4 := Tryz.isAgg4
 z4 := Tryz.sizeOf4
 v4 := Tryz.zeroValue4
 t5 := Tryz.underlying5
 a5 := Tryz.isAgg5
 z5 := Tryz.sizeOf5
 v5 := Tryz.zeroValue5
 t9 := Tryz.underlying9
 a9 := Tryz.isAgg9
 z9 := Tryz.sizeOf9
 v9 := Tryz.zeroValue9
 t28 := Tryz.underlying47
 a28 := Tryz.isAgg47
 z28 := Tryz.sizeOf47
 v28 := Tryz.zeroValue47
 t46 := Tryz.underlying183
 a46 := Tryz.isAgg183
 z46 := Tryz.sizeOf183
 v46 := Tryz.zeroValue183
 t51 := Tryz.underlying165
 a51 := Tryz.isAgg165
 z51 := Tryz.sizeOf165
 v51 := Tryz.zeroValue165
 t53 := Tryz.underlying211
 a53 := Tryz.isAgg211
 z53 := Tryz.sizeOf211
 v53 := Tryz.zeroValue211
 t131 := Tryz.underlying189
 a131 := Tryz.isAgg189
 z131 := Tryz.sizeOf189
 v131 := Tryz.zeroValue189
 t182 := Tryz.underlying213
 a182 := Tryz.isAgg213
 z182 := Tryz.sizeOf213
 v182 := Tryz.zeroValue213
 t183 := Tryz.underlying214
 a183 := Tryz.isAgg214
 z183 := Tryz.sizeOf214
 v183 := Tryz.zeroValue214
 t218 := Tryz.underlying222
 a218 := Tryz.isAgg222
 z218 := Tryz.sizeOf222
 v218 := Tryz.zeroValue222
 t222 := Tryz.underlying226
 a222 := Tryz.isAgg226
 z222 := Tryz.sizeOf226
 v222 := Tryz.zeroValue226
 t228 := Tryz.underlying228
 a228 := Tryz.isAgg228
 z228 := Tryz.sizeOf228
 v228 := Tryz.zeroValue228
 t229 := Tryz.underlying129
 a229 := Tryz.isAgg129
 z229 := Tryz.sizeOf129
 v229 := Tryz.zeroValue129 }
open Go.Sort Go.RowKit in
theorem Tryz.slices_Sort_int (blk off cap : Nat) (zs : List Int) (w : World) (hH : Holds (Value.int .i64) w blk off zs.toArray) (hblk : blk < w.heap.size) (hsz : zs.length < 4611686018427387904) :
  Calls Tryz.prog 110 #[.slice (some ⟨blk, off, none⟩) zs.length cap] w fun e w' =>
   e = .returned (.tuple #[]) ∧ ∃ n os, w' = grow (putRow (Value.int .i64) (Sort.ahead w n) blk off (zs.mergeSort fun x y => decide (x ≤ y)).toArray) os := Any.slices_Sort_int Tryz.lays189 blk off cap zs w hH hblk hsz
def Tryz.laysNm220_ren : Go.Shelf.Ren := ⟨fun | 20 => 111 | n => n, fun | 22 => 47 | 3 => 3 | 4 => 4 | 0 => 0 | n => n, fun | n => n⟩
theorem Tryz.laysNm220 : Go.Proofs.Lays2.n20 Tryz.prog Tryz.laysNm220_ren := {
 mixed := by kernel_rfl
 f20 := Tryz.func111.trans (congrArg some (by kernel_rfl))
 t0 := Tryz.underlying0
 a0 := Tryz.isAgg0
 z0 := Tryz.sizeOf0
 v0 := Tryz.zeroValue0
 t3 := Tryz.underlying3
 a3 := Tryz.isAgg3
 z3 := Tryz.sizeOf3
 v3 := Tryz.zeroValue3
 t4 := Tryz.underlying4
 a4 := Tryz.isAgg4
 z4 := Tryz.sizeOf4
 v4 := Tryz.zeroValue4
 t22 := Tryz.underlying47
 a22 := Tryz.isAgg47
 z22 := Tryz.sizeOf47
 v22 := Tryz.zeroValue47
 i3 := by kernel_rfl }
open Go.RowKit Go.Lib Go.Sort in
theorem Tryz.slices_Compact_int (blk off cap : Nat) (zs : List Int) (w : World) (hH : Holds (Value.int .i64) w blk off zs.toArray) (hsz : zs.length ≤ 9223372036854775807) (hcap : zs.length ≤ cap) :
  Calls Tryz.prog 111 #[.slice (some ⟨blk, off, none⟩) zs.length cap] w fun e w' => e = .returned (.slice (some ⟨blk, off, none⟩) (Lib.compact zs).length cap) ∧ ∃ q, w' = putRow (Value.int .i64) (Sort.ahead w q) blk off (Lib.compact zs ++ List.replicate (zs.length - (Lib.compact zs).length) 0).toArray := Any.slices_Compact_int Tryz.laysNm220 blk off cap zs w hH hsz hcap
def Tryz.laysSlE041_f79_ren : Go.Shelf.Ren := ⟨fun | 41 => 79 | n => n, fun | 22 => 47 | 23 => 3 | 4 => 4 | n => n, fun | n => n⟩
theorem Tryz.laysSlE041_f79 : Go.Proofs.SlLaysE0.n41 Tryz.prog Tryz.laysSlE041_f79_ren := {
 mixed := by kernel_rfl
 f41 := ⟨Tryz.f79.name, by decide, Tryz.func79.trans (congrArg some (by kernel_rfl))⟩
 t4 := Tryz.underlying4
 a4 := Tryz.isAgg4
 z4 := Tryz.sizeOf4
 v4 := Tryz.zeroValue4
 t22 := Tryz.underlying47
 a22 := Tryz.isAgg47
 z22 := Tryz.sizeOf47
 v22 := Tryz.zeroValue47 }
open Go.RowKit Go.Lib in
theorem Tryz.slices_Clone (i0 : TypeInfo) (z : Value) (size bytes : Nat) (hi : Tryz.prog.info? 3 = some i0) (hz0 : i0.zero = some z) (hz1 : i0.size = size) (hz2 : i0.bytes = bytes) (hzs : z.cells.size = size) (hsz : 0 < size) (z23 : ∀ w, (Go.sizeOf 3).run Tryz.prog w = .ok size w) (b off n c : Nat) (news : List Value) (w : World) (hl : news.length = n * size) (hn : n ≤ maxLen) (hbig : n * bytes ≤ 140737488355328) (hc : ∀ j u, news[j]? = some u → w.cell? ⟨b, off + j, none⟩ = some u) (h1 : ∀ u ∈ news, u.oneCell' = true) :
  Calls Tryz.prog 79 #[.slice (some ⟨b, off, none⟩) n c] w fun e w' => ∃ v', e = .returned v' ∧ w'.ownsRow w.heap.size 3 size v' n news ∧ v' ≠ .slice none 0 0 ∧ Below w.heap.size w w' := AnyE.slices_Clone Tryz.laysSlE041_f79 i0 z size bytes hi hz0 hz1 hz2 hzs hsz z23 b off n c news w hl hn hbig hc h1
open Go.RowKit Go.Lib in
theorem Tryz.slices_Clone_nil (n c : Nat) (w : World) :
  Calls Tryz.prog 79 #[.slice none n c] w fun e w' => e = .returned (.slice none 0 0) ∧ w' = w := AnyE.slices_Clone_nil Tryz.laysSlE041_f79 n c w
end Go.Proofs
namespace Go.Proofs.YtmhjhbchokbonaaGreat
open Go.RowKit Go.Shelf
attribute [local go_sem] Oper.semAt_some
theorem bends68_any (A : Option Addr) (n cap : Nat) (a f lo hi : Int) (w : World) : Calls Tryz.prog 68 #[.agg #[.slice A n cap, iv a, iv f], .agg #[iv lo, iv hi]] w fun e w' =>
  e = .returned (.func (.func 109) #[] #[ptr (w.heap.size + 1), ptr w.heap.size]) ∧ w' = (w.alloc (.cells #[.slice A n cap, iv a, iv f] 119)).alloc (.cells #[iv lo, iv hi] 36) := by
 go_enter Tryz.func68, Tryz.ntmps68
 go_wp2
 go_ret
 exact ⟨rfl, rfl⟩
def Rounds5 (m bw l : Nat) (M : Nat → Prop) (all : List (Int × Int)) (J Jx : List (Int × Int) → World → Prop) : Prop :=
 ∀ (pre : List (Int × Int)) (s : Int × Int) (W : World), J pre W → pre ++ [s] <+: all → bw < W.heap.size → YieldAt Fence.wide m Tryz.prog l #[.agg #[iv s.1, iv s.2]] W fun e W' =>
  KeepM M W W' ∧ ((e = .returned (.bool true) ∧ J (pre ++ [s]) W') ∨ (e = .returned (.bool false) ∧ Jx (pre ++ [s]) W'))
theorem KeepM.cell {M : Nat → Prop} {w w' : World} (h : KeepM M w w') {b o : Nat} {v : Value} (hc : w.cell? ⟨b, o, none⟩ = some v) (hm : ¬ M b) : w'.cell? ⟨b, o, none⟩ = some v :=
 (World.cell?_of_block (w := w) (a := ⟨b, o, none⟩) (h.same b hm (lt_of_cell hc))).trans hc
theorem bends_in (M : Nat → Prop) (tb bb l : Nat) (h : StH) (A : Option Addr) (B cap : Nat) (lo hi : Int) (J Jx : List (Int × Int) → World → Prop) (m : Nat) (W : World)
  (htb : Blk W tb 36 #[iv lo, iv hi]) (hbb : Blk W bb 119 #[.slice A h.ps.length cap, iv h.aft, iv h.fore]) (hP : RdN 7 encS W B A h.ps) (hB : B ≤ W.heap.size) (n10 : h.ps.length ≤ 10)
  (hM : ∀ k, M k → k < W.heap.size)
  (hJb : ∀ s W1 W2, J s W1 → Below W.heap.size W1 W2 → J s W2)
  (hY : ∀ m, Rounds5 m W.heap.size l M (piecesOf lo (bendsL h lo hi)) J Jx) (h0 : J [] W) :
  CallsIn Fence.wide m Tryz.prog 109 #[.func (.yield l) #[] #[], ptr tb, ptr bb] W fun e W' => (∃ v, e = .returned v) ∧
   (J (piecesOf lo (bendsL h lo hi)) W' ∨ ∃ pre, pre <+: piecesOf lo (bendsL h lo hi) ∧ Jx pre W') := by
 refine callsIn_wide.2 ?_
 obtain ⟨i3, hi3, hz30, hz31, hz32⟩ := info_parts Tryz.info3
 have tlt := htb.lt
 have blt := hbb.lt
 have HC : Hid (∀ V, BW W V → V.cell? ⟨tb, 0, none⟩ = some (iv lo) ∧ V.cell? ⟨tb, 1, none⟩ = some (iv hi) ∧ V.cell? ⟨bb, 0, none⟩ = some (.slice A h.ps.length cap)) := Lq fun V hb => ⟨(htb.same (hb.block _ tlt)).cell 0, (htb.same (hb.block _ tlt)).cell 1, (hbb.same (hb.block _ blt)).cell 0⟩
 have HP := Lq hP
 have HJB := Lq hJb
 have HY := Lq hY
 have HJ0 := Lq h0
 have HMM := Lq hM
 obtain ⟨q0, q1, q2⟩ := HC.out W (belowR W)
 clear htb hbb hP hJb hY h0 hM
 have hown0 : (W.alloc (.cells #[iv hi] 3)).ownsRow W.heap.size 3 1 (.slice (some ⟨W.heap.size, 0, none⟩) 1 1) (bendTo h lo hi 0).length ((bendTo h lo hi 0).map iv) := World.ownsRow_lit (base := W.heap.size) (e := 3) (size := 1) W #[iv hi] 1 (Nat.le_refl _) (by unfold maxLen; omega) rfl
 obtain ⟨W1, hW1⟩ := ex (W.alloc (.cells #[iv hi] 3))
 rw [hW1] at hown0
 have hb1 : BW W W1 := by rw [← hW1]; exact belowA (belowR _) _
 have HO0 := Lq hown0
 have HB1 := Lq hb1
 obtain ⟨p0, p1, p2⟩ := HC.out W1 hb1
 clear hown0 hb1
 go_enter Tryz.func109, Tryz.ntmps109
 go_wp2_with fail
 clear hW1 q0 q1 q2 p0 p1 p2
 go_loopw [4, 17] (fun vv vi wr => ∃ (k : Nat) (v : Value), k ≤ h.ps.length ∧ vi = iv k ∧ v = vv ∧ Hid (wr.ownsRow W.heap.size 3 1 v (bendTo h lo hi k).length ((bendTo h lo hi k).map iv)) ∧ Hid (BW W wr)) (fun _ vi _ => h.ps.length - (intOf vi).toNat)
 case atStart => exact ⟨0, _, Nat.zero_le _, rfl, rfl, HO0, HB1⟩
 case round =>
  clear HO0 HB1
  obtain ⟨k, v, hk, rfl, rfl, OWN, HBR⟩ := hrel
  obtain ⟨p0, p1, p2⟩ := HC.out _ HBR.out
  have hzr := HBR.out.size
  by_cases hlt : k < h.ps.length
  ·obtain ⟨x, hx⟩ : ∃ x, h.ps[k]? = some x := ⟨_, List.getElem?_eq_getElem hlt⟩
   obtain ⟨b, off, rfl, _, d0, d1, d2, d3, d4, d5, d6⟩ := stAt (HP.out.below HBR.out hB) hx
   have hsu : bendTo h lo hi (k + 1) = bendTo h lo hi k ++ (if lo < x.keel ∧ x.keel < hi then [x.keel] else []) := bendTo_succ hx
   have hle := bendTo_len h lo hi k
   have HSU := Lq hsu
   have hk0 : (0 : Int) ≤ (k : Int) := by omega
   have hkz : (k : Int) < (h.ps.length : Int) := by omega
   clear hx hsu
   obtain ⟨name, pos, wlo, whi, keel, llo, lhi⟩ := x
   simp only at d0 d1 d2 d3 d4 d5 d6 HSU
   obtain ⟨gx, hgx⟩ := ex wr.heap.size
   obtain ⟨W5, hW5⟩ := ex (wr.alloc (.cells #[.string name, iv pos, iv wlo, iv whi, iv keel, iv llo, iv lhi] 42))
   have hb5 : BW wr W5 := by rw [← hW5]; exact belowA (belowR _) _
   have kx : Blk W5 gx 42 #[.string name, iv pos, iv wlo, iv whi, iv keel, iv llo, iv lhi] := by rw [← hW5, ← hgx]; exact Blk.new wr 42 _
   have HB5 := Lq (belowT HBR.out hb5)
   have HO5 := Lq (own_below OWN.out hb5)
   have x4 : W5.cell? ⟨gx, 4, none⟩ = some (iv keel) := kx.cell 4
   obtain ⟨p0, p1, _⟩ := HC.out _ HB5.out
   have hz5 : W.heap.size ≤ W5.heap.size := HB5.out.size
   clear hb5 kx OWN HBR
   by_cases h1 : lo < keel
   ·have hd1 : decide (lo < keel) = true := decide_eq_true h1
    by_cases h2 : keel < hi
    ·have hd2 : decide (keel < hi) = true := decide_eq_true h2
     have HS2 : Hid (bendTo h lo hi (k + 1) = bendTo h lo hi k ++ [keel]) := Lq (by rw [HSU.out, if_pos ⟨h1, h2⟩])
     go_wp2_with (at_builtin; refine wpList_append_own _ rfl _ _ 47 rfl W.heap.size 3 i3 (iv 0) 1 8 Tryz.underlying47 hi3 hz30 hz31 hz32 rfl (by decide) _ _ _ rfl (HO5.out.alloc _) ⟨W5.heap.size, 0, none⟩ 1 1 [iv keel] rfl rfl ?d1 ?d2 ?d3 ?d4 ?d5 ?_)
     case d1 => exact cell_one_new _ _ _
     case d2 => simp [Value.oneCell']
     case d3 => unfold maxLen; omega
     case d4 => omega
     case d5 => simp; omega
     intro v6 w6 hown6 hg6 _
     have HB6 := Lq (grownB (HO5.out.alloc _) hg6 (Nat.le_refl _) (belowA HB5.out _))
     have HO6 : Hid (w6.ownsRow W.heap.size 3 1 v6 (bendTo h lo hi (k + 1)).length ((bendTo h lo hi (k + 1)).map iv)) := Lq (by rw [HS2.out, List.length_append, List.map_append]; exact hown6)
     clear hown6 hg6 x4 p0 p1 hW5 hgx d0 d1 d2 d3 d4 d5 d6
     go_wp2_with fail
     go_roundw
     case rel => exact ⟨k + 1, _, by omega, by go_num, rfl, HO6, HB6⟩
     case measure => simp [intOf]; omega
    ·have hd2 : decide (keel < hi) = false := decide_eq_false h2
     have HS2 : Hid (bendTo h lo hi (k + 1) = bendTo h lo hi k) := Lq (by rw [HSU.out, if_neg (fun h => h2 h.2), List.append_nil])
     go_wp2_with fail
     go_roundw
     case rel => exact ⟨k + 1, _, by omega, by go_num, rfl, by rw [HS2.out]; exact HO5, HB5⟩
     case measure => simp [intOf]; omega
   ·have hd1 : decide (lo < keel) = false := decide_eq_false h1
    have HS2 : Hid (bendTo h lo hi (k + 1) = bendTo h lo hi k) := Lq (by rw [HSU.out, if_neg (fun h => h1 h.1), List.append_nil])
    go_wp2_with fail
    go_roundw
    case rel => exact ⟨k + 1, _, by omega, by go_num, rfl, by rw [HS2.out]; exact HO5, HB5⟩
    case measure => simp [intOf]; omega
  ·obtain rfl : k = h.ps.length := by omega
   have hown := OWN.out
   have hzl := bendTo_len h lo hi h.ps.length
   have hz1 : 1 ≤ (bendTo h lo hi h.ps.length).length := by unfold bendTo; rw [List.length_cons]; omega
   have hL : Lib.compact ((bendTo h lo hi h.ps.length).mergeSort fun x y => decide (x ≤ y)) = bendsL h lo hi := rfl
   obtain ⟨zs, hzs⟩ := ex (bendTo h lo hi h.ps.length)
   rw [hzs] at hown hzl hz1 hL
   obtain ⟨g0, cap0, rfl, hg0, hc0, _⟩ := own_form hown (by omega)
   have hH := own_holdsI hown
   have hglt : g0 < wr.heap.size := lt_of_cell ((hH 0 (by have := hz1; simp; omega)).1)
   have hsc := Go.Proofs.Tryz.slices_Sort_int g0 0 cap0 zs wr hH hglt (by omega)
   obtain ⟨os, hos⟩ := ex ((zs.mergeSort fun x y => decide (x ≤ y)))
   have hol : os.length = zs.length := by rw [← hos, List.length_mergeSort]
   rw [hos] at hsc hL
   have hHP := fun (n : Nat) (oo : Array Obj) => Go.Sort.holds_grow (Value.int .i64) (Go.Sort.putRow (Value.int .i64) (Go.Sort.ahead wr n) g0 0 os.toArray) oo g0 0 os.toArray (by simpa using hglt) (Go.Sort.holds_putRow (Value.int .i64) (Go.Sort.ahead wr n) g0 0 zs.toArray os.toArray (Go.Sort.holds_ahead _ _ _ _ _ _ hH) (by simp [hol]))
   have hBP := fun (n : Nat) (oo : Array Obj) => belowGrow (belowPutI (g := g0) (belowAhead HBR.out n) hg0 0 os.toArray) oo
   have HSC := Lq hsc
   have HHP := Lq hHP
   have HBP := Lq hBP
   have HLL := Lq hL
   have hol2 : os.length ≤ 11 := by omega
   have HOL := Lq hol
   clear hsc hHP hBP hL hos hH hown OWN hol HBR hzs
   go_wp2_with fail
   refine HSC.out.mono ?_
   rintro e w5 ⟨rfl, nn, oss, rfl⟩
   have hH5 := HHP.out nn oss
   have hb5 := HBP.out nn oss
   obtain ⟨w5, hw5⟩ := ex (Go.Sort.grow (Go.Sort.putRow (Value.int .i64) (Go.Sort.ahead wr nn) g0 0 os.toArray) oss)
   rw [hw5] at hH5 hb5 ⊢
   rw [← HOL.out]
   have hcc := Go.Proofs.Tryz.slices_Compact_int g0 0 cap0 os w5 hH5 (by omega) (by have := HOL.out; omega)
   have hcl := compact_len os
   rw [HLL.out] at hcc hcl
   obtain ⟨L, hLd⟩ := ex (bendsL h lo hi)
   rw [hLd] at hcc hcl
   have hH6 := fun q => Go.Sort.holds_putRow (Value.int .i64) (Go.Sort.ahead w5 q) g0 0 os.toArray (L ++ List.replicate (os.length - L.length) 0).toArray (Go.Sort.holds_ahead _ _ _ _ _ _ hH5) (by simp; omega)
   have hb6 := fun q => belowPutI (g := g0) (belowAhead hb5 q) hg0 0 (L ++ List.replicate (os.length - L.length) 0).toArray
   have HCC := Lq hcc
   have HH6 := Lq hH6
   have HB6 := Lq hb6
   have HLD := Lq hLd
   obtain ⟨p0, _, _⟩ := HC.out _ hb5
   clear hH5 hb5 hcc hH6 hb6 hw5 HSC HHP HBP hLd HLL
   go_wp2_with fail
   refine HCC.out.mono ?_
   rintro e w6 ⟨rfl, q, rfl⟩
   have hH6 := HH6.out q
   have hb6 := HB6.out q
   obtain ⟨w6, hw6⟩ := ex (Go.Sort.putRow (Value.int .i64) (Go.Sort.ahead w5 q) g0 0 (L ++ List.replicate (os.length - L.length) 0).toArray)
   rw [hw6] at hH6 hb6 ⊢
   have hcl6 : ∀ (j : Nat) (x : Int), L[j]? = some x → w6.cell? ⟨g0, j, none⟩ = some (iv x) := fun j x hx => by
    obtain ⟨hj, he⟩ := List.getElem?_eq_some_iff.1 hx
    have h1 := (hH6 j (by simp; omega)).1
    rw [Nat.zero_add] at h1
    rw [h1, getElem!_pos _ _ (by simp; omega)]
    simp [List.getElem_append_left hj, he]
   have hgM : ¬ M g0 := fun hm => by have := HMM.out g0 hm; omega
   have HCL := Lq hcl6
   have HB6x := Lq hb6
   have hz6 := hb6.size
   have hl11 : L.length ≤ 11 := by omega
   clear hH6 hb6 hw6 HCC HH6 HB6 hcl6 p0
   go_wp2_with fail
   have HJ6 := Lq (HJB.out [] W w6 HJ0.out HB6x.out)
   have hgl6 : ∀ wr, KeepM M w6 wr → W.heap.size < wr.heap.size := fun wr hk => by have := hk.size; have := HB6x.out.size; have hx := HCL.out 0 (L.head (by intro e; have := HLD.out; have h9 := (compact_mem (( bendTo h lo hi h.ps.length).mergeSort fun x y => decide (x ≤ y)) hi).2 (by rw [List.mem_mergeSort]; unfold bendTo; simp); rw [show Lib.compact ((bendTo h lo hi h.ps.length).mergeSort fun x y => decide (x ≤ y)) = L from this, e] at h9; cases h9)) (by rw [← List.head?_eq_getElem?, List.head?_eq_some_head]); have := lt_of_cell hx; omega
   have HGL := Lq hgl6
   clear hgl6
   go_loopw [7, 46] (fun vf vi wr => ∃ k : Nat, k ≤ L.length ∧ vi = iv k ∧ vf = iv (fromOf lo (L.take k)) ∧ Hid (J (piecesOf lo (L.take k)) wr) ∧ Hid (KeepM M w6 wr)) (fun _ vi _ => L.length - (intOf vi).toNat)
   case atStart => exact ⟨0, Nat.zero_le _, rfl, rfl, HJ6, Lq (KeepM.refl _ _)⟩
   case round =>
    clear HJ6 HJ0
    obtain ⟨k, hk, rfl, rfl, HJ, HK⟩ := hrel
    by_cases hlt : k < L.length
    ·obtain ⟨x, hx⟩ : ∃ x, L[k]? = some x := ⟨_, List.getElem?_eq_getElem hlt⟩
     have hc := HK.out.cell (HCL.out k x hx) hgM
     have htk : L.take (k + 1) = L.take k ++ [x] := by rw [List.take_add_one, hx]; rfl
     have hpx : piecesOf lo (L.take (k + 1)) = piecesOf lo (L.take k) ++ [(fromOf lo (L.take k), x)] := by rw [htk, piecesOf_snoc]
     have hfx : fromOf lo (L.take (k + 1)) = x := by rw [htk, fromOf_snoc]
     have hpre : piecesOf lo (L.take k) ++ [(fromOf lo (L.take k), x)] <+: piecesOf lo (bendsL h lo hi) := by rw [← hpx, HLD.out]; exact piecesOf_take
     obtain ⟨F, hF⟩ := ex (fromOf lo (L.take k))
     rw [hF] at hpx hpre ⊢
     obtain ⟨fn, tmps, assign, body, hy, hR⟩ := HY.out 0 (piecesOf lo (L.take k)) (F, x) wr HJ.out hpre (HGL.out wr HK.out)
     simp only at hy
     have HPX := Lq hpx
     have HFX := Lq hfx
     have HPRE := Lq hpre
     have hk0 : (0 : Int) ≤ (k : Int) := by omega
     have hkz : (k : Int) < (L.length : Int) := by omega
     clear hx htk hpx hfx hpre hF
     go_upto_region 12 with fail
     refine (wpIn_wide (n := 0)).1 ?_
     gi_wp2_with fail
     refine ⟨rfl, hR.mono ?_⟩
     clear hR hy
     rintro e W2 ⟨hk2, (⟨rfl, hJ2⟩ | ⟨rfl, hx2⟩)⟩
     ·have HK2 := Lq (HK.out.trans hk2)
      have HJ2 := Lq hJ2
      clear hk2 hJ2 hc
      gi_wp2_with fail
      go_wp2_with fail
      go_roundw
      case rel => exact ⟨k + 1, by omega, by go_num, by rw [HFX.out], by rw [HPX.out]; exact HJ2, HK2⟩
      case measure => simp [intOf]; omega
     ·have HX2 := Lq hx2
      clear hk2 hx2 hc
      gi_wp2_with fail
      go_wp2_with fail
      refine bodyPost_ret (results_none rfl _ _ _) rfl ?_
      exact ⟨⟨_, rfl⟩, .inr ⟨_, HPRE.out, HX2.out⟩⟩
    ·obtain rfl : k = L.length := by omega
     have HJ9 : Hid (J (piecesOf lo (bendsL h lo hi)) wr) := Lq (by rw [HLD.out]; have := HJ.out; rwa [List.take_length] at this)
     clear HJ
     go_wp2_with fail
     go_end0
     exact ⟨⟨_, rfl⟩, .inl HJ9.out⟩
end Go.Proofs.YtmhjhbchokbonaaGreat
