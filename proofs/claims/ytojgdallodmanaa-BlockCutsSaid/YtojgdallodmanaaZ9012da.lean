/- The cuts of a hull, in the order in which they are gone through: the plain law, and what the iterator keeps in memory. The iterator over the cuts: the function that calls itself. The iterator over the cuts: the function that calls itself, whole. The iterator over the cuts: the function that yields them, and the loop over them. The loop over the cuts: what the loop owes, and what it gives. -/
import Derived.Test.YtojgdallodmanaaZ9acd8a
namespace Go.Proofs.Ytojgdallodmanaa
open Go.RowKit Go.Shelf

/-- A cut as a variable of 8 numbers holds it. -/
def pad (p : List Nat) : List Nat := p ++ List.replicate (8 - p.length) 0
/-- Each block of a cut hangs together. -/
def hangCut (js : List (Int × Int)) (p : List Nat) (n : Nat) : Bool := !anyTo (fun s => !hangsB js s) (blkTo (pad p) n) (manyTo (pad p) n)
def cutsF (js : List (Int × Int)) (n b : Nat) : Nat → List Nat → Nat → List (List Nat)
  | 0, p, _ => if hangCut js p n then [pad p] else []
  | k + 1, p, next => (List.range (min (next + 1) b)).flatMap fun i => cutsF js n b k (p ++ [i]) (max next (i + 1))
def cutsTo (js : List (Int × Int)) (n b k : Nat) (p : List Nat) (next i : Nat) : List (List Nat) := (List.range i).flatMap fun i => cutsF js n b k (p ++ [i]) (max next (i + 1))
section
variable {js : List (Int × Int)} {n b k : Nat} {p : List Nat} {next : Nat}
theorem cutsTo_zero : cutsTo js n b k p next 0 = [] := rfl
theorem cutsTo_succ (i : Nat) : cutsTo js n b k p next (i + 1) = cutsTo js n b k p next i ++ cutsF js n b k (p ++ [i]) (max next (i + 1)) := by
  unfold cutsTo
  rw [List.range_succ, List.flatMap_append]
  simp
theorem cutsTo_end : cutsTo js n b k p next (min (next + 1) b) = cutsF js n b (k + 1) p next := rfl
theorem cutsTo_prefix : ∀ (d i : Nat), cutsTo js n b k p next i <+: cutsTo js n b k p next (i + d) := by
  intro d
  induction d with
  | zero => intro i; exact List.prefix_refl _
  | succ d ih =>
    intro i
    refine (ih i).trans ?_
    rw [show i + (d + 1) = (i + d) + 1 from by omega, cutsTo_succ]
    exact List.prefix_append _ _
end

/-- The cut's variable holds a beginning; what is behind the parts is 0. -/
structure CutOk (n : Nat) (C p : List Nat) : Prop where
  len : C.length = 8
  lt : ∀ x ∈ C, x < 8
  take : C.take p.length = p
  drop : C.drop n = List.replicate (8 - n) 0
theorem CutOk.pad {n : Nat} {C p : List Nat} (h : CutOk n C p) (hp : p.length = n) : C = pad p := by
  have e : C = C.take n ++ C.drop n := (List.take_append_drop n C).symm
  have h1 := h.take
  rw [hp] at h1
  rw [e, h1, h.drop]
  unfold Go.Proofs.Ytojgdallodmanaa.pad
  rw [hp]
theorem CutOk.push {n : Nat} {C p : List Nat} (h : CutOk n C p) (hp : p.length < n) (hn : n ≤ 8) {i : Nat} (hi : i < 8) : CutOk n (C.set p.length i) (p ++ [i]) := by
  have hl := h.len
  refine ⟨by rw [List.length_set]; exact hl, fun x hx => ?_, ?_, ?_⟩
  · rcases List.mem_or_eq_of_mem_set hx with hx | rfl
    · exact h.lt x hx
    · exact hi
  · have e : (C.set p.length i)[p.length]? = some i := by rw [List.getElem?_set_self (by omega)]
    obtain ⟨h1, h2⟩ := List.getElem?_eq_some_iff.1 e
    rw [List.length_append, List.length_singleton, List.take_succ_eq_append_getElem h1, h2, List.take_set_of_le (Nat.le_refl _), h.take]
  · rw [List.drop_set_of_lt hp, h.drop]
theorem CutOk.pop {n : Nat} {C p : List Nat} {i : Nat} (h : CutOk n C (p ++ [i])) : CutOk n C p := by
  refine ⟨h.len, h.lt, ?_, h.drop⟩
  have := congrArg (fun l => l.take p.length) h.take
  simp only [List.take_take] at this
  rw [List.length_append, List.length_singleton, Nat.min_eq_left (by omega), List.take_append_of_le_length (Nat.le_refl _), List.take_length] at this
  exact this

/-- What a round keeps: all blocks but those of M. -/
structure KeepM (M : Nat → Prop) (w w' : World) : Prop where
  size : w.heap.size ≤ w'.heap.size
  same : ∀ k, ¬ M k → k < w.heap.size → w'.heap[k]? = w.heap[k]?
theorem KeepM.refl (M : Nat → Prop) (w : World) : KeepM M w w := ⟨Nat.le_refl _, fun _ _ _ => rfl⟩
theorem KeepM.trans {M : Nat → Prop} {X Y Z : World} (h : KeepM M X Y) (k : KeepM M Y Z) : KeepM M X Z :=
  ⟨Nat.le_trans h.size k.size, fun i hi hlt => (k.same i hi (Nat.lt_of_lt_of_le hlt h.size)).trans (h.same i hi hlt)⟩
theorem KeepM.of_below {M : Nat → Prop} {W X : World} (h : Below W.heap.size W X) : KeepM M W X := ⟨h.size, fun k _ hk => h.block k hk⟩
theorem KeepM.of_only {M : Nat → Prop} {W X : World} {km : Nat} (h : OnlyAt W X km) (hk : M km) : KeepM M W X := ⟨h.size, fun k hm hlt => h.block k hlt (fun e => hm (e ▸ hk))⟩
theorem KeepM.set_ {M : Nat → Prop} (W : World) {c o : Nat} (u : Value) (h : M c) : KeepM M W (W.setCell ⟨c, o, none⟩ u) :=
  ⟨by simp [World.setCell], fun k hk _ => Below.heap_setCell W ⟨c, o, none⟩ u k (fun e => hk (e ▸ h))⟩

/-- What the iterator holds in memory: how many parts, the cut so far, the deck, the round's function, how many blocks, itself. -/
structure FillInv (M : Nat → Prop) (bw pb cb db yb qb fb l g n b B0 capJ : Nat) (J : Option Addr) (js : List (Int × Int)) (W : World) (C : List Nat) : Prop where
  hp : Blk W pb 3 #[nv n]
  hc : Blk W cb 123 (C.map nv).toArray
  hd : Blk W db 99 #[ptr g]
  hy : Blk W yb 156 #[.func (.yield l) #[] #[]]
  hq : Blk W qb 3 #[nv b]
  hf : Blk W fb 136 #[.func (.func 114) #[] #[ptr pb, ptr cb, ptr db, ptr yb, ptr qb, ptr fb]]
  c1 : W.cell? ⟨g, 1, none⟩ = some (.slice J js.length capJ)
  rj : RdN 2 encSp W B0 J js
  size : bw ≤ W.heap.size
  b0 : B0 ≤ bw
  gl : g < bw
/-- .. and where: no round writes there. -/
structure FillAt (M : Nat → Prop) (bw pb cb db yb qb fb g n b B0 : Nat) (js : List (Int × Int)) : Prop where
  m : ∀ k, M k → k < bw
  mp : ¬ M pb
  md : ¬ M db
  mq : ¬ M qb
  mg : ¬ M g
  m0 : ∀ k, k < B0 → ¬ M k
  c0 : bw ≤ cb
  y0 : bw ≤ yb
  f0 : bw ≤ fb
  p0 : pb < bw
  d0 : db < bw
  q0 : qb < bw
  cy : yb ≠ cb
  cf : fb ≠ cb
  n1 : 1 ≤ n
  n8 : n ≤ 8
  jo : JsOk n js
  jl : js.length ≤ 12
section
variable {M : Nat → Prop} {bw pb cb db yb qb fb l g n b B0 capJ : Nat} {J : Option Addr} {js : List (Int × Int)} {W W' : World} {C : List Nat}
theorem cell_same {w w' : World} {b o : Nat} {v : Value} (h : w.cell? ⟨b, o, none⟩ = some v) (hs : w'.heap[b]? = w.heap[b]?) : w'.cell? ⟨b, o, none⟩ = some v := by
  rw [← h]; simp only [World.cell?, hs]
theorem RdN.same {α : Type} {k : Nat} {enc : α → List Value} {w w' : World} {B : Nat} {A : Option Addr} {xs : List α} (h : RdN k enc w B A xs) (hs : ∀ b, b < B → w'.heap[b]? = w.heap[b]?) : RdN k enc w' B A xs :=
  h.keep fun p hp => by simp only [World.cell?, hs p.block hp]
theorem FillInv.kept (h : FillInv M bw pb cb db yb qb fb l g n b B0 capJ J js W C) (A : FillAt M bw pb cb db yb qb fb g n b B0 js) (hk : KeepM M W W') : FillInv M bw pb cb db yb qb fb l g n b B0 capJ J js W' C := by
  have hge : ∀ k, bw ≤ k → ¬ M k := fun k hk hm => by have := A.m k hm; omega
  exact ⟨h.hp.same (hk.same _ A.mp h.hp.lt), h.hc.same (hk.same _ (hge _ A.c0) h.hc.lt), h.hd.same (hk.same _ A.md h.hd.lt), h.hy.same (hk.same _ (hge _ A.y0) h.hy.lt), h.hq.same (hk.same _ A.mq h.hq.lt), h.hf.same (hk.same _ (hge _ A.f0) h.hf.lt),
    cell_same h.c1 (hk.same _ A.mg (lt_of_cell h.c1)), h.rj.same (fun b hb => hk.same _ (A.m0 b hb) (by have := h.b0; have := h.size; omega)), Nat.le_trans h.size hk.size, h.b0, h.gl⟩
theorem FillInv.below (h : FillInv M bw pb cb db yb qb fb l g n b B0 capJ J js W C) (A : FillAt M bw pb cb db yb qb fb g n b B0 js) (hb : Below W.heap.size W W') : FillInv M bw pb cb db yb qb fb l g n b B0 capJ J js W' C := h.kept A (KeepM.of_below hb)
/-- Another number at a place. -/
theorem FillInv.put (h : FillInv M bw pb cb db yb qb fb l g n b B0 capJ J js W C) (A : FillAt M bw pb cb db yb qb fb g n b B0 js) (i x : Nat) : FillInv M bw pb cb db yb qb fb l g n b B0 capJ J js (W.setCell ⟨cb, i, none⟩ (nv x)) (C.set i x) := by
  have hf : ∀ {k}, k ≠ cb → (W.setCell ⟨cb, i, none⟩ (nv x)).heap[k]? = W.heap[k]? := fun {k} hk => Below.heap_setCell W ⟨cb, i, none⟩ (nv x) k hk
  have hc := A.c0
  exact ⟨h.hp.same (hf (by have := A.p0; omega)), h.hc.setNat i x, h.hd.same (hf (by have := A.d0; omega)), h.hy.same (hf A.cy), h.hq.same (hf (by have := A.q0; omega)), h.hf.same (hf A.cf),
    cell_same h.c1 (hf (by have := h.gl; omega)), h.rj.same (fun b hb => hf (by have := h.b0; omega)), by simpa [World.setCell] using h.size, h.b0, h.gl⟩
/-- Whether a set does not hang together, asked in such a world. -/
theorem FillInv.nohang (h : FillInv M bw pb cb db yb qb fb l g n b B0 capJ J js W C) (A : FillAt M bw pb cb db yb qb fb g n b B0 js) {s : Nat} (hs : s < 256) : Calls Try.prog 115 #[.int .i64 s, ptr db] W fun e w' => e = .returned (.bool (!hangsB js s)) ∧ Below W.heap.size W w' :=
  nohang_any g db s n capJ B0 J js W hs A.n8 A.jo A.jl (h.hd.cell 0) h.c1 h.rj (Nat.le_trans h.b0 h.size)
end
end Go.Proofs.Ytojgdallodmanaa

namespace Go.Proofs.Ytojgdallodmanaa
open Go.RowKit Go.Shelf
attribute [local go_sem] Oper.semAt_some

/-- What a round owes: it goes on, or it leaves. -/
def Rounds (m bw l : Nat) (M : Nat → Prop) (all : List (List Nat)) (J Jx : List (List Nat) → World → Prop) : Prop :=
  ∀ (pre : List (List Nat)) (s : List Nat) (W : World), J pre W → pre ++ [s] <+: all → bw < W.heap.size → YieldAt Fence.wide m Try.prog l #[cutV s] W fun e W' =>
    KeepM M W W' ∧ ((e = .returned (.bool true) ∧ J (pre ++ [s]) W') ∨ (e = .returned (.bool false) ∧ Jx (pre ++ [s]) W'))
/-- What the function that calls itself gives. -/
def FillPost (M : Nat → Prop) (bw pb cb db yb qb fb l g n b B0 capJ : Nat) (Ja : Option Addr) (js : List (Int × Int)) (all : List (List Nat)) (J Jx : List (List Nat) → World → Prop) (p : List Nat) (more : List (List Nat)) (e : Ending) (W' : World) : Prop :=
  (∃ C, CutOk n C p ∧ FillInv M bw pb cb db yb qb fb l g n b B0 capJ Ja js W' C) ∧ ((e = .returned (.bool true) ∧ J more W') ∨ (e = .returned (.bool false) ∧ ∃ pre, pre <+: all ∧ Jx pre W'))

section
variable (M : Nat → Prop) (bw pb cb db yb qb fb l g n b B0 capJ : Nat) (Ja : Option Addr) (js : List (Int × Int)) (all : List (List Nat)) (J Jx : List (List Nat) → World → Prop)
set_option maxRecDepth 100000 in
set_option maxHeartbeats 8000000 in
theorem fill_zero (A : FillAt M bw pb cb db yb qb fb g n b B0 js) (hJb : ∀ s W1 W2, J s W1 → Below bw W1 W2 → J s W2) (m : Nat)
    (hY : ∀ m, Rounds m bw l M all J Jx) (p : List Nat) (hpn : p.length = n) (next : Nat) (done : List (List Nat)) (W : World) (C : List Nat) (hI : FillInv M bw pb cb db yb qb fb l g n b B0 capJ Ja js W C) (hC : CutOk n C p) (hJ : J done W) (hall : done ++ cutsF js n b 0 p next <+: all) :
    CallsIn Fence.wide m Try.prog 114 #[.int .i64 n, .int .i64 next, ptr pb, ptr cb, ptr db, ptr yb, ptr qb, ptr fb] W
      (FillPost M bw pb cb db yb qb fb l g n b B0 capJ Ja js all J Jx p (done ++ cutsF js n b 0 p next)) := by
  have hCp := hC.pad hpn
  have q1 : W.cell? ⟨pb, 0, none⟩ = some (nv n) := hI.hp.cell 0
  have n8 := A.n8
  have hblk := blocks_any C n W hC.len hC.lt n8
  have hcv : cutV C = .agg (C.map nv).toArray := rfl
  obtain ⟨c0, c1, c2, c3, c4, c5, c6, c7, hce⟩ := eight hC.len
  have hcv2 : cutV C = .agg #[nv c0, nv c1, nv c2, nv c3, nv c4, nv c5, nv c6, nv c7] := by rw [hce]; rfl
  have hIc := hI.hc
  rw [hce] at hIc
  have r0 : W.cell? ⟨cb, 0, none⟩ = some (nv c0) := hIc.nat rfl
  have r1 : W.cell? ⟨cb, 1, none⟩ = some (nv c1) := hIc.nat rfl
  have r2 : W.cell? ⟨cb, 2, none⟩ = some (nv c2) := hIc.nat rfl
  have r3 : W.cell? ⟨cb, 3, none⟩ = some (nv c3) := hIc.nat rfl
  have r4 : W.cell? ⟨cb, 4, none⟩ = some (nv c4) := hIc.nat rfl
  have r5 : W.cell? ⟨cb, 5, none⟩ = some (nv c5) := hIc.nat rfl
  have r6 : W.cell? ⟨cb, 6, none⟩ = some (nv c6) := hIc.nat rfl
  have r7 : W.cell? ⟨cb, 7, none⟩ = some (nv c7) := hIc.nat rfl
  obtain ⟨S, hS⟩ : ∃ S, blkTo C n = S := ⟨_, rfl⟩
  obtain ⟨K, hK⟩ : ∃ K, manyTo C n = K := ⟨_, rfl⟩
  have hSl : S.length = 8 := by rw [← hS]; exact blkTo_len _ _
  have hS256 : ∀ x ∈ S, x < 256 := by rw [← hS]; exact blkTo_lt _ _ n8
  have hK8 : K ≤ 8 := by rw [← hK]; exact manyTo_le hC.lt n
  have hcuts : cutsF js n b 0 p next = if anyTo (fun s => !hangsB js s) S K = true then [] else [C] := by
    unfold cutsF hangCut
    rw [← hCp, hS, hK]
    cases anyTo (fun s => !hangsB js s) S K <;> rfl
  obtain ⟨s0, s1, s2, s3, s4, s5, s6, s7, hse⟩ := eight hSl
  have hsv : cutV S = .agg #[nv s0, nv s1, nv s2, nv s3, nv s4, nv s5, nv s6, nv s7] := by rw [hse]; rfl
  unfold BlocksPost at hblk
  rw [hcv2, hS, hK, hsv] at hblk
  obtain ⟨X, hX⟩ : ∃ X, cutsF js n b 0 p next = X := ⟨_, rfl⟩
  rw [hX] at hcuts hall ⊢
  have HBLK := Lib.hid hblk
  have HI := Lib.hid hI
  have HCO := Lib.hid hC
  have HJ := Lib.hid hJ
  have HALL := Lib.hid hall
  have HJB := Lib.hid hJb
  have HY := Lib.hid hY
  have HCUTS := Lib.hid hcuts
  have HAT := Lib.hid A
  have HCV := Lib.hid hcv2
  have HSE := Lib.hid hse
  have HCE := Lib.hid hce
  have hsl := fun W gg => slice122 W gg K hK8
  clear hblk hI hC hJ hall hJb hY hcuts A hcv hcv2 hce hX hS hK hIc hCp hpn hsv hse
  refine callsIn_of_wp Try.func114 rfl trivial ?_ rfl
  simp only [Try.ntmps114, List.size_toArray, List.length_cons, List.length_nil, Nat.reduceAdd, Nat.reduceSub, Array.replicate_succ, Array.replicate_zero, List.push_toArray, List.append_toArray, List.nil_append, List.cons_append]
  gi_wp2_with fail
  refine ⟨trivial, hdd _, (callsIn_wide.2 HBLK.out).mono ?_⟩
  rintro e w1 ⟨rfl, hb1⟩
  have HB1 := Lib.hid hb1
  clear hb1
  have hI1 := HI.out.below HAT.out HB1.out
  have HI1 := Lib.hid hI1
  obtain ⟨w2, hw2⟩ : ∃ w2, w1.alloc (.cells #[nv s0, nv s1, nv s2, nv s3, nv s4, nv s5, nv s6, nv s7] 122) = w2 := ⟨_, rfl⟩
  have b2 : Blk w2 w1.heap.size 122 (S.map nv).toArray := by rw [← hw2, HSE.out]; exact Blk.new w1 122 _
  have hb12 : Below w1.heap.size w1 w2 := by rw [← hw2]; exact belowA (belowR _) _
  have hb2 : Below W.heap.size W w2 := belowT HB1.out hb12
  have hI2 := HI.out.below HAT.out hb2
  have hcon := contains115_any (ptr db) (fun s => !hangsB js s) (fun X => Below w2.heap.size w2 X) w1.heap.size K S w2 (by omega) (by omega) (belowR _) (fun X hX i x hx => (b2.same (hX.block _ b2.lt)).nat hx) (fun X x hX hx => (((hI2.below HAT.out hX).nohang HAT.out (hS256 x hx)).mono fun e w' ⟨h1, h2⟩ => ⟨h1, belowT hX h2⟩))
  obtain ⟨q, hq⟩ : ∃ q, anyTo (fun s => !hangsB js s) S K = q := ⟨_, rfl⟩
  have hct := HCUTS.out
  rw [hq] at hcon hct
  have HCON := Lib.hid hcon
  have HCT := Lib.hid hct
  have HB2 := Lib.hid hb2
  have HI2 := Lib.hid hI2
  clear hcon hct hb2 hI2 hq b2 hb12 hI1 HCUTS HSE
  gi_wp2_with fail
  refine ⟨trivial, hdd _, (callsIn_wide.2 HCON.out).mono ?_⟩
  rintro e w3 ⟨rfl, hb3⟩
  have hb3 := belowT HB2.out hb3
  have HB3 := Lib.hid hb3
  have hI3 := HI.out.below HAT.out hb3
  have HI3 := Lib.hid hI3
  have hJ3 := HJB.out done W w3 HJ.out (hb3.mono HI.out.size)
  have HJ3 := Lib.hid hJ3
  clear hb3 hI3 hJ3 HCON hw2 hsl r0 r1 r2 r3 r4 r5 r6 r7
  cases q
  · have hx : X = [C] := by rw [HCT.out]; rfl
    have HX := Lib.hid hx
    have hI3c := HI3.out.hc
    rw [HCE.out] at hI3c
    have r0 : w3.cell? ⟨cb, 0, none⟩ = some (nv c0) := hI3c.nat rfl
    have r1 : w3.cell? ⟨cb, 1, none⟩ = some (nv c1) := hI3c.nat rfl
    have r2 : w3.cell? ⟨cb, 2, none⟩ = some (nv c2) := hI3c.nat rfl
    have r3 : w3.cell? ⟨cb, 3, none⟩ = some (nv c3) := hI3c.nat rfl
    have r4 : w3.cell? ⟨cb, 4, none⟩ = some (nv c4) := hI3c.nat rfl
    have r5 : w3.cell? ⟨cb, 5, none⟩ = some (nv c5) := hI3c.nat rfl
    have r6 : w3.cell? ⟨cb, 6, none⟩ = some (nv c6) := hI3c.nat rfl
    have r7 : w3.cell? ⟨cb, 7, none⟩ = some (nv c7) := hI3c.nat rfl
    have ry : w3.cell? ⟨yb, 0, none⟩ = some (.func (.yield l) #[] #[]) := HI3.out.hy.cell 0
    obtain ⟨fn, tmps, assign, body, hy, hR⟩ := HY.out (m - 1) done C w3 HJ3.out (by rw [← HX.out]; exact HALL.out) (by have := HAT.out.y0; have := HI3.out.hy.lt; omega)
    rw [HCV.out] at hy
    clear hx hI3c HCT HY HJ HJ3
    gi_wp2_with (((try refine ⟨hdd _, ?_⟩); refine hR.mono ?_; clear hR; rintro e W2 ⟨hk, (⟨rfl, hJ2⟩ | ⟨rfl, hx2⟩)⟩))
    · go_ret
      exact ⟨⟨C, HCO.out, HI3.out.kept HAT.out hk⟩, .inl ⟨rfl, by rw [HX.out]; exact hJ2⟩⟩
    · go_ret
      exact ⟨⟨C, HCO.out, HI3.out.kept HAT.out hk⟩, .inr ⟨rfl, _, by have := HALL.out; rw [HX.out] at this; exact this, hx2⟩⟩
  · gi_wp2_with fail
    go_ret
    refine ⟨⟨C, HCO.out, HI3.out⟩, .inl ⟨rfl, ?_⟩⟩
    rw [HCT.out]
    simpa using HJ3.out
end
end Go.Proofs.Ytojgdallodmanaa

namespace Go.Proofs.Ytojgdallodmanaa
open Go.RowKit Go.Shelf
attribute [local go_sem] Oper.semAt_some

section
variable (M : Nat → Prop) (bw pb cb db yb qb fb l g n b B0 capJ : Nat) (Ja : Option Addr) (js : List (Int × Int)) (all : List (List Nat)) (J Jx : List (List Nat) → World → Prop)
set_option maxRecDepth 100000 in
set_option maxHeartbeats 8000000 in
theorem fill_in (A : FillAt M bw pb cb db yb qb fb g n b B0 js) (hb8 : b ≤ 8) (hJb : ∀ s W1 W2, J s W1 → Below bw W1 W2 → J s W2)
    (hY : ∀ m, Rounds m bw l M all J Jx) : ∀ (k m : Nat) (p : List Nat) (next : Nat) (done : List (List Nat)) (W : World) (C : List Nat), p.length + k = n → next ≤ 8 →
      FillInv M bw pb cb db yb qb fb l g n b B0 capJ Ja js W C → CutOk n C p → J done W → done ++ cutsF js n b k p next <+: all →
    CallsIn Fence.wide m Try.prog 114 #[.int .i64 p.length, .int .i64 next, ptr pb, ptr cb, ptr db, ptr yb, ptr qb, ptr fb] W
      (FillPost M bw pb cb db yb qb fb l g n b B0 capJ Ja js all J Jx p (done ++ cutsF js n b k p next)) := by
  intro k
  induction k with
  | zero =>
    intro m p next done W C hpk hnx hI hC hJ hall
    have hpn : p.length = n := by omega
    rw [hpn]
    exact fill_zero M bw pb cb db yb qb fb l g n b B0 capJ Ja js all J Jx A hJb m hY p hpn next done W C hI hC hJ hall
  | succ k ih =>
    intro m p next done W C hpk hnx hI hC hJ hall
    have he : ((p.length : Int) == (n : Int)) = false := beq_eq_false_iff_ne.2 (by omega)
    have q1 : W.cell? ⟨pb, 0, none⟩ = some (nv n) := hI.hp.cell 0
    have q2 : W.cell? ⟨qb, 0, none⟩ = some (nv b) := hI.hq.cell 0
    have n8 := A.n8
    have hcm : cutsTo js n b k p next (min (next + 1) b) = cutsF js n b (k + 1) p next := rfl
    rw [← hcm] at hall ⊢
    have hmz : min ((next : Int) + 1) (b : Int) = ((min (next + 1) b : Nat) : Int) := by omega
    obtain ⟨T, hT⟩ : ∃ T, min (next + 1) b = T := ⟨_, rfl⟩
    rw [hT] at hall hmz ⊢
    have hT8 : T ≤ 8 := by omega
    have HI := Lib.hid hI
    have HCO := Lib.hid hC
    have HJ := Lib.hid hJ
    have HALL := Lib.hid hall
    have IH := Lib.hid ih
    have HY := Lib.hid hY
    have HJB := Lib.hid hJb
    have HAT := Lib.hid A
    clear hI hC hJ hall ih hY hJb A hcm hT
    refine callsIn_of_wp Try.func114 rfl trivial ?_ rfl
    simp only [Try.ntmps114, List.size_toArray, List.length_cons, List.length_nil, Nat.reduceAdd, Nat.reduceSub, Array.replicate_succ, Array.replicate_zero, List.push_toArray, List.append_toArray, List.nil_append, List.cons_append]
    gi_wp2
    gi_loopw [34] (fun vi wr => ∃ (i : Nat) (C2 : List Nat), vi = .int .i64 i ∧ i ≤ T ∧ Hid (CutOk n C2 p) ∧ Hid (FillInv M bw pb cb db yb qb fb l g n b B0 capJ Ja js wr C2) ∧ Hid (J (done ++ cutsTo js n b k p next i) wr)) (fun vi _ => T - (intOf vi).toNat)
    case atStart => exact ⟨0, C, rfl, Nat.zero_le _, HCO, HI, by rw [cutsTo_zero]; simpa [Hid] using HJ.out⟩
    case round =>
      clear HI HJ HCO q1 q2
      obtain ⟨i, C2, rfl, hiT, HCO, HI, HJ⟩ := hrel
      by_cases hlt : i < T
      · obtain ⟨x0, hx0⟩ : ∃ x, C2[p.length]? = some x := ⟨_, List.getElem?_eq_getElem (by rw [HCO.out.len]; omega)⟩
        have e0 : wr.cell? ⟨cb, p.length, none⟩ = some (nv x0) := HI.out.hc.nat hx0
        have ef := HI.out.hc.frozen p.length
        have hI1 := HI.out.put HAT.out p.length i
        have hC1 := HCO.out.push (by omega) n8 (i := i) (by omega)
        have hb1 : Below bw wr (wr.setCell ⟨cb, p.length, none⟩ (nv i)) := (Below.refl _ _).setCell HAT.out.c0 _
        have hJ1 := HJB.out _ _ _ HJ.out hb1
        have hcall := IH.out (m - 1) (p ++ [i]) (max next (i + 1)) (done ++ cutsTo js n b k p next i) _ _ (by simp; omega) (by omega) hI1 hC1 hJ1 (by
          refine List.IsPrefix.trans ?_ HALL.out
          have := cutsTo_prefix (js := js) (n := n) (b := b) (k := k) (p := p) (next := next) (T - (i + 1)) (i + 1)
          rw [show i + 1 + (T - (i + 1)) = T from by omega, cutsTo_succ] at this
          obtain ⟨r, hr⟩ := this
          refine ⟨r, ?_⟩
          rw [← hr]
          simp [List.append_assoc])
        have hmore : (done ++ cutsTo js n b k p next i) ++ cutsF js n b k (p ++ [i]) (max next (i + 1)) = done ++ cutsTo js n b k p next (i + 1) := by
          rw [cutsTo_succ]
          simp [List.append_assoc]
        have q3 : (wr.setCell ⟨cb, p.length, none⟩ (nv i)).cell? ⟨fb, 0, none⟩ = some (.func (.func 114) #[] #[ptr pb, ptr cb, ptr db, ptr yb, ptr qb, ptr fb]) := hI1.hf.cell 0
        rw [hmore, show (((p ++ [i]).length : Nat) : Int) = (p.length : Int) + 1 from by simp, show ((max next (i + 1) : Nat) : Int) = max (next : Int) ((i : Int) + 1) from by omega] at hcall
        have HC := Lib.hid hcall
        clear hcall hI1 hC1 hJ1 hmore hb1 hx0
        gi_wp2_with fail
        refine ⟨trivial, hdd _, HC.out.mono ?_⟩
        clear HC IH q3 e0 ef HI HCO
        rintro e w3 ⟨⟨C3, hC3, hI3⟩, hout⟩
        have HC3 := Lib.hid hC3.pop
        have HI3 := Lib.hid hI3
        clear hC3 hI3
        rcases hout with ⟨rfl, hJ3⟩ | ⟨rfl, pre, hpre, hx3⟩
        · have HJ3 := Lib.hid hJ3
          clear hJ3
          gi_wp2
          go_roundw
          case rel => exact ⟨i + 1, C3, by go_num, by omega, HC3, HI3, HJ3⟩
          case measure => simp [intOf]; omega
        · have HPRE := Lib.hid hpre
          have HX3 := Lib.hid hx3
          clear hpre hx3
          gi_wp2
          go_ret
          exact ⟨⟨C3, HC3.out, HI3.out⟩, .inr ⟨rfl, pre, HPRE.out, HX3.out⟩⟩
      · obtain rfl : i = T := by omega
        gi_wp2
        go_ret
        exact ⟨⟨C2, HCO.out, HI.out⟩, .inl ⟨rfl, HJ.out⟩⟩
end
end Go.Proofs.Ytojgdallodmanaa

namespace Go.Proofs.Ytojgdallodmanaa
open Go.RowKit Go.Shelf
attribute [local go_sem] Oper.semAt_some

/-- All cuts of n parts into at most b blocks each of which hangs together. -/
def cutsL (js : List (Int × Int)) (n b : Nat) : List (List Nat) := cutsF js n b n [] 0

set_option maxRecDepth 100000 in
set_option maxHeartbeats 8000000 in
theorem cuts_in (M : Nat → Prop) (pb db qb l g n b B0 capJ : Nat) (Ja : Option Addr) (js : List (Int × Int)) (J Jx : List (List Nat) → World → Prop) (m : Nat) (W : World)
    (hp : Blk W pb 3 #[nv n]) (hd : Blk W db 99 #[ptr g]) (hq : Blk W qb 3 #[nv b]) (c1 : W.cell? ⟨g, 1, none⟩ = some (.slice Ja js.length capJ)) (rj : RdN 2 encSp W B0 Ja js) (hB0 : B0 ≤ W.heap.size)
    (hM : ∀ k, M k → k < W.heap.size) (mp : ¬ M pb) (md : ¬ M db) (mq : ¬ M qb) (mg : ¬ M g) (m0 : ∀ k, k < B0 → ¬ M k) (n1 : 1 ≤ n) (n8 : n ≤ 8) (hb8 : b ≤ 8) (jo : JsOk n js) (jl : js.length ≤ 12)
    (hJb : ∀ s W1 W2, J s W1 → Below W.heap.size W1 W2 → J s W2)
    (hY : ∀ m, Rounds m W.heap.size l M (cutsL js n b) J Jx) (h0 : J [] W) :
    CallsIn Fence.wide m Try.prog 113 #[.func (.yield l) #[] #[], ptr pb, ptr db, ptr qb] W fun e W' => (∃ v, e = .returned v) ∧
      (J (cutsL js n b) W' ∨ ∃ pre, pre <+: cutsL js n b ∧ Jx pre W') := by
  have plt := hp.lt
  have dlt := hd.lt
  have qlt := hq.lt
  have glt := lt_of_cell c1
  obtain ⟨W4, hW4⟩ : ∃ W4, ((W.alloc (.cells #[.func (.yield l) #[] #[]] 156)).alloc (.cells #[.int .i64 0, .int .i64 0, .int .i64 0, .int .i64 0, .int .i64 0, .int .i64 0, .int .i64 0, .int .i64 0] 123)).alloc (.cells #[.func (.func 114) #[] #[ptr pb, ptr (W.heap.size + 1), ptr db, ptr W.heap.size, ptr qb, ptr (W.heap.size + 2)]] 136) = W4 := ⟨_, rfl⟩
  have hz4 : W4.heap.size = W.heap.size + 3 := by rw [← hW4]; simp
  have hb4 : Below W.heap.size W W4 := by rw [← hW4]; exact belowA (belowA (belowA (belowR _) _) _) _
  have b4y : Blk W4 W.heap.size 156 #[.func (.yield l) #[] #[]] := by rw [← hW4]; exact ((Blk.new W 156 _).alloc _).alloc _
  have b4c : Blk W4 (W.heap.size + 1) 123 ((List.replicate 8 0).map nv).toArray := by
    rw [← hW4]
    have := (Blk.new (W.alloc (.cells #[.func (.yield l) #[] #[]] 156)) 123 #[.int .i64 0, .int .i64 0, .int .i64 0, .int .i64 0, .int .i64 0, .int .i64 0, .int .i64 0, .int .i64 0]).alloc (.cells #[.func (.func 114) #[] #[ptr pb, ptr (W.heap.size + 1), ptr db, ptr W.heap.size, ptr qb, ptr (W.heap.size + 2)]] 136)
    rw [World.size_alloc] at this
    exact this
  have b4f : Blk W4 (W.heap.size + 2) 136 #[.func (.func 114) #[] #[ptr pb, ptr (W.heap.size + 1), ptr db, ptr W.heap.size, ptr qb, ptr (W.heap.size + 2)]] := by
    rw [← hW4]
    have := Blk.new ((W.alloc (.cells #[.func (.yield l) #[] #[]] 156)).alloc (.cells #[.int .i64 0, .int .i64 0, .int .i64 0, .int .i64 0, .int .i64 0, .int .i64 0, .int .i64 0, .int .i64 0] 123)) 136 #[.func (.func 114) #[] #[ptr pb, ptr (W.heap.size + 1), ptr db, ptr W.heap.size, ptr qb, ptr (W.heap.size + 2)]]
    rw [World.size_alloc, World.size_alloc] at this
    exact this
  have hA : FillAt M W.heap.size pb (W.heap.size + 1) db W.heap.size qb (W.heap.size + 2) g n b B0 js :=
    ⟨hM, mp, md, mq, mg, m0, by omega, Nat.le_refl _, by omega, plt, dlt, qlt, by omega, by omega, n1, n8, jo, jl⟩
  have hI : FillInv M W.heap.size pb (W.heap.size + 1) db W.heap.size qb (W.heap.size + 2) l g n b B0 capJ Ja js W4 (List.replicate 8 0) :=
    ⟨hp.same (hb4.block _ plt), b4c, hd.same (hb4.block _ dlt), b4y, hq.same (hb4.block _ qlt), b4f, keepC hb4 c1, rj.below hb4 hB0, hb4.size, hB0, glt⟩
  have hC : CutOk n (List.replicate 8 0) [] := ⟨by simp, fun x hx => by rw [List.mem_replicate] at hx; omega, by simp, by rw [List.drop_replicate]⟩
  have hcall := fill_in M W.heap.size pb (W.heap.size + 1) db W.heap.size qb (W.heap.size + 2) l g n b B0 capJ Ja js (cutsL js n b) J Jx hA hb8 hJb hY n (m - 1) [] 0 [] W4 (List.replicate 8 0) (by simp) (by omega) hI hC (hJb _ _ _ h0 hb4) (by simp [cutsL])
  rw [show ([] : List (List Nat)) ++ cutsF js n b n [] 0 = cutsL js n b from by simp [cutsL]] at hcall
  have q3 : W4.cell? ⟨W.heap.size + 2, 0, none⟩ = some (.func (.func 114) #[] #[ptr pb, ptr (W.heap.size + 1), ptr db, ptr W.heap.size, ptr qb, ptr (W.heap.size + 2)]) := b4f.cell 0
  have HC := Lib.hid hcall
  clear hcall hI hC hA b4y b4c b4f hb4 hz4 hY hJb h0 hp hd hq c1 rj
  refine callsIn_of_wp Try.func113 rfl trivial ?_ rfl
  simp only [Try.ntmps113, List.size_toArray, List.length_cons, List.length_nil, Nat.reduceAdd, Nat.reduceSub, Array.replicate_succ, Array.replicate_zero, List.push_toArray, List.append_toArray, List.nil_append, List.cons_append]
  gi_wp2_with fail
  refine ⟨trivial, hdd _, HC.out.mono ?_⟩
  rintro e w3 ⟨_, (⟨rfl, hJ3⟩ | ⟨rfl, pre, hpre, hx3⟩)⟩
  · have HJ3 := Lib.hid hJ3
    clear hJ3 HC q3
    gi_wp2
    go_end0
    exact ⟨⟨_, rfl⟩, .inl HJ3.out⟩
  · have HX3 := Lib.hid hx3
    have HPRE := Lib.hid hpre
    clear hx3 hpre HC q3
    gi_wp2
    go_end0
    exact ⟨⟨_, rfl⟩, .inr ⟨pre, HPRE.out, HX3.out⟩⟩
end Go.Proofs.Ytojgdallodmanaa

namespace Go.Proofs.Ytojgdallodmanaa
open Go.RowKit Go.Shelf
attribute [local go_sem] Oper.semAt_some

set_option maxRecDepth 100000 in
set_option maxHeartbeats 1000000 in
theorem cuts_any (g : Nat) (A : Option Addr) (n cap b : Nat) (w : World) (c0 : w.cell? ⟨g, 0, none⟩ = some (.slice A n cap)) :
    Calls Try.prog 83 #[ptr g, .int .i64 b] w fun e w' =>
      e = .returned (.func (.func 113) #[] #[ptr (w.heap.size + 2), ptr w.heap.size, ptr (w.heap.size + 1)]) ∧ w' = ((w.alloc (.cells #[ptr g] 99)).alloc (.cells #[nv b] 3)).alloc (.cells #[nv n] 3) := by
  have hg := lt_of_cell c0
  go_enter Try.func83, Try.ntmps83
  go_wp2
  go_ret
  exact ⟨rfl, rfl⟩

/-- How a round's body may be left. -/
def roundOut (M : Nat → Prop) (I : List (List Nat) → World → Prop) (Ix : List (List Nat) → World → Prop) (xs : List (List Nat)) (W : World) : Exit → Act → World → Prop
  | .normal, _, W' => KeepM M W W' ∧ I xs W'
  | .ret, _, W' => KeepM M W W' ∧ Ix xs W'
  | _, _, _ => False
theorem grownPut (W : World) (k : Nat) (o : Obj) : W.grownBy (W.putObj k o) (some k) := ⟨rfl, rfl, rfl, by simp [World.putObj], fun i _ hne => World.putObj_heap_other (fun e => hne (by rw [e]))⟩

theorem rangeFunc_cuts {p : Tmp} {gf : Operand} {assign body : Code} {Q : Exit → Act → World → Prop} {a : Act} {w : World} (nn : Nat) (M : Nat → Prop) (pb db qb g n b B0 capJ : Nat) (Ja : Option Addr) (js : List (Int × Int))
    (hg : a.eval gf = .func (.func 113) #[] #[ptr pb, ptr db, ptr qb])
    (hp : Blk w pb 3 #[nv n]) (hd : Blk w db 99 #[ptr g]) (hq : Blk w qb 3 #[nv b]) (c1 : w.cell? ⟨g, 1, none⟩ = some (.slice Ja js.length capJ)) (rj : RdN 2 encSp w B0 Ja js) (hB0 : B0 ≤ w.heap.size)
    (hM : ∀ k, M k → k < w.heap.size) (mp : ¬ M pb) (md : ¬ M db) (mq : ¬ M qb) (mg : ¬ M g) (m0 : ∀ k, k < B0 → ¬ M k) (n1 : 1 ≤ n) (n8 : n ≤ 8) (hb8 : b ≤ 8) (jo : JsOk n js) (jl : js.length ≤ 12)
    (I Ix : List (List Nat) → World → Prop) (hI : ∀ s W1 W2, I s W1 → Below w.heap.size W1 W2 → I s W2) (hIx : ∀ s W1 W2, Ix s W1 → Below w.heap.size W1 W2 → Ix s W2) (h0 : I [] w)
    (hbody : ∀ (m l : Nat) (pre : List (List Nat)) (s : List Nat) (W : World), I pre W → pre ++ [s] <+: cutsL js n b → w.heap.size + 2 < W.heap.size →
      assign.wpIn (Fence.wide.inRound l) m Try.prog (Exit.then (fun a1 W1 => Below W.heap.size W W1 ∧ ∀ W2, I pre W2 → W1.grownBy W2 (some (w.heap.size + 1)) → W2.heap.size = W1.heap.size → body.wpIn (Fence.wide.inRound l) m Try.prog (roundOut M I Ix (pre ++ [s]) W2) a1 W2) (fun _ _ _ => False)) { tmps := a.tmps.setIfInBounds p (cutV s), defers := [] } W)
    (hdone : ∀ (W : World), I (cutsL js n b) W → w.heap.size + 2 ≤ W.heap.size → W.heap[w.heap.size]? = some (.deferred (some [])) → Q .normal { a with defers := { target := .collected w.heap.size, args := #[] } :: a.defers } W)
    (hstop : ∀ (pre : List (List Nat)) (W : World), pre <+: cutsL js n b → Ix pre W → w.heap.size + 2 ≤ W.heap.size → W.heap[w.heap.size]? = some (.deferred (some [])) → Code.ret.wpIn Fence.wide nn Try.prog Q { a with defers := { target := .collected w.heap.size, args := #[] } :: a.defers } W) :
    (Code.rangeFunc gf #[p] assign body).wpIn Fence.wide nn Try.prog Q a w := by
  have plt := hp.lt
  have dlt := hd.lt
  have qlt := hq.lt
  have glt := lt_of_cell c1
  refine wpIn_rangeFunc ?_
  intro fn hfn
  obtain ⟨rec, hrec⟩ : ∃ rec : LoopState → Option Code → Loop, rec = fun st pe => { state := st, pending := pe, fn, tmps := a.tmps, params := #[p], assign, body, defers := w.heap.size } := ⟨_, rfl⟩
  obtain ⟨W1, hW1⟩ : ∃ W1, (w.alloc (.deferred (some []))).alloc (.loop (rec .ready none)) = W1 := ⟨_, rfl⟩
  have hL1 : W1.heap[w.heap.size + 1]? = some (.loop (rec .ready none)) := by
    rw [← hW1]; have := World.alloc_heap_new (w.alloc (.deferred (some []))) (.loop (rec .ready none)); rwa [World.size_alloc] at this
  have hK1 : W1.heap[w.heap.size]? = some (.deferred (some [])) := by
    rw [← hW1]; exact (Below.heap_alloc _ _ _ (by simp)).trans (World.alloc_heap_new w _)
  have hb1 : Below w.heap.size w W1 := by
    rw [← hW1]; exact ((Below.refl _ w).alloc (Nat.le_refl _) _).alloc (by simp) _
  have hs1 : W1.heap.size = w.heap.size + 2 := by rw [← hW1]; simp
  have hI1 : I [] W1 := hI _ _ _ h0 hb1
  refine ⟨w.heap.size + 1, [{ target := .collected w.heap.size, args := #[] }], W1, { target := .fn (.func 113) #[ptr pb, ptr db, ptr qb], args := #[.func (.yield (w.heap.size + 1)) #[] #[]] }, W1, 113,
    #[.func (.yield (w.heap.size + 1)) #[] #[]] ++ #[ptr pb, ptr db, ptr qb], W1, ?_, ?_, ?_, ?_, hdd _, ?_⟩
  · rw [← hW1, hrec]; exact run_enterLoop_outer _ _ _ _ _
  · simp only [resolve, hg]
    simp [go_sem]
  · intro f' hf'; trivial
  · simp [invoke, go_sem]
  · have ready : ∀ {B : Nat} {X Y : World} {k : Nat} {o : Obj}, Below B X Y → k < B → X.heap[k]? = some o → Y.heap[k]? = some o := fun hb hk ho => (hb.block _ hk).trans ho
    have hlM : ∀ k, k < w.heap.size → k ≠ w.heap.size + 1 := fun k hk => by omega
    refine (cuts_in (fun k => M k ∨ k = w.heap.size + 1) pb db qb (w.heap.size + 1) g n b B0 capJ Ja js
      (fun pre W => I pre W ∧ W.heap[w.heap.size + 1]? = some (.loop (rec .ready none)) ∧ W.heap[w.heap.size]? = some (.deferred (some [])))
      (fun pre W => Ix pre W ∧ W.heap[w.heap.size + 1]? = some (.loop (rec .done (some .ret))) ∧ W.heap[w.heap.size]? = some (.deferred (some [])))
      (nn - 1) W1 (hp.same (hb1.block _ plt)) (hd.same (hb1.block _ dlt)) (hq.same (hb1.block _ qlt)) (keepC hb1 c1) (rj.below hb1 hB0) (by omega)
      (fun k hk => by rcases hk with hk | hk; (have := hM k hk; omega); omega) (fun h => h.elim mp (hlM _ plt)) (fun h => h.elim md (hlM _ dlt)) (fun h => h.elim mq (hlM _ qlt)) (fun h => h.elim mg (hlM _ glt)) (fun k hk h => h.elim (m0 k hk) (hlM _ (by omega))) n1 n8 hb8 jo jl
      (fun s A B h hb => ⟨hI s A B h.1 (hb.mono (by omega)), ready hb (by omega) h.2.1, ready hb (by omega) h.2.2⟩) ?_ ⟨hI1, hL1, hK1⟩).mono ?_
    · rintro m pre x W ⟨hi, hl, hk⟩ hpre hbw
      have hlt : w.heap.size + 1 < W.heap.size := (Array.getElem?_eq_some_iff.1 hl).1
      have hy : (Instr.yield (w.heap.size + 1) #[cutV x]).run Try.prog W = .ok (.round (w.heap.size + 1) fn (a.tmps.setIfInBounds p (cutV x)) assign body) W := by
        have := run_yield (P := Try.prog) (args := #[cutV x]) hl (by rw [hrec]; rfl)
        rw [hrec] at this
        simpa using this
      refine ⟨fn, _, assign, body, hy, roundIn_of_wpIn hfn ?_⟩
      refine wpIn_mono (hbody m (w.heap.size + 1) pre x W hi hpre (by omega)) ?_
      rintro e a1 W1' hp
      cases e with
      | normal =>
        obtain ⟨hbW, hp⟩ := hp
        have hl' : W1'.heap[w.heap.size + 1]? = some (.loop (rec .ready none)) := ready hbW hlt hl
        have hk' : W1'.heap[w.heap.size]? = some (.deferred (some [])) := ready hbW (by omega) hk
        have hlt' : w.heap.size + 1 < W1'.heap.size := (Array.getElem?_eq_some_iff.1 hl').1
        have hi' : I pre W1' := hI _ _ _ hi (hbW.mono (by omega))
        refine ⟨_, run_beginRound hl' (by rw [hrec]), ?_⟩
        have hl2 : (W1'.putObj (w.heap.size + 1) (.loop { rec .ready none with state := .busy })).heap[w.heap.size + 1]? = some (.loop { rec .ready none with state := .busy }) := World.putObj_heap_same hlt'
        have hk2 : (W1'.putObj (w.heap.size + 1) (.loop { rec .ready none with state := .busy })).heap[w.heap.size]? = some (.deferred (some [])) := (World.putObj_heap_other (by omega)).trans hk'
        refine wpIn_mono (hp _ (hI _ _ _ hi' (below_putObj _ (by omega) _)) (grownPut _ _ _) (by simp [World.putObj])) ?_
        have fin : ∀ (jump : Option Code) (W3 : World), KeepM M (W1'.putObj (w.heap.size + 1) (.loop { rec .ready none with state := .busy })) W3 →
            (Instr.endRound (w.heap.size + 1) jump).run Try.prog W3 = .ok (.bool jump.isNone) (W3.putObj (w.heap.size + 1) (.loop (rec (if jump.isNone then .ready else .done) jump))) ∧
            (W3.putObj (w.heap.size + 1) (.loop (rec (if jump.isNone then .ready else .done) jump))).heap[w.heap.size + 1]? = some (.loop (rec (if jump.isNone then .ready else .done) jump)) ∧
            (W3.putObj (w.heap.size + 1) (.loop (rec (if jump.isNone then .ready else .done) jump))).heap[w.heap.size]? = some (.deferred (some [])) ∧
            KeepM (fun k => M k ∨ k = w.heap.size + 1) W (W3.putObj (w.heap.size + 1) (.loop (rec (if jump.isNone then .ready else .done) jump))) := fun jump W3 hk3 => by
          have nM : ∀ k, w.heap.size ≤ k → ¬ M k := fun k hk hm => by have := hM k hm; omega
          have hl3 : W3.heap[w.heap.size + 1]? = some (.loop { rec .ready none with state := .busy }) := (hk3.same _ (nM _ (by omega)) (by simp [World.putObj]; omega)).trans hl2
          have hd3 : W3.heap[w.heap.size]? = some (.deferred (some [])) := (hk3.same _ (nM _ (by omega)) (by simp [World.putObj]; omega)).trans hk2
          have := run_endRound (P := Try.prog) jump hl3
          rw [hrec] at this ⊢
          have put : ∀ (X : World) (o : Obj), KeepM (fun k => M k ∨ k = w.heap.size + 1) X (X.putObj (w.heap.size + 1) o) := fun X o =>
            ⟨by simp [World.putObj], fun k hk _ => World.putObj_heap_other (fun e => hk (.inr e))⟩
          refine ⟨this, World.putObj_heap_same (Array.getElem?_eq_some_iff.1 hl3).1, (World.putObj_heap_other (by omega)).trans hd3, ?_⟩
          exact (((KeepM.of_below hbW).trans (put _ _)).trans ⟨hk3.size, fun k hk => hk3.same k (fun hm => hk (.inl hm))⟩).trans (put _ _)
        rintro e a3 W3 hp3
        cases e with
        | normal =>
          obtain ⟨hk3, hi3⟩ := hp3
          obtain ⟨hr, hl4, hk4, hkb⟩ := fin none W3 hk3
          exact ⟨_, _, hr, hkb, .inl ⟨rfl, hI _ _ _ hi3 (below_putObj _ (by omega) _), hl4, hk4⟩⟩
        | ret =>
          obtain ⟨hk3, hi3⟩ := hp3
          obtain ⟨hr, hl4, hk4, hkb⟩ := fin (some .ret) W3 hk3
          exact ⟨_, _, hr, hkb, .inr ⟨rfl, hIx _ _ _ hi3 (below_putObj _ (by omega) _), hl4, hk4⟩⟩
        | exit id => exact hp3.elim
        | goto t => exact hp3.elim
        | panic ch => exact hp3.elim
        | outgrown => exact hp3.elim
      | ret => exact hp.elim
      | exit id => exact hp.elim
      | goto t => exact hp.elim
      | panic ch => exact hp.elim
      | outgrown => exact hp.elim
    · rintro e W2 ⟨⟨v, rfl⟩, (⟨hi, hl, hk⟩ | ⟨pre, hpre, hi, hl, hk⟩)⟩
      · have hlt2 := (Array.getElem?_eq_some_iff.1 hl).1
        exact ⟨none, _, by have := run_endLoop (P := Try.prog) hl (by rw [hrec]; simp); rw [hrec] at this; exact this,
          hdone _ (hI _ _ _ hi (below_putObj _ (by omega) _)) (by simp [World.putObj]; omega) ((World.putObj_heap_other (by omega)).trans hk)⟩
      · have hlt2 := (Array.getElem?_eq_some_iff.1 hl).1
        exact ⟨some .ret, _, by have := run_endLoop (P := Try.prog) hl (by rw [hrec]; simp); rw [hrec] at this; exact this,
          hstop pre _ hpre (hIx _ _ _ hi (below_putObj _ (by omega) _)) (by simp [World.putObj]; omega) ((World.putObj_heap_other (by omega)).trans hk)⟩
end Go.Proofs.Ytojgdallodmanaa
