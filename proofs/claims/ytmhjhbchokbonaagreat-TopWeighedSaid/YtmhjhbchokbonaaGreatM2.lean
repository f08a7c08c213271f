/- What some parts weigh together, as a tree of weighings says: the plain law. No program is named here. (*block.deck).weigh: the closure that goes up the tree. (*block.deck).weigh. (*block.deck).least, and what is found of a set that is not known. (*block.deck).most: what is known of sets of parts. up (how often a number goes into another, rounded up), (*block.deck).light. bits.OnesCount of a set .. -/
import Derived.Maps.OwnSet
import Derived.Maps.OwnOps
import Derived.Maps.Ext
import Derived.Laws.Shifts
import Derived.Laws.ShiftsVarLaws
import Derived.Test.YtmhjhbchokbonaaGreatM0
import Derived.Test.YtmhjhbchokbonaaGreatM1
set_option maxRecDepth 1000000
set_option maxHeartbeats 16000000
namespace Go.Proofs.YtmhjhbchokbonaaGreat
structure Nd where
 lo : Int
 hi : Int
 set : Nat
 own : Nat
 kids : List Nat
structure Mass where
 alo : Int
 ahi : Int
 slo : Int
 shi : Int
def hasP (s i : Nat) : Bool := s.testBit i
def partM (own set i : Nat) (p : Prt) (m : Mass) : Mass :=
 if hasP own i then (if hasP set i then ⟨m.alo + p.lo, m.ahi + p.hi, m.slo + p.lo, m.shi + p.hi⟩ else ⟨m.alo + p.lo, m.ahi + p.hi, m.slo, m.shi⟩) else m
def ownTo (ps : List Prt) (own set : Nat) : Nat → Mass
 | 0 => ⟨0, 0, 0, 0⟩
 | k + 1 => match ps[k]? with
  | some p => partM own set k p (ownTo ps own set k)
  | none => ownTo ps own set k
def addM (m y : Mass) : Mass := ⟨m.alo + y.alo, m.ahi + y.ahi, m.slo + y.slo, m.shi + y.shi⟩
def capM (lo hi : Int) (m : Mass) : Mass × Bool :=
 (⟨max m.alo lo, min m.ahi hi, min m.shi (m.slo + max m.alo lo - m.alo), min m.shi (m.slo + min m.ahi hi - m.alo)⟩, decide (max m.alo lo ≤ min m.ahi hi))
def upF (N : List Nd) (ps : List Prt) (set : Nat) : Nat → Nat → Mass × Bool
 | 0, _ => (⟨0, 0, 0, 0⟩, true)
 | f + 1, i => match N[i]? with
  | none => (⟨0, 0, 0, 0⟩, true)
  | some nd =>
   let r := nd.kids.foldl (fun (acc : Mass × Bool) j => (addM acc.1 (upF N ps set f j).1, acc.2 && (upF N ps set f j).2)) (ownTo ps nd.own set ps.length, true)
   ((capM nd.lo nd.hi r.1).1, r.2 && (capM nd.lo nd.hi r.1).2)
def kidsTo (N : List Nd) (ps : List Prt) (set f : Nat) (nd : Nd) (k : Nat) : Mass × Bool :=
 (nd.kids.take k).foldl (fun (acc : Mass × Bool) j => (addM acc.1 (upF N ps set f j).1, acc.2 && (upF N ps set f j).2)) (ownTo ps nd.own set ps.length, true)
section
variable {N : List Nd} {ps : List Prt} {set f : Nat} {nd : Nd}
theorem kidsTo_zero : kidsTo N ps set f nd 0 = (ownTo ps nd.own set ps.length, true) := rfl
theorem kidsTo_succ {k j : Nat} (h : nd.kids[k]? = some j) : kidsTo N ps set f nd (k + 1) = (addM (kidsTo N ps set f nd k).1 (upF N ps set f j).1, (kidsTo N ps set f nd k).2 && (upF N ps set f j).2) := by
 unfold kidsTo
 obtain ⟨hk, rfl⟩ := List.getElem?_eq_some_iff.1 h
 rw [List.take_succ_eq_append_getElem hk, List.foldl_append]; rfl
theorem upF_at {i : Nat} (h : N[i]? = some nd) : upF N ps set (f + 1) i = ((capM nd.lo nd.hi (kidsTo N ps set f nd nd.kids.length).1).1, (kidsTo N ps set f nd nd.kids.length).2 && (capM nd.lo nd.hi (kidsTo N ps set f nd nd.kids.length).1).2) := by
 rw [upF, h]
 unfold kidsTo
 rw [List.take_length]
/-! No number is too great. -/
def MB (b : Int) (m : Mass) : Prop := 0 ≤ m.alo ∧ m.alo ≤ b ∧ 0 ≤ m.ahi ∧ m.ahi ≤ b ∧ -b ≤ m.slo ∧ m.slo ≤ b ∧ -b ≤ m.shi ∧ m.shi ≤ b
def PsOk (ps : List Prt) : Prop := ∀ p ∈ ps, 0 ≤ p.lo ∧ p.lo ≤ p.hi ∧ p.hi ≤ 100000
theorem ownTo_bd (hp : PsOk ps) (own set : Nat) : ∀ k : Nat, MB (100000 * k) (ownTo ps own set k) := by
 intro k
 induction k with
 | zero => simp [ownTo, MB]
 | succ k ih =>
  unfold ownTo
  cases hx : ps[k]? with
  | none =>
   obtain ⟨h1, h2, h3, h4, h5, h6, h7, h8⟩ := ih
   simp only [MB]
   omega
  | some p =>
   obtain ⟨h1, h2, h3, h4, h5, h6, h7, h8⟩ := ih
   have := hp p (List.mem_of_getElem? hx)
   simp only [partM]
   split
   ·split
    ·simp only [MB]; omega
    ·simp only [MB]; omega
   ·simp only [MB]; omega
theorem MB.mono {a b : Int} {m : Mass} (h : MB a m) (hab : a ≤ b) : MB b m := by
 obtain ⟨h1, h2, h3, h4, h5, h6, h7, h8⟩ := h
 simp only [MB]
 omega
theorem addM_bd {a b : Int} {m y : Mass} (h : MB a m) (k : MB b y) : MB (a + b) (addM m y) := by
 obtain ⟨h1, h2, h3, h4, h5, h6, h7, h8⟩ := h
 obtain ⟨k1, k2, k3, k4, k5, k6, k7, k8⟩ := k
 simp only [MB, addM]
 omega
def bdF (f : Nat) : Int := 10000000 * 16 ^ f
theorem bdF_succ (f : Nat) : bdF (f + 1) = 16 * bdF f := by unfold bdF; rw [Int.pow_succ]; omega
theorem bdF_pos (f : Nat) : 10000000 ≤ bdF f := by
 induction f with
 | zero => simp [bdF]
 | succ f ih => rw [bdF_succ]; omega
theorem bdF_mono {f g : Nat} (h : f ≤ g) : bdF f ≤ bdF g := by
 induction g with
 | zero => obtain rfl : f = 0 := by omega
           exact Int.le_refl _
 | succ g ih =>
  rcases Nat.lt_or_ge f (g + 1) with hlt | hge
  ·have := ih (by omega)
   have := bdF_pos g
   rw [bdF_succ]; omega
  ·obtain rfl : f = g + 1 := by omega
   exact Int.le_refl _
theorem bdF_eight : bdF 8 = 42949672960000000 := by simp [bdF]
theorem capM_bd {b lo hi : Int} {m : Mass} (h : MB b m) (h1 : 0 ≤ lo ∧ lo ≤ b) (h2 : 0 ≤ hi ∧ hi ≤ b) : MB (2 * b) (capM lo hi m).1 := by
 obtain ⟨k1, k2, k3, k4, k5, k6, k7, k8⟩ := h
 simp only [MB, capM]
 omega
def NOk (N : List Nd) : Prop := ∀ nd ∈ N, 0 ≤ nd.lo ∧ nd.lo ≤ 1000000 ∧ 0 ≤ nd.hi ∧ nd.hi ≤ 1000000 ∧ nd.own < 256 ∧ nd.kids.length ≤ 7
theorem kidsTo_bd (hp : PsOk ps) (hl : ps.length ≤ 8) (hb : ∀ j, MB (bdF f) (upF N ps set f j).1) : ∀ k : Nat, k ≤ nd.kids.length → MB (800000 + k * bdF f) (kidsTo N ps set f nd k).1 := by
 intro k
 induction k with
 | zero =>
  intro _
  exact (ownTo_bd hp nd.own set ps.length).mono (by omega)
 | succ k ih =>
  intro hk
  rw [kidsTo_succ (List.getElem?_eq_getElem (show k < nd.kids.length by omega))]
  refine (addM_bd (ih (by omega)) (hb _)).mono ?_
  rw [Int.natCast_succ, Int.add_mul]
  omega
theorem upF_bd (hp : PsOk ps) (hl : ps.length ≤ 8) (hN : NOk N) : ∀ (f j : Nat), MB (bdF f) (upF N ps set f j).1 := by
 intro f
 induction f with
 | zero => intro j; have := bdF_pos 0; simp only [upF, MB]; omega
 | succ f ih =>
  intro j
  cases hx : N[j]? with
  | none => rw [upF, hx]; have := bdF_pos (f + 1); simp only [MB]; omega
  | some nd =>
   rw [upF_at hx]
   obtain ⟨h1, h2, h3, h4, h5, h6⟩ := hN nd (List.mem_of_getElem? hx)
   have hk := (kidsTo_bd (nd := nd) hp hl ih nd.kids.length (Nat.le_refl _)).mono (show (800000 : Int) + (nd.kids.length : Int) * bdF f ≤ 800000 + 7 * bdF f by
    have := bdF_pos f
    have := Int.mul_le_mul_of_nonneg_right (show (nd.kids.length : Int) ≤ 7 by omega) (show 0 ≤ bdF f by omega)
    omega)
   have hb := bdF_pos f
   refine (capM_bd hk ⟨h1, by omega⟩ ⟨h3, by omega⟩).mono ?_
   rw [bdF_succ]
   omega
end
end Go.Proofs.YtmhjhbchokbonaaGreat
namespace Go.Proofs.YtmhjhbchokbonaaGreat
open Go.RowKit
abbrev ptr (b : Nat) : Value := pT b 0
abbrev upV (gd gs gu gi : Nat) : Value := .func (.func 112) #[] #[ptr gd, ptr gs, ptr gu, ptr gi]
section
variable {W w1 w2 : World} {g : Nat}
theorem keepAF {w : World} {b : Nat} (h : b < w.heap.size) (o : Nat) (ob : Obj) : (w.alloc ob).frozen? ⟨b, o, none⟩ = w.frozen? ⟨b, o, none⟩ :=
 (belowA (belowR w) ob).frozen (p := ⟨b, o, none⟩) h
theorem OnlyAt.refl (W : World) (g : Nat) : OnlyAt W W g := ⟨rfl, rfl, rfl, Nat.le_refl _, fun _ _ _ => rfl⟩
theorem OnlyAt.trans (h : OnlyAt W w1 g) (k : OnlyAt w1 w2 g) : OnlyAt W w2 g :=
 ⟨k.os.trans h.os, k.tape.trans h.tape, k.output.trans h.output, Nat.le_trans h.size k.size, fun i hi hne => (k.block i (Nat.lt_of_lt_of_le hi h.size) hne).trans (h.block i hi hne)⟩
theorem OnlyAt.alloc (h : OnlyAt W w1 g) (o : Obj) : OnlyAt W (w1.alloc o) g := h.trans (OnlyAt.of_below (belowA (belowR _) o) g)
theorem OnlyAt.new (h : OnlyAt W w1 g) {b : Nat} (hb : W.heap.size ≤ b) (k : Nat) (u : Value) : OnlyAt W (w1.setCell ⟨b, k, none⟩ u) g :=
 ⟨h.os, h.tape, h.output, by simp only [World.size_setCell]; exact h.size, fun i hi hne => (Below.heap_setCell w1 ⟨b, k, none⟩ u i (show i ≠ b by omega)).trans (h.block i hi hne)⟩
theorem OnlyAt.belowN' (h : OnlyAt W w1 g) (n : Nat) : OnlyAt W (w1.drewN n) g := ⟨h.os, h.tape, h.output, h.size, h.block⟩
end
def TabAt (w : World) (B : Nat) (N : List Nd) (bs : List Nat) : Prop := ∀ (i : Nat) (nd : Nd), N[i]? = some nd → ∃ b, bs[i]? = some b ∧ b < B ∧ w.cell? ⟨b, 0, none⟩ = some (iv nd.lo) ∧ w.cell? ⟨b, 1, none⟩ = some (iv nd.hi) ∧ w.cell? ⟨b, 2, none⟩ = some (iv (nd.set : Int)) ∧ w.cell? ⟨b, 3, none⟩ = some (iv (nd.own : Int)) ∧
 ∃ A cap, w.cell? ⟨b, 4, none⟩ = some (.slice A nd.kids.length cap) ∧ ∀ (k j : Nat), nd.kids[k]? = some j → ∃ bb off bj, A = some ⟨bb, off, none⟩ ∧ bb < B ∧ bs[j]? = some bj ∧ w.cell? ⟨bb, off + k, none⟩ = some (ptr bj)
theorem TabAt.only {W w1 : World} {g B : Nat} {N : List Nd} {bs : List Nat} (h : TabAt W B N bs) (ho : OnlyAt W w1 g) (hB : B ≤ g) : TabAt w1 B N bs := by
 intro i nd hi
 obtain ⟨b, h1, h2, c0, c1, c2, c3, A, cap, c4, hk⟩ := h i nd hi
 refine ⟨b, h1, h2, ho.cell c0 (by omega), ho.cell c1 (by omega), ho.cell c2 (by omega), ho.cell c3 (by omega), A, cap, ho.cell c4 (by omega), fun k j hkj => ?_⟩
 obtain ⟨bb, off, bj, e, hb, hj, hc⟩ := hk k j hkj
 exact ⟨bb, off, bj, e, hb, hj, ho.cell hc (by omega)⟩
structure UpSt (w : World) (B g gd gs gu gi : Nat) (A : Option Addr) (cap : Nat) (ps : List Prt) (set : Nat) (N : List Nd) (bs : List Nat) : Prop where
 tab : TabAt w B N bs
 dk : w.cell? ⟨g, 0, none⟩ = some (.slice A ps.length cap)
 rd : RdN 3 encPrt w B A ps
 cd : w.cell? ⟨gd, 0, none⟩ = some (ptr g)
 cs : w.cell? ⟨gs, 0, none⟩ = some (iv (set : Int))
 cu : w.cell? ⟨gu, 0, none⟩ = some (upV gd gs gu gi)
 gB : g < B
 hB : B ≤ gi
 nd : gd ≠ gi
 ns : gs ≠ gi
 nu : gu ≠ gi
theorem UpSt.only {W w1 : World} {B g gd gs gu gi : Nat} {A : Option Addr} {cap : Nat} {ps : List Prt} {set : Nat} {N : List Nd} {bs : List Nat} (h : UpSt W B g gd gs gu gi A cap ps set N bs) (ho : OnlyAt W w1 gi) : UpSt w1 B g gd gs gu gi A cap ps set N bs :=
 ⟨h.tab.only ho h.hB, ho.cell h.dk (by have := h.gB; have := h.hB; omega), ho.rdN h.rd h.hB, ho.cell h.cd h.nd, ho.cell h.cs h.ns, ho.cell h.cu h.nu, h.gB, h.hB, h.nd, h.ns, h.nu⟩
structure MassAt (w : World) (b : Nat) (m : Mass) : Prop where
 c0 : w.cell? ⟨b, 0, none⟩ = some (iv m.alo)
 c1 : w.cell? ⟨b, 1, none⟩ = some (iv m.ahi)
 c2 : w.cell? ⟨b, 2, none⟩ = some (iv m.slo)
 c3 : w.cell? ⟨b, 3, none⟩ = some (iv m.shi)
 fz : ∀ o, w.frozen? ⟨b, o, none⟩ = false
abbrev massV (m : Mass) : Value := .agg #[iv m.alo, iv m.ahi, iv m.slo, iv m.shi]
def UpPost (m : Mass) (v : Bool) (gi : Nat) (w : World) (e : Ending) (w' : World) : Prop :=
 e = .returned (massV m) ∧ OnlyAt w w' gi ∧ w'.cell? ⟨gi, 0, none⟩ = some (.bool v) ∧ w'.frozen? ⟨gi, 0, none⟩ = false
theorem up_any (B g gd gs gu gi : Nat) (A : Option Addr) (cap : Nat) (ps : List Prt) (set : Nat) (N : List Nd) (bs : List Nat) (hp : PsOk ps) (hl : ps.length ≤ 8) (hN : NOk N) (hs : set < 256)
  (hk : ∀ (i : Nat) (nd : Nd), N[i]? = some nd → ∀ j ∈ nd.kids, j < i) : ∀ (f i : Nat), f ≤ 7 → i < f → i < N.length → ∀ (b : Nat) (v : Bool) (w : World), bs[i]? = some b → UpSt w B g gd gs gu gi A cap ps set N bs → w.cell? ⟨gi, 0, none⟩ = some (.bool v) → w.frozen? ⟨gi, 0, none⟩ = false →
  Calls Tryz.prog 112 #[ptr b, ptr gd, ptr gs, ptr gu, ptr gi] w (UpPost (upF N ps set f i).1 (v && (upF N ps set f i).2) gi w) := by
 intro f
 induction f with
 | zero => intro i _ h; omega
 | succ f ih =>
  intro i hf hif hiN b v w hb hst hv hvf
  obtain ⟨nd, hnd⟩ : ∃ nd, N[i]? = some nd := ⟨_, List.getElem?_eq_getElem hiN⟩
  obtain ⟨b', hb', hbB, n0, n1, n2, n3, A4, cap4, n4, hkid⟩ := hst.tab i nd hnd
  rw [hb] at hb'
  injection hb' with hb'
  subst hb'
  rw [upF_at hnd]
  have hno := hN nd (List.mem_of_getElem? hnd)
  have hkb := fun k hk => kidsTo_bd (N := N) (set := set) (nd := nd) hp hl (upF_bd hp hl hN f) k hk
  have hbf := bdF_mono (show f ≤ 8 by omega)
  rw [bdF_eight] at hbf
  obtain ⟨W1, hW1⟩ := ex (w.alloc (.cells #[iv 0, iv 0, iv 0, iv 0] 150))
  have hb0 : BW w W1 := by rw [← hW1]; exact belowA (belowR _) _
  have hm0 : MassAt W1 w.heap.size ⟨0, 0, 0, 0⟩ := by rw [← hW1]; clear hW1; exact ⟨by go_simp, by go_simp, by go_simp, by go_simp, fun o => by go_simp⟩
  have hgi := lt_of_cell hv
  have HST := Lq hst
  have d1 := keepC hb0 hst.cd
  have d2 := keepC hb0 hst.dk
  have s1 := keepC hb0 hst.cs
  have u1 := keepC hb0 hst.cu
  have n0 := keepC hb0 n0
  have n1 := keepC hb0 n1
  have n3 := keepC hb0 n3
  have n4 := keepC hb0 n4
  obtain ⟨gm, hgm⟩ := ex w.heap.size
  have hne1 : gd ≠ gm := by rw [← hgm]; have := lt_of_cell hst.cd; omega
  have hne2 : g ≠ gm := by rw [← hgm]; have := lt_of_cell hst.dk; omega
  have hne3 : gs ≠ gm := by rw [← hgm]; have := lt_of_cell hst.cs; omega
  have hne4 : gu ≠ gm := by rw [← hgm]; have := lt_of_cell hst.cu; omega
  have hne5 : b ≠ gm := by rw [← hgm]; have := hst.hB; omega
  have hne6 : gi ≠ gm := by rw [← hgm]; omega
  have hBm : B ≤ gm := by rw [← hgm]; have := hst.hB; omega
  have hlm : gm < W1.heap.size := by rw [← hgm]; exact lt_of_cell hm0.c0
  have hRd := hst.rd.below hb0 (by have := hst.hB; omega)
  have v1 := keepC hb0 hv
  have hbg : b ≠ gi := by have := hst.hB; omega
  have HC : Hid (∀ W, OnlyAt W1 W gm → W.cell? ⟨gd, 0, none⟩ = some (ptr g) ∧ W.cell? ⟨g, 0, none⟩ = some (.slice A ps.length cap) ∧ W.cell? ⟨gs, 0, none⟩ = some (iv (set : Int)) ∧ W.cell? ⟨gu, 0, none⟩ = some (upV gd gs gu gi) ∧ W.cell? ⟨b, 0, none⟩ = some (iv nd.lo) ∧ W.cell? ⟨b, 1, none⟩ = some (iv nd.hi) ∧ W.cell? ⟨b, 3, none⟩ = some (iv (nd.own : Int)) ∧ W.cell? ⟨b, 4, none⟩ = some (.slice A4 nd.kids.length cap4) ∧ W.cell? ⟨gi, 0, none⟩ = some (.bool v)) := Lq fun W h => ⟨h.cell d1 hne1, h.cell d2 hne2, h.cell s1 hne3, h.cell u1 hne4, h.cell n0 hne5, h.cell n1 hne5, h.cell n3 hne5, h.cell n4 hne5, h.cell v1 hne6⟩
  have HRD : Hid (∀ W, OnlyAt W1 W gm → RdN 3 encPrt W B A ps) := Lq fun W h => h.rdN hRd hBm
  have HM0 : Hid (MassAt W1 gm (ownTo ps nd.own set 0)) := Lq (by rw [← hgm]; exact hm0)
  have HIH := Lq ih
  have HKB := Lq hkb
  have HKID := Lq hkid
  have HB0 := Lq hb0
  have hob := fun k => ownTo_bd hp nd.own set k
  have HOB := Lq hob
  have HP := Lq hp
  have HNN := Lq hN
  have HKK := Lq (hk i nd hnd)
  have HNO := Lq hno
  have HHV := Lq (And.intro hv hvf)
  clear hob hb0 hm0 hkb hkid ih hst hRd hp hno hv hvf hb hN hk hbB hne1 hne2 hne4 hne5 hne6 v1
  go_enter Tryz.func112, Tryz.ntmps112
  go_wp2
  clear hW1 d1 d2 s1 u1 n0 n1 n2 n3 n4
  go_loopw [20] (fun vi wr => ∃ k : Nat, k ≤ ps.length ∧ vi = iv k ∧ Hid (MassAt wr gm (ownTo ps nd.own set k)) ∧ Hid (OnlyAt W1 wr gm)) (fun vi _ => ps.length - (intOf vi).toNat)
  case atStart => exact ⟨0, Nat.zero_le _, rfl, HM0, Lq (OnlyAt.refl _ _)⟩
  case round =>
   clear HM0
   obtain ⟨k, hk, rfl, HM, HO⟩ := hrel
   obtain ⟨d1, d2, s1, u1, n0, n1, n3, n4, v1⟩ := HC.out _ HO.out
   by_cases hlt : k < ps.length
   ·obtain ⟨x, hx⟩ : ∃ x, ps[k]? = some x := ⟨_, List.getElem?_eq_getElem hlt⟩
    obtain ⟨bb, off, rfl, hbb, e0, e1, e2⟩ := prtAt (HRD.out _ HO.out) hx
    have hxo := HP.out x (List.mem_of_getElem? hx)
    obtain ⟨name, lo, hi⟩ := x
    simp only at e0 e1 e2 hxo
    obtain ⟨m0, m1, m2, m3, mf⟩ := HM.out
    have hlr := lt_of_cell m0
    have hlb := lt_of_cell n3
    have hls := lt_of_cell s1
    have hmb := HOB.out k
    have hsn : ownTo ps nd.own set (k + 1) = partM nd.own set k ⟨name, lo, hi⟩ (ownTo ps nd.own set k) := by rw [ownTo, hx]
    obtain ⟨M, hM⟩ := ex (ownTo ps nd.own set k)
    rw [hM] at hmb hsn m0 m1 m2 m3
    obtain ⟨ma, mb, mc, md⟩ := M
    simp only [MB] at hmb m0 m1 m2 m3
    obtain ⟨q1, q2, q3, q4, q5, q6, q7, q8⟩ := hmb
    have f0 := mf 0
    have f1 := mf 1
    have f2 := mf 2
    have f3 := mf 3
    have HMF := Lq mf
    have HSN := Lq hsn
    have hown := HNO.out.2.2.2.2.1
    have hkz : (k : Int) < (ps.length : Int) := by omega
    have hk0 : (0 : Int) ≤ (k : Int) := by omega
    clear mf hM hsn hx HM
    cases h1 : nd.own.testBit k
    ·have hb1 := bit64_f hown h1
     have HS2 : Hid (ownTo ps nd.own set (k + 1) = ⟨ma, mb, mc, md⟩) := Lq (by rw [HSN.out]; simp [partM, hasP, h1])
     clear h1
     go_wp2
     go_roundw
     case rel => exact ⟨k + 1, by omega, by go_num, Lq (by rw [HS2.out]; exact ⟨keepA m0 _, keepA m1 _, keepA m2 _, keepA m3 _, fun o => (keepAF hlr o _).trans (HMF.out o)⟩), Lq (HO.out.alloc _)⟩
     case measure => simp [intOf]; omega
    ·have hb1 := bit64_t hown h1
     cases h2 : set.testBit k
     ·have hb2 := bit64_f hs h2
      have HS2 : Hid (ownTo ps nd.own set (k + 1) = ⟨ma + lo, mb + hi, mc, md⟩) := Lq (by rw [HSN.out]; simp [partM, hasP, h1, h2])
      clear h1 h2
      go_wp2
      go_roundw
      case rel => exact ⟨k + 1, by omega, by go_num, Lq (by rw [HS2.out]; exact ⟨by go_simp, by go_simp, by go_simp, by go_simp, fun o => (keepAF (by simpa using hlr) o _).trans (by simp only [World.frozen?_setCell]; exact HMF.out o)⟩), Lq (((HO.out.set _ _).set _ _).alloc _)⟩
      case measure => simp [intOf]; omega
     ·have hb2 := bit64_t hs h2
      have HS2 : Hid (ownTo ps nd.own set (k + 1) = ⟨ma + lo, mb + hi, mc + lo, md + hi⟩) := Lq (by rw [HSN.out]; simp [partM, hasP, h1, h2])
      clear h1 h2
      go_wp2
      go_roundw
      case rel => exact ⟨k + 1, by omega, by go_num, Lq (by rw [HS2.out]; exact ⟨by go_simp, by go_simp, by go_simp, by go_simp, fun o => (keepAF (by simpa using hlr) o _).trans (by simp only [World.frozen?_setCell]; exact HMF.out o)⟩), Lq (((((HO.out.set _ _).set _ _).set _ _).set _ _).alloc _)⟩
      case measure => simp [intOf]; omega
   ·obtain rfl : k = ps.length := by omega
    obtain ⟨F, hF⟩ := ex (bdF f)
    have hFp := bdF_pos f
    rw [hF] at hbf hFp
    have hkb2 : ∀ k, k ≤ nd.kids.length → MB (800000 + 7 * F) (kidsTo N ps set f nd k).1 := fun k hk => (HKB.out k hk).mono (by
     rw [hF]
     have h7 := HNO.out.2.2.2.2.2
     have := Int.mul_le_mul_of_nonneg_right (show (k : Int) ≤ 7 by omega) (show 0 ≤ F by omega)
     omega)
    have hub : ∀ j, MB F (upF N ps set f j).1 := fun j => by rw [← hF]; exact upF_bd HP.out hl HNN.out f j
    have HKB2 := Lq hkb2
    have HUB := Lq hub
    have hO2 : OnlyAt w wr gi := OnlyAt.of_below (HO.out.below HB0.out (by omega)) gi
    have HO2 := Lq hO2
    have HV2 : Hid (wr.cell? ⟨gi, 0, none⟩ = some (.bool (v && (kidsTo N ps set f nd 0).2)) ∧ wr.frozen? ⟨gi, 0, none⟩ = false) := Lq ⟨by rw [kidsTo_zero]; simpa using v1, (HO.out.below HB0.out (by omega)).frozen (p := ⟨gi, 0, none⟩) hgi |>.trans HHV.out.2⟩
    have HM2 : Hid (MassAt wr gm (kidsTo N ps set f nd 0).1) := Lq HM.out
    have hkl := HNO.out.2.2.2.2.2
    clear hF hkb2 hub hO2 HM
    go_wp2
    clear d1 d2 s1 u1 n0 n1 n3 n4 v1
    obtain ⟨wa, hwa⟩ : ∃ wa : World, wa = wr := ⟨_, rfl⟩
    subst hwa
    go_loopw [80] (fun vi wr => ∃ k : Nat, k ≤ nd.kids.length ∧ vi = iv k ∧ Hid (MassAt wr gm (kidsTo N ps set f nd k).1) ∧ Hid (OnlyAt w wr gi) ∧ Hid (wr.cell? ⟨gi, 0, none⟩ = some (.bool (v && (kidsTo N ps set f nd k).2)) ∧ wr.frozen? ⟨gi, 0, none⟩ = false)) (fun vi _ => nd.kids.length - (intOf vi).toNat)
    case atStart => exact ⟨0, Nat.zero_le _, rfl, HM2, HO2, HV2⟩
    case round =>
     clear HM2 HO2 HV2
     obtain ⟨k, hk, rfl, HM, HO2, HV2⟩ := hrel
     have hst2 := HST.out.only HO2.out
     have u1 := hst2.cu
     have HST2 := Lq hst2
     obtain ⟨m0, m1, m2, m3, mf⟩ := HM.out
     have HMF := Lq mf
     have hmb := HKB2.out k hk
     clear mf hst2
     by_cases hlt : k < nd.kids.length
     ·obtain ⟨j, hj⟩ : ∃ j, nd.kids[k]? = some j := ⟨_, List.getElem?_eq_getElem hlt⟩
      obtain ⟨bb, off, bj, rfl, hbb, hbj, hcp⟩ := HKID.out k j hj
      have hcp := HO2.out.cell hcp (by have := HST.out.hB; omega)
      have hji : j < i := HKK.out j (List.mem_of_getElem? hj)
      have hcall := HIH.out j (by omega) (by omega) (by omega) bj _ wr hbj HST2.out HV2.out.1 HV2.out.2
      have hsn := kidsTo_succ (N := N) (ps := ps) (set := set) (f := f) hj
      have hub := HUB.out j
      obtain ⟨V0, hV0⟩ := ex ((v && (kidsTo N ps set f nd k).2))
      have hV1 : (v && (kidsTo N ps set f nd (k + 1)).2) = (V0 && (upF N ps set f j).2) := by rw [hsn, ← hV0, Bool.and_assoc]
      have hsn1 : (kidsTo N ps set f nd (k + 1)).1 = addM (kidsTo N ps set f nd k).1 (upF N ps set f j).1 := by rw [hsn]
      rw [hV0] at hcall
      obtain ⟨K, hK⟩ := ex ((kidsTo N ps set f nd k).1)
      obtain ⟨Y, hY⟩ := ex ((upF N ps set f j).1)
      rw [hY] at hcall hsn1 hub
      rw [hK] at hsn1 hmb m0 m1 m2 m3
      obtain ⟨ka, kb, kc, kd⟩ := K
      obtain ⟨ya, yb, yc, yd⟩ := Y
      simp only [MB] at hmb hub m0 m1 m2 m3
      obtain ⟨q1, q2, q3, q4, q5, q6, q7, q8⟩ := hmb
      obtain ⟨r1, r2, r3, r4, r5, r6, r7, r8⟩ := hub
      have HCALL := Lq hcall
      have HS1 := Lq hsn1
      have HV1 := Lq hV1
      have hgml := lt_of_cell m0
      have hgw : w.heap.size ≤ gm := by omega
      have hgg : gi ≠ gm := by omega
      have hkz : (k : Int) < (nd.kids.length : Int) := by omega
      have hk0 : (0 : Int) ≤ (k : Int) := by omega
      clear hcall hsn hsn1 hV1 hV0 hK hY hj hbj
      go_wp2_with fail
      refine HCALL.out.mono ?_
      rintro e w5 ⟨rfl, ho5, hv5, hf5⟩
      have m0 := ho5.cell m0 (by omega)
      have m1 := ho5.cell m1 (by omega)
      have m2 := ho5.cell m2 (by omega)
      have m3 := ho5.cell m3 (by omega)
      have hg5 := lt_of_cell m0
      have hMF5 : ∀ o, w5.frozen? ⟨gm, o, none⟩ = false := fun o => (ho5.frozen o hgml (by omega)).trans (HMF.out o)
      have f0 := hMF5 0
      have f1 := hMF5 1
      have f2 := hMF5 2
      have f3 := hMF5 3
      have HMF5 := Lq hMF5
      have HO5 := Lq (HO2.out.trans ho5)
      have HV5 := Lq (And.intro hv5 hf5)
      have hgi5 := lt_of_cell hv5
      clear hMF5 ho5 hv5 hf5 HCALL u1 hcp
      go_wp2
      go_roundw
      case rel => exact ⟨k + 1, by omega, by go_num, Lq (by rw [HS1.out]; exact ⟨by go_simp; rfl, by go_simp; rfl, by go_simp; rfl, by go_simp; rfl, fun o => (keepAF (by simpa using hg5) o _).trans (by simp only [World.frozen?_setCell]; exact HMF5.out o)⟩), Lq (((((HO5.out.new hgw _ _).new hgw _ _).new hgw _ _).new hgw _ _).alloc _), Lq ⟨by rw [HV1.out]; exact keepA (keepSet (keepSet (keepSet (keepSet HV5.out.1 hgg) hgg) hgg) hgg) _, (keepAF (by simpa using hgi5) 0 _).trans (by simp only [World.frozen?_setCell]; exact HV5.out.2)⟩⟩
      case measure => simp [intOf]; omega
     ·obtain rfl : k = nd.kids.length := by omega
      obtain ⟨V0, hV0⟩ := ex ((v && (kidsTo N ps set f nd nd.kids.length).2))
      have hv2 := HV2.out
      rw [hV0] at hv2
      have hfin : ∀ (m : Mass) (vv : Bool) (w' : World), m = (capM nd.lo nd.hi (kidsTo N ps set f nd nd.kids.length).1).1 → vv = (V0 && (capM nd.lo nd.hi (kidsTo N ps set f nd nd.kids.length).1).2) → OnlyAt w w' gi → w'.cell? ⟨gi, 0, none⟩ = some (.bool vv) → w'.frozen? ⟨gi, 0, none⟩ = false →
        UpPost (capM nd.lo nd.hi (kidsTo N ps set f nd nd.kids.length).1).1 (v && ((kidsTo N ps set f nd nd.kids.length).2 && (capM nd.lo nd.hi (kidsTo N ps set f nd nd.kids.length).1).2)) gi w (.returned (massV m)) w' := by
       intro m vv w' h1 h2 h3 h4 h5
       subst h1 h2
       exact ⟨rfl, h3, by rw [h4, ← hV0, Bool.and_assoc], h5⟩
      have HFIN := Lq hfin
      clear hfin
      obtain ⟨K, hK⟩ := ex ((kidsTo N ps set f nd nd.kids.length).1)
      rw [hK] at hmb m0 m1 m2 m3
      have HK := Lq hK
      obtain ⟨ka, kb, kc, kd⟩ := K
      simp only [MB] at hmb m0 m1 m2 m3
      obtain ⟨q1, q2, q3, q4, q5, q6, q7, q8⟩ := hmb
      have hno := HNO.out
      obtain ⟨o1, o2, o3, o4, _, _⟩ := hno
      have n0 := HO2.out.cell n0 hbg
      have n1 := HO2.out.cell n1 hbg
      obtain ⟨hv2, hf2⟩ := hv2
      have hmax : (if ka < nd.lo then nd.lo else ka) = max ka nd.lo := by split <;> omega
      have hmin : (if nd.hi < kb then nd.hi else kb) = min kb nd.hi := by split <;> omega
      obtain ⟨L, hL⟩ := ex (max ka nd.lo)
      obtain ⟨U, hU⟩ := ex (min kb nd.hi)
      have l1 : 0 ≤ L ∧ L ≤ 400000000000000000 := by omega
      have l2 : 0 ≤ U ∧ U ≤ 400000000000000000 := by omega
      obtain ⟨l1, l1'⟩ := l1
      obtain ⟨l2, l2'⟩ := l2
      rw [hL] at hmax
      rw [hU] at hmin
      have hcap : (capM nd.lo nd.hi ⟨ka, kb, kc, kd⟩) = (⟨L, U, min kd (kc + L - ka), min kd (kc + U - ka)⟩, decide (L ≤ U)) := by unfold capM; simp only [hL, hU]
      have HCAP := Lq hcap
      have q5' : -400000000000000000 ≤ kc := by omega
      have q6' : kc ≤ 400000000000000000 := by omega
      have q2' : ka ≤ 400000000000000000 := by omega
      have q7' : -400000000000000000 ≤ kd := by omega
      have q8' : kd ≤ 400000000000000000 := by omega
      have hmn1 : (if kc + L - ka < kd then kc + L - ka else kd) = min kd (kc + L - ka) := by split <;> omega
      have hmn2 : (if kc + U - ka < kd then kc + U - ka else kd) = min kd (kc + U - ka) := by split <;> omega
      clear hK hV0 hL hU hcap o1 o2 o3 o4 q3 q4 q5 q6 q2 q7 q8
      have f0 := HMF.out 0
      have f1 := HMF.out 1
      have f2 := HMF.out 2
      have f3 := HMF.out 3
      go_wp2
      go_quiet (fail)
      have HN := Lq (HO2.out.belowN' nq)
      have m0 : (wr.drewN nq).cell? ⟨gm, 0, none⟩ = some (iv ka) := m0
      have m1 : (wr.drewN nq).cell? ⟨gm, 1, none⟩ = some (iv kb) := m1
      have m2 : (wr.drewN nq).cell? ⟨gm, 2, none⟩ = some (iv kc) := m2
      have m3 : (wr.drewN nq).cell? ⟨gm, 3, none⟩ = some (iv kd) := m3
      have f0 : (wr.drewN nq).frozen? ⟨gm, 0, none⟩ = false := f0
      have f1 : (wr.drewN nq).frozen? ⟨gm, 1, none⟩ = false := f1
      have f2 : (wr.drewN nq).frozen? ⟨gm, 2, none⟩ = false := f2
      have f3 : (wr.drewN nq).frozen? ⟨gm, 3, none⟩ = false := f3
      have hv2 : (wr.drewN nq).cell? ⟨gi, 0, none⟩ = some (.bool V0) := hv2
      have hf2 : (wr.drewN nq).frozen? ⟨gi, 0, none⟩ = false := hf2
      have HMF2 : Hid (∀ o, (wr.drewN nq).frozen? ⟨gm, o, none⟩ = false) := Lq HMF.out
      have hgg : gi ≠ gm := by omega
      clear hmax hmin u1 HMF HM HO2 HV2 HST2 n0 n1
      generalize wr.drewN nq = wz at *
      have hgw : w.heap.size ≤ gm := by omega
      cases V0
      ·go_wp2
       refine bodyPost_ret (v := massV ⟨L, U, min kd (kc + L - ka), min kd (kc + U - ka)⟩) (by simp [results, Tryz.results112, go_sem, m0, m1, m2, m3]) rfl ?_
       exact HFIN.out _ false _ (by rw [HK.out, HCAP.out]) (by rw [HK.out, HCAP.out]; rfl) (((((HN.out.set 0 _).new hgw 0 _).new hgw 1 _).new hgw 2 _).new hgw 3 _) (keepSet (keepSet (keepSet (keepSet (World.cell?_setCell_same _ ⟨gi, 0, none⟩ _ hv2) hgg) hgg) hgg) hgg) (by simp only [World.frozen?_setCell]; exact hf2)
      ·go_wp2
       refine bodyPost_ret (v := massV ⟨L, U, min kd (kc + L - ka), min kd (kc + U - ka)⟩) (by simp [results, Tryz.results112, go_sem, m0, m1, m2, m3]) rfl ?_
       exact HFIN.out _ (decide (L ≤ U)) _ (by rw [HK.out, HCAP.out]) (by rw [HK.out, HCAP.out]; rfl) (((((HN.out.set 0 _).new hgw 0 _).new hgw 1 _).new hgw 2 _).new hgw 3 _) (keepSet (keepSet (keepSet (keepSet (World.cell?_setCell_same _ ⟨gi, 0, none⟩ _ hv2) hgg) hgg) hgg) hgg) (by simp only [World.frozen?_setCell]; exact hf2)
theorem reg76_5 {Q : Exit → Act → World → Prop} {V : World} {gm gi : Nat} {ma mb mc md : Int} {v : Bool} {z0 z1 z2 z3 z6 z7 z8 z9 z10 z11 z12 z13 z14 z15 : Value} (hne : gm ≠ gi)
  (k0 : V.cell? ⟨gm, 0, none⟩ = some (iv ma)) (k1 : V.cell? ⟨gm, 1, none⟩ = some (iv mb)) (k2 : V.cell? ⟨gm, 2, none⟩ = some (iv mc)) (k3 : V.cell? ⟨gm, 3, none⟩ = some (iv md)) (kv : V.cell? ⟨gi, 0, none⟩ = some (.bool v))
  (f0 : V.frozen? ⟨gm, 0, none⟩ = false) (f1 : V.frozen? ⟨gm, 1, none⟩ = false) (f2 : V.frozen? ⟨gm, 2, none⟩ = false) (f3 : V.frozen? ⟨gm, 3, none⟩ = false) (kg : V.frozen? ⟨gi, 0, none⟩ = false)
  (hQ : ∀ u14 u15 wx, wx.cell? ⟨gm, 0, none⟩ = some (iv ma) → wx.cell? ⟨gm, 1, none⟩ = some (iv mb) → wx.cell? ⟨gm, 2, none⟩ = some (iv mc) → wx.cell? ⟨gm, 3, none⟩ = some (iv md) → wx.cell? ⟨gi, 0, none⟩ = some (.bool v) → (∀ n (a : World), n ≤ gm → n ≤ gi → Below n a V → Below n a wx) → Q .normal ⟨#[z0, z1, z2, z3, pT gm 0, pT gi 0, z6, z7, z8, z9, z10, z11, z12, z13, u14, u15], []⟩ wx) :
  (regionOf Tryz.f74 5).wp Tryz.prog Q ⟨#[z0, z1, z2, z3, pT gm 0, pT gi 0, z6, z7, z8, z9, z10, z11, z12, z13, z14, z15], []⟩ V := by
 have HQ := Lq hQ
 have hne2 : gi ≠ gm := fun e => hne e.symm
 clear hQ
 conv => arg 2; whnf
 go_region_held3 (fun W => W.cell? ⟨gm, 0, none⟩ = some (iv ma) ∧ W.cell? ⟨gm, 1, none⟩ = some (iv mb) ∧ W.cell? ⟨gm, 2, none⟩ = some (iv mc) ∧ W.cell? ⟨gm, 3, none⟩ = some (iv md) ∧ W.cell? ⟨gi, 0, none⟩ = some (.bool v)) (refine ⟨?_, ?_, ?_, ?_, ?_⟩ <;> go_simp) (fail)
 exact HQ.out _ _ _ (by go_simp) (by go_simp) (by go_simp) (by go_simp) (by go_simp) (fun n a h1 h2 h => belowDr (((((h.setCell (p := ⟨gm, 0, none⟩) h1 _).setCell (p := ⟨gm, 1, none⟩) h1 _).setCell (p := ⟨gm, 2, none⟩) h1 _).setCell (p := ⟨gm, 3, none⟩) h1 _).setCell (p := ⟨gi, 0, none⟩) h2 _))
structure TreeOk (ps : List Prt) (N : List Nd) : Prop where
 po : PsOk ps
 pl : ps.length ≤ 8
 nd : NOk N
 n0 : 0 < N.length
 n7 : N.length ≤ 7
 kid : ∀ (i : Nat) (nd : Nd), N[i]? = some nd → ∀ j ∈ nd.kids, j < i
def wgh (ps : List Prt) (N : List Nd) (set : Nat) : Mass × Bool := upF N ps set N.length (N.length - 1)
def WeighPost (m : Mass) (v : Bool) (w : World) (e : Ending) (w' : World) : Prop := e = .returned (.tuple #[massV m, .bool v]) ∧ BW w w'
theorem weigh_any (B g : Nat) (A : Option Addr) (cap : Nat) (ps : List Prt) (set : Nat) (N : List Nd) (bs : List Nat) (br : Nat) (w : World) (hT : TreeOk ps N) (hs : set < 256)
  (hbr : bs[N.length - 1]? = some br) (htab : TabAt w B N bs) (d0 : w.cell? ⟨g, 0, none⟩ = some (.slice A ps.length cap)) (d5 : w.cell? ⟨g, 5, none⟩ = some (ptr br)) (hR : RdN 3 encPrt w B A ps) (hgB : g < B) (hB : B ≤ w.heap.size) :
  Calls Tryz.prog 74 #[ptr g, iv set] w (WeighPost (wgh ps N set).1 (wgh ps N set).2 w) := by
 obtain ⟨W1, hW1⟩ := ex (((((w.alloc (.cells #[ptr g] 110)).alloc (.cells #[iv set] 3)).alloc (.cells #[iv 0, iv 0, iv 0, iv 0] 150)).alloc (.cells #[.bool true] 4)).alloc (.cells #[upV w.heap.size (w.heap.size + 1) (w.heap.size + 1 + 1 + 1 + 1) (w.heap.size + 1 + 1 + 1)] 184))
 have hb0 : BW w W1 := by rw [← hW1]; exact belowA (belowA (belowA (belowA (belowA (belowR _) _) _) _) _) _
 have c0 : W1.cell? ⟨w.heap.size, 0, none⟩ = some (ptr g) := by rw [← hW1]; clear hW1; go_simp
 have c1 : W1.cell? ⟨w.heap.size + 1, 0, none⟩ = some (iv set) := by rw [← hW1]; clear hW1; go_simp
 have m0 : W1.cell? ⟨w.heap.size + 1 + 1, 0, none⟩ = some (iv 0) := by rw [← hW1]; clear hW1; go_simp
 have mf : ∀ o, W1.frozen? ⟨w.heap.size + 1 + 1, o, none⟩ = false := by rw [← hW1]; clear hW1; intro o; go_simp
 have m1 : W1.cell? ⟨w.heap.size + 1 + 1, 1, none⟩ = some (iv 0) := by rw [← hW1]; clear hW1; go_simp
 have m2 : W1.cell? ⟨w.heap.size + 1 + 1, 2, none⟩ = some (iv 0) := by rw [← hW1]; clear hW1; go_simp
 have m3 : W1.cell? ⟨w.heap.size + 1 + 1, 3, none⟩ = some (iv 0) := by rw [← hW1]; clear hW1; go_simp
 have c3 : W1.cell? ⟨w.heap.size + 1 + 1 + 1, 0, none⟩ = some (.bool true) := by rw [← hW1]; clear hW1; go_simp
 have c3f : W1.frozen? ⟨w.heap.size + 1 + 1 + 1, 0, none⟩ = false := by rw [← hW1]; clear hW1; go_simp
 have c4 : W1.cell? ⟨w.heap.size + 1 + 1 + 1 + 1, 0, none⟩ = some (upV w.heap.size (w.heap.size + 1) (w.heap.size + 1 + 1 + 1 + 1) (w.heap.size + 1 + 1 + 1)) := by rw [← hW1]; clear hW1; go_simp
 have d0 := keepC hb0 d0
 have d5 := keepC hb0 d5
 have htab1 : TabAt W1 B N bs := htab.only (OnlyAt.of_below hb0 w.heap.size) hB
 have hst : UpSt W1 B g w.heap.size (w.heap.size + 1) (w.heap.size + 1 + 1 + 1 + 1) (w.heap.size + 1 + 1 + 1) A cap ps set N bs :=
  ⟨htab1, d0, hR.below hb0 hB, c0, c1, c4, hgB, by omega, by omega, by omega, by omega⟩
 have hup := up_any B g w.heap.size (w.heap.size + 1) (w.heap.size + 1 + 1 + 1 + 1) (w.heap.size + 1 + 1 + 1) A cap ps set N bs hT.po hT.pl hT.nd hs hT.kid N.length (N.length - 1) hT.n7 (by have := hT.n0; omega) (by have := hT.n0; omega) br true W1.drew hbr
  ⟨fun i nd hi => htab1 i nd hi, d0, hst.rd, c0, c1, c4, hgB, by omega, by omega, by omega, by omega⟩ c3 c3f
 obtain ⟨M, hM⟩ := ex ((upF N ps set N.length (N.length - 1)).1)
 obtain ⟨V, hV⟩ := ex ((upF N ps set N.length (N.length - 1)).2)
 rw [hM, hV] at hup
 have hres : WeighPost (wgh ps N set).1 (wgh ps N set).2 w = WeighPost M V w := by unfold wgh; rw [hM, hV]
 rw [hres]
 have HUP := Lq hup
 have HB0 := Lq hb0
 clear hup hM hV hres hst htab htab1 hR hT hbr
 go_enter Tryz.func74, Tryz.ntmps74
 go_wp2
 clear hW1
 have HC : Hid (∀ W, OnlyAt W1 W (w.heap.size + 1 + 1 + 1) → W.cell? ⟨w.heap.size + 1 + 1 + 1 + 1, 0, none⟩ = some (upV w.heap.size (w.heap.size + 1) (w.heap.size + 1 + 1 + 1 + 1) (w.heap.size + 1 + 1 + 1)) ∧ W.cell? ⟨w.heap.size, 0, none⟩ = some (ptr g) ∧ W.cell? ⟨g, 5, none⟩ = some (ptr br)) := Lq fun W h => ⟨h.cell c4 (by omega), h.cell c0 (by omega), h.cell d5 (by omega)⟩
 have HM : Hid (∀ W, OnlyAt W1 W (w.heap.size + 1 + 1 + 1) → W.cell? ⟨w.heap.size + 1 + 1, 0, none⟩ = some (iv 0) ∧ W.cell? ⟨w.heap.size + 1 + 1, 1, none⟩ = some (iv 0) ∧ W.cell? ⟨w.heap.size + 1 + 1, 2, none⟩ = some (iv 0) ∧ W.cell? ⟨w.heap.size + 1 + 1, 3, none⟩ = some (iv 0)) := Lq fun W h => ⟨h.cell m0 (by omega), h.cell m1 (by omega), h.cell m2 (by omega), h.cell m3 (by omega)⟩
 have HMF : Hid (∀ W, OnlyAt W1 W (w.heap.size + 1 + 1 + 1) → ∀ o, W.frozen? ⟨w.heap.size + 1 + 1, o, none⟩ = false) := Lq fun W h o => (h.frozen o (lt_of_cell m0) (by omega)).trans (mf o)
 clear c0 c1 m0 m1 m2 m3 mf c3 c3f c4 d0 d5
 obtain ⟨ma, mb, mc, md⟩ := M
 have HD0 : Hid (OnlyAt W1 W1.drew (w.heap.size + 1 + 1 + 1)) := Lq ((OnlyAt.refl W1 _).drew)
 go_region_held3 (fun W => W.cell? ⟨w.heap.size + 1 + 1 + 1 + 1, 0, none⟩ = some (upV w.heap.size (w.heap.size + 1) (w.heap.size + 1 + 1 + 1 + 1) (w.heap.size + 1 + 1 + 1)) ∧ W.cell? ⟨w.heap.size, 0, none⟩ = some (ptr g) ∧ W.cell? ⟨g, 5, none⟩ = some (ptr br)) (first | exact HC.out W1.drew HD0.out | exact HC.out w1 ho | exact ⟨keepSet (keepSet (keepSet (keepSet (HC.out _ ho).1 (by omega)) (by omega)) (by omega)) (by omega), keepSet (keepSet (keepSet (keepSet (HC.out _ ho).2.1 (by omega)) (by omega)) (by omega)) (by omega), keepSet (keepSet (keepSet (keepSet (HC.out _ ho).2.2 (by omega)) (by omega)) (by omega)) (by omega)⟩) (((go_at_call 112; refine HUP.out.mono ?_; rintro e w1 ⟨rfl, ho1, hv1, hf1⟩; have ho : OnlyAt W1 w1 (w.heap.size + 1 + 1 + 1) := ⟨ho1.os, ho1.tape, ho1.output, ho1.size, ho1.block⟩; obtain ⟨m0, m1, m2, m3⟩ := HM.out _ ho; have f0 := HMF.out _ ho 0; have f1 := HMF.out _ ho 1; have f2 := HMF.out _ ho 2; have f3 := HMF.out _ ho 3)))
 have hb1 : BW w w1 := ho.below HB0.out (by omega)
 have hb2 : BW w ((((w1.setCell ⟨w.heap.size + 1 + 1, 0, none⟩ (iv ma)).setCell ⟨w.heap.size + 1 + 1, 1, none⟩ (iv mb)).setCell ⟨w.heap.size + 1 + 1, 2, none⟩ (iv mc)).setCell ⟨w.heap.size + 1 + 1, 3, none⟩ (iv md)) := belowS (belowS (belowS (belowS hb1 (by simp only; omega) _) (by simp only; omega) _) (by simp only; omega) _) (by simp only; omega) _
 obtain ⟨wx, hwx⟩ := ex ((((w1.setCell ⟨w.heap.size + 1 + 1, 0, none⟩ (iv ma)).setCell ⟨w.heap.size + 1 + 1, 1, none⟩ (iv mb)).setCell ⟨w.heap.size + 1 + 1, 2, none⟩ (iv mc)).setCell ⟨w.heap.size + 1 + 1, 3, none⟩ (iv md))
 have k0 : wx.cell? ⟨w.heap.size + 1 + 1, 0, none⟩ = some (iv ma) := by rw [← hwx]; clear hwx; go_simp
 have k1 : wx.cell? ⟨w.heap.size + 1 + 1, 1, none⟩ = some (iv mb) := by rw [← hwx]; clear hwx; go_simp
 have k2 : wx.cell? ⟨w.heap.size + 1 + 1, 2, none⟩ = some (iv mc) := by rw [← hwx]; clear hwx; go_simp
 have k3 : wx.cell? ⟨w.heap.size + 1 + 1, 3, none⟩ = some (iv md) := by rw [← hwx]; clear hwx; go_simp
 have kv : wx.cell? ⟨w.heap.size + 1 + 1 + 1, 0, none⟩ = some (.bool V) := by rw [← hwx]; rw [Bool.true_and] at hv1; exact keepSet (keepSet (keepSet (keepSet hv1 (by omega)) (by omega)) (by omega)) (by omega)
 have kf : ∀ o, wx.frozen? ⟨w.heap.size + 1 + 1, o, none⟩ = false := by rw [← hwx]; intro o; simp only [World.frozen?_setCell]; exact HMF.out _ ho o
 have kg : wx.frozen? ⟨w.heap.size + 1 + 1 + 1, 0, none⟩ = false := by rw [← hwx]; simp only [World.frozen?_setCell]; exact hf1
 have f0 := kf 0
 have f1 := kf 1
 have f2 := kf 2
 have f3 := kf 3
 rw [hwx] at hb2 ⊢
 have HBX := Lq hb2
 rename_i hHeld
 rw [hwx] at hHeld
 clear hHeld hwx
 clear hb1 hb2 ho ho1 hv1 hf1 m0 m1 m2 m3 HC HM HMF HUP HD0
 go_upto_region 5 with fail
 refine reg76_5 (by omega) k0 k1 k2 k3 kv f0 f1 f2 f3 kg ?_
 intro u14 u15 wy y0 y1 y2 y3 yv hby
 have hb3 := hby w.heap.size w (by omega) (by omega) HBX.out
 have HB3 := Lq hb3
 clear hby hb3 k0 k1 k2 k3 kv f0 f1 f2 f3 kf kg HBX
 go_wp2
 refine bodyPost_ret (v := .tuple #[massV ⟨ma, mb, mc, md⟩, .bool V]) (by simp [results, Tryz.results74, go_sem, y0, y1, y2, y3, yv]) rfl ?_
 exact ⟨rfl, HB3.out⟩
def TabOff (w : World) (g : Nat) (N : List Nd) (bs : List Nat) : Prop := ∀ (i : Nat) (nd : Nd), N[i]? = some nd → ∀ b, bs[i]? = some b → b ≠ g ∧ ∀ (ad : Addr) (n cap : Nat), w.cell? ⟨b, 4, none⟩ = some (.slice (some ad) n cap) → ad.block ≠ g
theorem TabAt.only2 {W w1 : World} {g B : Nat} {N : List Nd} {bs : List Nat} (h : TabAt W B N bs) (hf : TabOff W g N bs) (ho : OnlyAt W w1 g) : TabAt w1 B N bs := by
 intro i nd hi
 obtain ⟨b, h1, h2, c0, c1, c2, c3, A, cap, c4, hk⟩ := h i nd hi
 obtain ⟨hbg, hs⟩ := hf i nd hi b h1
 refine ⟨b, h1, h2, ho.cell c0 hbg, ho.cell c1 hbg, ho.cell c2 hbg, ho.cell c3 hbg, A, cap, ho.cell c4 hbg, fun k j hkj => ?_⟩
 obtain ⟨bb, off, bj, e, hb, hj, hc⟩ := hk k j hkj
 subst e
 exact ⟨bb, off, bj, rfl, hb, hj, ho.cell hc (hs _ _ _ c4)⟩
theorem TabOff.keep {W w1 : World} {g B : Nat} {N : List Nd} {bs : List Nat} (h : TabAt W B N bs) (hf : TabOff W g N bs) (hk : ∀ b, b < B → ∀ v, W.cell? ⟨b, 4, none⟩ = some v → b ≠ g → w1.cell? ⟨b, 4, none⟩ = some v) : TabOff w1 g N bs := by
 intro i nd hi b hb
 obtain ⟨hbg, hs⟩ := hf i nd hi b hb
 refine ⟨hbg, fun ad n cap hc => ?_⟩
 obtain ⟨b', e', h2, _, _, _, _, A, cap', c4, _⟩ := h i nd hi
 rw [hb] at e'
 injection e' with e'
 subst e'
 have := hk b h2 _ c4 hbg
 rw [this] at hc
 injection hc with hc
 rw [hc] at c4
 exact hs ad n cap c4
structure DeckSt (w : World) (B g : Nat) (h : Hul) (A : Option Addr) (cap : Nat) (J : Option Addr) (capJ : Nat) (N : List Nd) (bs : List Nat) (br km : Nat) : Prop where
 c0 : w.cell? ⟨g, 0, none⟩ = some (.slice A h.ps.length cap)
 c1 : w.cell? ⟨g, 1, none⟩ = some (.slice J h.js.length capJ)
 c2 : w.cell? ⟨g, 2, none⟩ = some (iv h.slo)
 c3 : w.cell? ⟨g, 3, none⟩ = some (iv h.shi)
 c4 : w.cell? ⟨g, 4, none⟩ = some (iv h.winch)
 c5 : w.cell? ⟨g, 5, none⟩ = some (ptr br)
 c6 : w.cell? ⟨g, 6, none⟩ = some (.map (some km))
 tab : TabAt w B N bs
 off : TabOff w km N bs
 root : bs[N.length - 1]? = some br
 rd : ∃ B0, B0 ≤ B ∧ B0 ≤ km ∧ RdN 3 encPrt w B0 A h.ps ∧ RdN 2 encSp w B0 J h.js
 gB : g < B
 gk : g ≠ km
 hB : B ≤ w.heap.size
section
variable {w w1 : World} {B g : Nat} {h : Hul} {A : Option Addr} {cap : Nat} {J : Option Addr} {capJ : Nat} {N : List Nd} {bs : List Nat} {br km x : Nat}
theorem DeckSt.rp (H : DeckSt w B g h A cap J capJ N bs br km) : RdN 3 encPrt w B A h.ps := by
 obtain ⟨B0, h1, _, h2, _⟩ := H.rd
 exact h2.more h1
theorem DeckSt.rj (H : DeckSt w B g h A cap J capJ N bs br km) : RdN 2 encSp w B J h.js := by
 obtain ⟨B0, h1, _, _, h2⟩ := H.rd
 exact h2.more h1
theorem DeckSt.only (H : DeckSt w B g h A cap J capJ N bs br km) (ho : OnlyAt w w1 x) (hx : x = km ∨ B ≤ x) : DeckSt w1 B g h A cap J capJ N bs br km := by
 have hg := H.gB
 have hgk := H.gk
 have hgx : g ≠ x := by omega
 obtain ⟨B0, r1, r2, r3, r4⟩ := H.rd
 have htab : TabAt w1 B N bs := by
  rcases hx with rfl | hx
  ·exact H.tab.only2 H.off ho
  ·exact H.tab.only ho hx
 exact ⟨ho.cell H.c0 hgx, ho.cell H.c1 hgx, ho.cell H.c2 hgx, ho.cell H.c3 hgx, ho.cell H.c4 hgx, ho.cell H.c5 hgx, ho.cell H.c6 hgx, htab, TabOff.keep H.tab H.off (fun b hb v hv hbk => ho.cell hv (by omega)), H.root, ⟨B0, r1, r2, ho.rdN r3 (by omega), ho.rdN r4 (by omega)⟩, H.gB, H.gk, Nat.le_trans H.hB ho.size⟩
theorem DeckSt.below (H : DeckSt w B g h A cap J capJ N bs br km) (hb : BW w w1) : DeckSt w1 B g h A cap J capJ N bs br km :=
 H.only (OnlyAt.of_below hb w.heap.size) (.inr H.hB)
end
theorem DeckSt.weigh {w : World} {B g : Nat} {h : Hul} {A : Option Addr} {cap : Nat} {J : Option Addr} {capJ : Nat} {N : List Nd} {bs : List Nat} {br km : Nat} (H : DeckSt w B g h A cap J capJ N bs br km) (hT : TreeOk h.ps N) {set : Nat} (hs : set < 256) : Calls Tryz.prog 74 #[ptr g, iv set] w (WeighPost (wgh h.ps N set).1 (wgh h.ps N set).2 w) :=
 weigh_any B g A cap h.ps set N bs br w hT hs H.root H.tab H.c0 H.c5 H.rp H.gB H.hB
def leastV (h : Hul) (N : List Nd) (set : Nat) : Int := (wgh h.ps N (2 ^ h.ps.length - 1 - set)).1.alo - (wgh h.ps N (2 ^ h.ps.length - 1 - set)).1.slo
def mostV (h : Hul) (N : List Nd) (set : Nat) : Int := (wgh h.ps N set).1.shi
theorem wgh_bd {ps : List Prt} {N : List Nd} (hT : TreeOk ps N) (set : Nat) : MB 42949672960000000 (wgh ps N set).1 := by
 have := (upF_bd (set := set) hT.po hT.pl hT.nd N.length (N.length - 1)).mono (bdF_mono (show N.length ≤ 8 by have := hT.n7; omega))
 rwa [bdF_eight] at this
theorem least_any {w : World} {B g : Nat} {h : Hul} {A : Option Addr} {cap : Nat} {J : Option Addr} {capJ : Nat} {N : List Nd} {bs : List Nat} {br km : Nat} (H : DeckSt w B g h A cap J capJ N bs br km) (hT : TreeOk h.ps N) (set : Nat) (hs : set < 2 ^ h.ps.length) :
  Calls Tryz.prog 53 #[ptr g, iv set] w (Rt w (iv (leastV h N set))) := by
 have hp : 2 ^ h.ps.length ≤ 256 := by
  have := Nat.pow_le_pow_right (show 0 < 2 by decide) hT.pl
  omega
 have hpl := hT.pl
 have hsh := shl1 h.ps.length (by omega)
 have hw := H.weigh hT (set := 2 ^ h.ps.length - 1 - set) (by omega)
 have hbd := wgh_bd hT (2 ^ h.ps.length - 1 - set)
 have hlv : leastV h N set = (wgh h.ps N (2 ^ h.ps.length - 1 - set)).1.alo - (wgh h.ps N (2 ^ h.ps.length - 1 - set)).1.slo := rfl
 have hcast : (((2 ^ h.ps.length : Nat) : Int) - 1 - (set : Int)) = ((2 ^ h.ps.length - 1 - set : Nat) : Int) := by omega
 have c0 := H.c0
 obtain ⟨P, hP⟩ := ex ((2 ^ h.ps.length : Nat))
 rw [hP] at hsh hw hbd hlv hcast hp hs
 obtain ⟨S, hS⟩ := ex (P - 1 - set)
 rw [hS] at hw hbd hlv hcast
 obtain ⟨M, hM⟩ := ex ((wgh h.ps N S).1)
 obtain ⟨V, hV⟩ := ex ((wgh h.ps N S).2)
 rw [hM] at hw hbd hlv
 rw [hV] at hw
 rw [hlv]
 obtain ⟨ma, mb, mc, md⟩ := M
 simp only [MB] at hbd ⊢
 obtain ⟨q1, q2, q3, q4, q5, q6, q7, q8⟩ := hbd
 have HW := Lq hw
 clear hw hlv hP hS hM hV H
 go_enter Tryz.func53, Tryz.ntmps53
 go_wp2_with fail
 refine HW.out.mono ?_
 rintro e w1 ⟨rfl, hb⟩
 have HB := Lq hb
 clear hb hcast
 go_wp2
 go_ret
 exact ⟨rfl, belowA HB.out _⟩
end Go.Proofs.YtmhjhbchokbonaaGreat
namespace Go.Proofs.YtmhjhbchokbonaaGreat
open Go.RowKit Go.Maps
theorem nodup_lt : ∀ (n : Nat) (l : List Nat), l.Nodup → (∀ x ∈ l, x < n) → l.length ≤ n := by
 intro n
 induction n with
 | zero =>
  intro l _ h
  cases l with
  | nil => simp
  | cons x l => exact absurd (h x (by simp)) (by omega)
 | succ n ih =>
  intro l hn h
  have h1 := ih (l.erase n) (hn.erase n) (fun x hx => by
   have h2 := h x (List.mem_of_mem_erase hx)
   have h3 : x ≠ n := fun e => by
    subst e
    exact (List.Nodup.not_mem_erase hn) hx
   omega)
  have h2 := List.length_erase_le (a := n) (l := l)
  have h3 : l.length ≤ (l.erase n).length + 1 := by
   rw [List.length_erase]
   split <;> omega
  omega
theorem law3 : Keyed Tryz.prog 3 := int_keyed Tryz.underlying3
theorem zero3 (w : World) : (zeroValue 3).run Tryz.prog w = .ok (.int .i64 0) w := Tryz.zeroValue3 w
def KnownAt (w : World) (km : Nat) (f : Nat → Int) : Prop := ∃ (D : DataW Unit) (n : Nat), w.ownsMap Tryz.prog 3 (plainElem Tryz.prog 3) km n D ∧ ∀ kl, has D kl = true → ∃ s : Nat, s < 256 ∧ kl = .int .i64 (s : Int) ∧ D.atKey kl (.lit (.int .i64 0)) = .lit (.int .i64 (f s))
theorem KnownAt.few {w : World} {km : Nat} {f : Nat → Int} (h : KnownAt w km f) : ∃ D : DataW Unit, w.ownsMap Tryz.prog 3 (plainElem Tryz.prog 3) km 256 D ∧ ∀ kl, has D kl = true → ∃ s : Nat, s < 256 ∧ kl = .int .i64 (s : Int) ∧ D.atKey kl (.lit (.int .i64 0)) = .lit (.int .i64 (f s)) := by
 obtain ⟨D, n, ho, hk⟩ := h
 refine ⟨D, ?_, hk⟩
 have ht := ho.tidy law3
 have hc := ho.canon law3
 obtain ⟨es, clock, hb, F, hs, hD⟩ := ho
 refine ⟨es, clock, hb, F, ?_, hD⟩
 obtain ⟨l, hl, hp⟩ := ht
 have hlen : l.length = es.size := by
  rw [hD] at hl
  injection hl with hl
  rw [← hl]
  exact length_read es
 rw [← hlen]
 have hkl : ∀ p ∈ l, WideAt.IsKeyLit p.1 := by
  obtain ⟨l', e', _, h⟩ := hc
  rw [hl] at e'
  injection e' with e'
  subst e'
  exact h
 have hkeys : ∀ p ∈ l, ∃ s : Nat, s < 256 ∧ p.1 = .int .i64 (s : Int) := fun p hp' => by
  obtain ⟨s, h1, h2, _⟩ := hk p.1 (by
   rw [hl, has_eq, List.any_eq_true]
   exact ⟨p, hp', WideAt.sameKey_self (hkl p hp')⟩)
  exact ⟨s, h1, h2⟩
 have := nodup_lt 256 (l.map fun p => match p.1 with | .int _ n => n.toNat | _ => 0) (by
  rw [List.Nodup, List.pairwise_map]
  refine hp.imp_of_mem ?_
  intro p q hp1 hq1 hne
  obtain ⟨s, _, e1⟩ := hkeys p hp1
  obtain ⟨t, _, e2⟩ := hkeys q hq1
  rw [e1, e2] at hne ⊢
  simp only [Int.toNat_natCast]
  intro e
  subst e
  exact hne rfl) (fun x hx => by
  obtain ⟨p, hp1, rfl⟩ := List.mem_map.1 hx
  obtain ⟨s, h1, e1⟩ := hkeys p hp1
  rw [e1]
  simpa using h1)
 simpa using this
theorem wf_i64 {n : Int} (h0 : -9223372036854775808 ≤ n) (h1 : n ≤ 9223372036854775807) : (Lit.int .i64 n).wf = true := by
 simp [Lit.wf, IntKind.min, IntKind.max, IntKind.bits, IntKind.signed]
 omega
section
variable {w : World} {B g : Nat} {h : Hul} {A : Option Addr} {cap : Nat} {J : Option Addr} {capJ : Nat} {N : List Nd} {bs : List Nat} {br km : Nat}
theorem most1_any (H : DeckSt w B g h A cap J capJ N bs br km) (hT : TreeOk h.ps N) (set gd : Nat) (hs : set < 256) (hc : w.cell? ⟨gd, 0, none⟩ = some (ptr g)) :
  Calls Tryz.prog 93 #[.int .i64 set, ptr gd] w (Rt w (iv (mostV h N set))) := by
 have hw := H.weigh hT hs
 have hlv : mostV h N set = (wgh h.ps N set).1.shi := rfl
 obtain ⟨M, hM⟩ := ex ((wgh h.ps N set).1)
 obtain ⟨V, hV⟩ := ex ((wgh h.ps N set).2)
 rw [hM] at hw hlv
 rw [hV] at hw
 rw [hlv]
 obtain ⟨ma, mb, mc, md⟩ := M
 have HW := Lq hw
 clear hw hlv hM hV H
 go_enter Tryz.func93, Tryz.ntmps93
 go_wp2_with fail
 refine HW.out.mono ?_
 rintro e w1 ⟨rfl, hb⟩
 have HB := Lq hb
 clear hb
 go_wp2
 go_ret
 exact ⟨rfl, belowA HB.out _⟩
def MostPost (v : Int) (km : Nat) (f : Nat → Int) (w : World) (e : Ending) (w' : World) : Prop := e = .returned (iv v) ∧ OnlyAt w w' km ∧ KnownAt w' km f
theorem KnownAt.below {w1 : World} {f : Nat → Int} (hk : KnownAt w km f) (hb : BW w w1) : KnownAt w1 km f := by
 obtain ⟨D, n, ho, h⟩ := hk
 refine ⟨D, n, ?_, h⟩
 have hlt := ho.lt
 obtain ⟨es, clock, hb', F, hs, hD⟩ := ho
 exact ⟨es, clock, (hb.block km hlt).trans hb', F, hs, hD⟩
theorem of_any (H : DeckSt w B g h A cap J capJ N bs br km) (hT : TreeOk h.ps N) (hK : KnownAt w km (mostV h N)) (set gd : Nat) (hs : set < 256) (hc : w.cell? ⟨gd, 0, none⟩ = some (ptr g)) :
  Calls Tryz.prog 92 #[.map (some km), .int .i64 set, .func (.func 93) #[] #[ptr gd]] w (MostPost (mostV h N set) km (mostV h N) w) := by
 have hf := most1_any H hT set gd hs hc
 have hbd := wgh_bd hT set
 have hwf : (Lit.int .i64 (mostV h N set)).wf = true := by
  obtain ⟨_, _, _, _, _, _, h1, h2⟩ := hbd
  exact wf_i64 (by unfold mostV; omega) (by unfold mostV; omega)
 have hkey : keyOf Tryz.prog 3 (.int .i64 (set : Int)) = some (.int .i64 (set : Int)) := keyOf_int_mk Tryz.underlying3 (wf_i64 (by omega) (by omega))
 obtain ⟨D, ho, hD⟩ := hK.few
 have hm := ho.tidy law3
 have HK := Lq hK
 have HDD := Lq hD
 have HO := Lq ho
 have HF := Lq hf
 have HT := Lq hm
 obtain ⟨F, hF⟩ := ex (mostV h N)
 rw [hF] at HK HDD HF hwf ⊢
 have HKEY := Lq hkey
 have HWF := Lq hwf
 clear hf hbd hwf hkey hK hD ho hm H hF
 cases hh : has D (.int .i64 (set : Int))
 ·have HH := Lq hh
  clear hh
  go_enter Tryz.func92, Tryz.ntmps92
  go_wp2_with (at_lookup; refine wpList_lookup_own_ok_int _ rfl _ _ 115 rfl 3 3 .i64 law3 Tryz.underlying115 Tryz.underlying3 (zero3 _) km 256 D rfl HO.out _ _ rfl HKEY.out ?_; intro c hat hwc; rw [HH.out]; clear hat hwc)
  go_wp2_with fail
  refine HF.out.mono ?_
  rintro e w1 ⟨rfl, hb⟩
  have ho1 : w1.ownsMap Tryz.prog 3 (plainElem Tryz.prog 3) km 256 D := HO.out.kept (row := none) ⟨hb.os, hb.tape, hb.output, hb.size, fun k hk _ => hb.block k hk⟩ (by simp)
  have HO1 := Lq ho1
  have HB := Lq hb
  clear hb ho1
  go_wp2_with (at_mapUpdate; refine wpList_mapUpdate_own _ rfl _ _ _ 115 rfl 3 3 law3 Tryz.underlying115 _ km 256 D rfl HO1.out (by unfold maxLen; omega) _ _ _ rfl rfl HKEY.out _ [] (plainElem_int Tryz.underlying3 HWF.out) ?_; intro w2 hown2 hgrow2)
  have HO2 := Lq hown2
  have HG2 := Lq hgrow2
  clear hown2 hgrow2
  go_wp2
  go_ret
  refine ⟨rfl, ?_, ⟨_, _, HO2.out, fun kl hkl => ?_⟩⟩
  ·exact (OnlyAt.of_below HB.out km).trans ⟨HG2.out.os, HG2.out.tape, HG2.out.output, HG2.out.size, fun k hk hne => HG2.out.block k hk (by simpa using hne)⟩
  ·by_cases hkk : kl = .int .i64 (set : Int)
   ·subst hkk
    exact ⟨set, hs, rfl, atKey_put_same HT.out.isMap (show WideAt.IsKeyLit (.int .i64 (set : Int)) from trivial) _ _⟩
   ·rw [has_put_other hkk] at hkl
    rw [atKey_put_other hkk]
    exact HDD.out kl hkl
 ·obtain ⟨s, hs', hk', hat'⟩ := HDD.out _ hh
  have hss : s = set := by
   injection hk' with _ hk'
   omega
  subst hss
  have HH := Lq hh
  have HAT := Lq hat'
  clear hh hat' hk'
  go_enter Tryz.func92, Tryz.ntmps92
  go_wp2_with (at_lookup; refine wpList_lookup_own_ok_int _ rfl _ _ 115 rfl 3 3 .i64 law3 Tryz.underlying115 Tryz.underlying3 (zero3 _) km 256 D rfl HO.out _ _ rfl HKEY.out ?_; intro c hat hwc; rw [HH.out]; have hcf : c = F s := (by rw [HAT.out] at hat; injection hat with hat; injection hat with _ hat; exact hat.symm); subst hcf; clear hat hwc)
  go_ret
  exact ⟨rfl, OnlyAt.refl _ _, HK.out⟩
theorem most_any (H : DeckSt w B g h A cap J capJ N bs br km) (hT : TreeOk h.ps N) (hK : KnownAt w km (mostV h N)) (set : Nat) (hs : set < 256) :
  Calls Tryz.prog 54 #[ptr g, .int .i64 set] w (MostPost (mostV h N set) km (mostV h N) w) := by
 obtain ⟨W1, hW1⟩ := ex (w.alloc (.cells #[ptr g] 110))
 have hb0 : BW w W1 := by rw [← hW1]; exact belowA (belowR _) _
 have c0 : W1.cell? ⟨w.heap.size, 0, none⟩ = some (ptr g) := by rw [← hW1]; clear hW1; go_simp
 have hof := of_any (H.below hb0) hT (hK.below hb0) set w.heap.size hs c0
 have c6 := (H.below hb0).c6
 have HOF := Lq hof
 have HB0 := Lq hb0
 obtain ⟨F, hF⟩ := ex (mostV h N)
 rw [hF] at HOF ⊢
 clear hof hb0 H hK hT hF
 go_enter Tryz.func54, Tryz.ntmps54
 go_wp2_with fail
 refine HOF.out.mono ?_
 rintro e w1 ⟨rfl, ho, hk⟩
 have HO := Lq ho
 have HK := Lq hk
 clear ho hk hW1 c0 c6
 go_wp2
 go_ret
 exact ⟨rfl, (OnlyAt.of_below HB0.out km).trans HO.out, HK.out⟩
end
end Go.Proofs.YtmhjhbchokbonaaGreat
namespace Go.Proofs.YtmhjhbchokbonaaGreat
open Go.RowKit
theorem upDiv_any {w : World} (n b : Int) (h0 : 0 ≤ n) (h1 : n ≤ 4611686018427387904) (b0 : 0 < b) (b1 : b ≤ 1000000000) :
  Calls Tryz.prog 70 #[iv n, iv b] w (Rt w (iv ((n + b - 1).tdiv b))) := by
 have hq : (n + b - 1).tdiv b ≤ n + b - 1 := by
  rw [Int.tdiv_eq_ediv_of_nonneg (by omega)]
  exact Int.ediv_le_self _ (by omega)
 have hq0 : 0 ≤ (n + b - 1).tdiv b := Int.tdiv_nonneg (by omega) (by omega)
 have hwr : ∀ x : Int, 0 ≤ x → x < 9223372036854775808 → wrap64 x = x := fun x h h2 => by unfold wrap64; omega
 have hw0 := hwr (n + b) (by omega) (by omega)
 have hw1 := hwr (n + b - 1) (by omega) (by omega)
 have hw2 := hwr ((n + b - 1).tdiv b) hq0 (by omega)
 have hb0 : (b == 0) = false := by simp; omega
 go_enter Tryz.func70, Tryz.ntmps70
 go_wp2
 go_ret
 exact ⟨rfl, belowR _⟩
section
variable {w : World} {B g : Nat} {h : Hul} {A : Option Addr} {cap : Nat} {J : Option Addr} {capJ : Nat} {N : List Nd} {bs : List Nat} {br km : Nat}
theorem KnownAt.drew {f : Nat → Int} (hk : KnownAt w km f) : KnownAt w.drew km f := hk.below (belowDr (belowR _))
def LightPost (v : Bool) (km : Nat) (f : Nat → Int) (w : World) (e : Ending) (w' : World) : Prop := e = .returned (.bool v) ∧ OnlyAt w w' km ∧ KnownAt w' km f
theorem light_any (H : DeckSt w B g h A cap J capJ N bs br km) (hT : TreeOk h.ps N) (hK : KnownAt w km (mostV h N)) (set : Nat) (hs : set < 256) (hsh : 1 ≤ h.shi ∧ h.shi ≤ 100000000) (hwi : 0 ≤ h.winch ∧ h.winch ≤ 100000000000000) (hbd : 0 ≤ mostV h N set ∧ mostV h N set ≤ 42949672960) :
  Calls Tryz.prog 77 #[ptr g, iv set] w (LightPost (decide (mostV h N set * h.shi ≤ 1000 * h.winch)) km (mostV h N) w) := by
 have hd : OnlyAt w w.drew km := (OnlyAt.refl w km).drew
 have hm := most_any (H.only hd (.inl rfl)) hT hK.drew set hs
 have HM := Lq hm
 have HC : Hid (∀ W, OnlyAt w W km → W.cell? ⟨g, 3, none⟩ = some (iv h.shi) ∧ W.cell? ⟨g, 4, none⟩ = some (iv h.winch)) := Lq fun W ho => ⟨(H.only ho (.inl rfl)).c3, (H.only ho (.inl rfl)).c4⟩
 have HD := Lq hd
 have h3 := H.c3
 have h4 := H.c4
 obtain ⟨M, hM⟩ := ex (mostV h N set)
 rw [hM] at hbd HM ⊢
 clear hm hM
 have hp0 : 0 ≤ M * h.shi := Int.mul_nonneg hbd.1 (by omega)
 have hp1 : M * h.shi ≤ 42949672960 * 100000000 := Int.mul_le_mul hbd.2 hsh.2 (by omega) (by omega)
 have hw1 : IntKind.i64.wrap (M * h.shi) = M * h.shi := wrap62 _ hp0 (by omega)
 have hw2 : IntKind.i64.wrap (1000 * h.winch) = 1000 * h.winch := wrap62 _ (by omega) (by omega)
 obtain ⟨F, hF⟩ := ex (mostV h N)
 rw [hF] at HM ⊢
 clear hF H hK hT
 go_enter Tryz.func77, Tryz.ntmps77
 go_wp2
 go_region_held3 (fun W => W.cell? ⟨g, 3, none⟩ = some (iv h.shi) ∧ W.cell? ⟨g, 4, none⟩ = some (iv h.winch)) (first | exact HC.out w.drew HD.out | exact HC.out w1 ho) (((go_at_call 54; refine HM.out.mono ?_; rintro e w1 ⟨rfl, ho1, hk1⟩; have ho : OnlyAt w w1 km := HD.out.trans ho1)))
 go_wp2
 go_ret
 exact ⟨rfl, ho, hk1⟩
end
def onesN (x : Nat) : Nat := ((List.range 8).filter fun i => x.testBit i).length
theorem onesN_le (x : Nat) : onesN x ≤ 8 := by
 have := List.length_filter_le (fun i => x.testBit i) (List.range 8)
 simpa [onesN] using this
def os1 (x : Int) : Int := IntKind.u64.wrap (bits .and .u64 (x / 2) 6148914691236517205 + bits .and .u64 x 6148914691236517205)
def os2 (x : Int) : Int := IntKind.u64.wrap (bits .and .u64 (x / 4) 3689348814741910323 + bits .and .u64 x 3689348814741910323)
def os3 (x : Int) : Int := bits .and .u64 (IntKind.u64.wrap (x / 16 + x)) 1085102592571150095
def os4 (x : Int) : Int := IntKind.u64.wrap (x + x / 256)
def os5 (x : Int) : Int := IntKind.u64.wrap (x + x / 65536)
def os6 (x : Int) : Int := IntKind.u64.wrap (x + x / 4294967296)
theorem ones_key : ∀ x : Nat, x < 256 → bits .and .i64 (wrap64 (os6 (os5 (os4 (os3 (os2 (os1 (x : Int)))))))) 127 = (onesN x : Int) := by decide +kernel
theorem ones64_any {w : World} (x : Nat) (hx : x < 256) :
  Calls Tryz.prog 141 #[.int .u64 x] w fun e w' => e = .returned (iv (onesN x : Int)) ∧ w = w' := by
 have hk := ones_key x hx
 go_enter Tryz.func141, Tryz.ntmps141
 go_wp2
 go_ret
 exact ⟨by rw [← hk]; rfl, rfl⟩
theorem ones_any {w : World} (x : Nat) (hx : x < 256) :
  Calls Tryz.prog 129 #[.int .u64 x] w fun e w' => e = .returned (iv (onesN x : Int)) ∧ w = w' := by
 have hc := ones64_any (w := w) x hx
 go_enter Tryz.func129, Tryz.ntmps129
 go_wp2_with (go_at_call 141; refine hc.mono ?_; rintro e w1 ⟨rfl, rfl⟩)
 go_ret
 exact ⟨rfl, rfl⟩
theorem cmpNd_any (b1 b2 s1 s2 : Nat) (W : World) (h1 : s1 < 256) (h2 : s2 < 256) (c1 : W.cell? ⟨b1, 2, none⟩ = some (iv (s1 : Int))) (c2 : W.cell? ⟨b2, 2, none⟩ = some (iv (s2 : Int))) :
  Calls Tryz.prog 128 #[ptr b1, ptr b2] W fun e w' => e = .returned (iv ((onesN s1 : Int) - (onesN s2 : Int))) ∧ ∃ q, w' = W.drewN q := by
 have k1 : ∀ n, Calls Tryz.prog 129 #[.int .u64 s1] (W.drewN n) fun e w' => e = .returned (iv (onesN s1 : Int)) ∧ ∃ q, w' = (W.drewN n).drewN q := fun n => (ones_any s1 h1).mono (by rintro e w' ⟨rfl, rfl⟩; exact ⟨rfl, 0, rfl⟩)
 have k2 : ∀ n, Calls Tryz.prog 129 #[.int .u64 s2] (W.drewN n) fun e w' => e = .returned (iv (onesN s2 : Int)) ∧ ∃ q, w' = (W.drewN n).drewN q := fun n => (ones_any s2 h2).mono (by rintro e w' ⟨rfl, rfl⟩; exact ⟨rfl, 0, rfl⟩)
 have K1 := Lq k1
 have K2 := Lq k2
 have o1 := onesN_le s1
 have o2 := onesN_le s2
 have w1 : IntKind.u64.wrap (s1 : Int) = (s1 : Int) := by rw [IntKind.wrap_u64]; omega
 have w2 : IntKind.u64.wrap (s2 : Int) = (s2 : Int) := by rw [IntKind.wrap_u64]; omega
 clear k1 k2
 go_enter Tryz.func128, Tryz.ntmps128
 go_wp2
 go_quiet ((go_at_call 129; first | exact Calls.quiet_of (K1.out _) | exact Calls.quiet_of (K2.out _)))
 go_wp2
 go_ret
 exact ⟨rfl, _, rfl⟩
end Go.Proofs.YtmhjhbchokbonaaGreat
