/- block.fresh: the error of the name of the last one of some parts. slices.Contains over joints. block.Check: the error of a hull. -/
import Derived.Deep.RegionHeld3
import Derived.Deep.DeepCutAuto
import Derived.Deep.DrawnRows
import Derived.Laws.EntriesVeiled
import Derived.Test.YtojgdallodmanaaZ6c4919
import Derived.Test.YtojgdallodmanaaZ3e85c2
import Derived.Test.YtojgdallodmanaaZf22f08
import Derived.Test.YtojgdallodmanaaZ8049c1
namespace Go.Proofs.Ytojgdallodmanaa
open Go.RowKit

/-- Whether a part of this name is among some. -/
def taken (l : List Prt) (s : ByteArray) : Bool := l.any fun c => c.name.toList == s.toList
theorem taken_snoc (l : List Prt) (s : ByteArray) (k : Nat) (x : Prt) (hx : l[k]? = some x) : taken (l.take (k + 1)) s = (taken (l.take k) s || x.name.toList == s.toList) := by
  unfold taken
  obtain ⟨h, rfl⟩ := List.getElem?_eq_some_iff.1 hx
  rw [List.take_succ_eq_append_getElem h, List.any_append]; simp
theorem taken_yes {l : List Prt} {s : ByteArray} {k : Nat} {x : Prt} (hx : l[k]? = some x) (h : (x.name.toList == s.toList) = true) : taken l s = true := by
  unfold taken
  rw [List.any_eq_true]
  exact ⟨x, List.mem_of_getElem? hx, h⟩

theorem nameOf_any (name : ByteArray) (lo hi : Int) (w : World) :
    Calls Try.prog 56 #[.agg #[.string name, .int .i64 lo, .int .i64 hi]] w fun e w' => e = .returned (.string name) ∧ Below w.heap.size w w' := by
  go_enter Try.func56, Try.ntmps56
  go_wp2
  go_ret
  exact ⟨rfl, belowA (belowR _) _⟩

theorem undrew0 {w w' : World} (h : Below w.drew.heap.size w.drew w') : Below w.heap.size w w' := ⟨h.os, h.tape, h.output, h.size, h.block⟩
theorem belowDr {B : Nat} {a w : World} (h : Below B a w) : Below B a w.drew := ⟨h.os, h.tape, h.output, h.size, h.block⟩
abbrev fv (n : Nat) : Value := .func (.func n) #[] #[]

theorem same_any (name s : ByteArray) (lo hi : Int) (gf gs : Nat) (w : World) (hf : w.cell? ⟨gf, 0, none⟩ = some (fv 56)) (hs : w.cell? ⟨gs, 0, none⟩ = some (.string s)) :
    Calls Try.prog 99 #[.agg #[.string name, .int .i64 lo, .int .i64 hi], .pointer (some ⟨gf, 0, none⟩), .pointer (some ⟨gs, 0, none⟩)] w fun e w' => e = .returned (.bool (name.toList == s.toList)) ∧ Below w.heap.size w w' := by
  obtain ⟨W1, hW1⟩ : ∃ W1, w.alloc (.cells #[.string name, .int .i64 lo, .int .i64 hi] 67) = W1 := ⟨_, rfl⟩
  have hb0 : Below w.heap.size w W1 := by rw [← hW1]; exact belowA (belowR _) _
  have c0 : W1.cell? ⟨w.heap.size, 0, none⟩ = some (.string name) := by rw [← hW1]; clear hW1; go_simp
  have c1 : W1.cell? ⟨w.heap.size, 1, none⟩ = some (.int .i64 lo) := by rw [← hW1]; clear hW1; go_simp
  have c2 : W1.cell? ⟨w.heap.size, 2, none⟩ = some (.int .i64 hi) := by rw [← hW1]; clear hW1; go_simp
  have hf := keepC hb0 hf
  have hs := keepC hb0 hs
  have HC : Hid (∀ W, Below W1.heap.size W1 W → W.cell? ⟨gf, 0, none⟩ = some (fv 56) ∧ W.cell? ⟨gs, 0, none⟩ = some (.string s) ∧ W.cell? ⟨w.heap.size, 0, none⟩ = some (.string name) ∧ W.cell? ⟨w.heap.size, 1, none⟩ = some (.int .i64 lo) ∧ W.cell? ⟨w.heap.size, 2, none⟩ = some (.int .i64 hi)) := Lib.hid fun W h => ⟨keepC h hf, keepC h hs, keepC h c0, keepC h c1, keepC h c2⟩
  have HN := Lib.hid (nameOf_any name lo hi W1.drew)
  have HB0 := Lib.hid hb0
  clear hb0
  go_enter Try.func99, Try.ntmps99
  go_wp2
  clear hW1
  go_region_held3 (fun W => W.cell? ⟨gf, 0, none⟩ = some (fv 56) ∧ W.cell? ⟨gs, 0, none⟩ = some (.string s) ∧ W.cell? ⟨w.heap.size, 0, none⟩ = some (.string name) ∧ W.cell? ⟨w.heap.size, 1, none⟩ = some (.int .i64 lo) ∧ W.cell? ⟨w.heap.size, 2, none⟩ = some (.int .i64 hi)) (first | exact HC.out _ (undrew0 hb1) | exact HC.out _ (belowR _) | exact HC.out _ (belowN (belowR _) 1)) (((go_at_call 56; refine HN.out.mono ?_; rintro e w1 ⟨rfl, hb1⟩)))
  go_wp2
  go_ret
  exact ⟨rfl, belowT HB0.out (undrew0 hb1)⟩

def IdxPostB (b : Bool) (w : World) (e : Ending) (w' : World) : Prop := ∃ r : Int, e = .returned (iv r) ∧ decide (0 ≤ r) = b ∧ Below w.heap.size w w'

set_option maxRecDepth 100000 in
set_option maxHeartbeats 1000000 in
theorem indexPrt_any (A : Option Addr) (xs : List Prt) (B cap gf gs : Nat) (s : ByteArray) (w : World) (hm : xs.length ≤ maxLen)
    (hR : RdN 3 encPrt w B A xs) (hB : B ≤ w.heap.size) (hf : w.cell? ⟨gf, 0, none⟩ = some (fv 56)) (hs : w.cell? ⟨gs, 0, none⟩ = some (.string s)) :
    Calls Try.prog 120 #[.slice A xs.length cap, .func (.func 99) #[] #[.pointer (some ⟨gf, 0, none⟩), .pointer (some ⟨gs, 0, none⟩)]] w (IdxPostB (taken xs s) w) := by
  unfold maxLen at hm
  go_enter Try.func120, Try.ntmps120
  go_wp2
  go_loopw [8] (fun i wr => ∃ k : Nat, k ≤ xs.length ∧ i = .int .i64 k ∧ taken (xs.take k) s = false ∧ Below w.heap.size w wr) (fun i _ => xs.length - (intOf i).toNat)
  case atStart => exact ⟨0, Nat.zero_le _, rfl, by simp [taken], belowR _⟩
  case round =>
    obtain ⟨k, hk, rfl, hn, hbw⟩ := hrel
    by_cases hlt : k < xs.length
    · obtain ⟨x, hx⟩ : ∃ x, xs[k]? = some x := ⟨_, List.getElem?_eq_getElem hlt⟩
      obtain ⟨b, off, rfl, _, c0, c1, c2⟩ := prtAt (hR.below hbw hB) hx
      have HSA := Lib.hid (fun lo hi name => same_any name s lo hi gf gs wr (keepC hbw hf) (keepC hbw hs))
      obtain ⟨name, lo, hi⟩ := x
      simp only at c0 c1 c2
      have Hx := Lib.hid hx
      clear hx
      by_cases hp : (name.toList == s.toList) = true
      · go_wp2_with (go_at_call 99; refine (HSA.out lo hi name).mono ?_; rintro e w1 ⟨rfl, hb1⟩)
        go_ret
        exact ⟨k, rfl, by rw [taken_yes Hx.out hp]; simp, belowT hbw hb1⟩
      · have hp' : (name.toList == s.toList) = false := by simpa using hp
        go_wp2_with (go_at_call 99; refine (HSA.out lo hi name).mono ?_; rintro e w1 ⟨rfl, hb1⟩)
        go_roundw
        case rel => exact ⟨k + 1, by omega, by go_num, by rw [taken_snoc _ _ _ _ Hx.out, hn, hp']; rfl, belowT hbw hb1⟩
        case measure => simp [intOf]; omega
    · go_wp2
      go_ret
      refine ⟨-1, rfl, ?_, hbw⟩
      rw [List.take_of_length_le (by omega)] at hn
      rw [hn]; rfl

theorem containsPrt_any (A : Option Addr) (xs : List Prt) (B cap gf gs : Nat) (s : ByteArray) (w : World) (hm : xs.length ≤ maxLen)
    (hR : RdN 3 encPrt w B A xs) (hB : B ≤ w.heap.size) (hf : w.cell? ⟨gf, 0, none⟩ = some (fv 56)) (hs : w.cell? ⟨gs, 0, none⟩ = some (.string s)) :
    Calls Try.prog 98 #[.slice A xs.length cap, .func (.func 99) #[] #[.pointer (some ⟨gf, 0, none⟩), .pointer (some ⟨gs, 0, none⟩)]] w fun e w' => e = .returned (.bool (taken xs s)) ∧ Below w.heap.size w w' := by
  have HI := Lib.hid (indexPrt_any A xs B cap gf gs s w hm hR hB hf hs)
  go_enter Try.func98, Try.ntmps98
  go_wp2_with (go_at_call 120; refine HI.out.mono ?_; rintro e w' ⟨r, rfl, hr, hb⟩)
  go_ret
  exact ⟨by rw [← hr]; rfl, hb⟩

theorem taken_names (l : List Prt) (s : ByteArray) : taken l s = oneOf (l.map Prt.name) s := by
  unfold taken oneOf
  rw [List.any_map]; rfl

set_option maxRecDepth 100000 in
set_option maxHeartbeats 4000000 in
theorem reg55_2 {Q : Exit → Act → World → Prop} {V : World} {b off n cap gf : Nat} {name : ByteArray} {lo hi : Int} {z1 z2 z4 z6 z7 z8 z9 z10 z11 z12 z13 z14 z15 z16 z17 z18 z19 z20 z21 z22 z23 z24 z25 : Value} (h0 : (0 : Int) ≤ (n : Int)) (h1 : (n : Int) < (n : Int) + 1)
    (g0 : V.cell? ⟨gf, 0, none⟩ = some (fv 56)) (c0 : V.cell? ⟨b, off + n * 3, none⟩ = some (.string name)) (c1 : V.cell? ⟨b, off + n * 3 + 1, none⟩ = some (.int .i64 lo)) (c2 : V.cell? ⟨b, off + n * 3 + 2, none⟩ = some (.int .i64 hi))
    (hQ : ∀ u10 u11 u12 u13 u14 u15 gs wx, V.heap.size ≤ gs → wx.cell? ⟨gs, 0, none⟩ = some (.string name) → Below V.heap.size V wx → Q .normal ⟨#[.slice (some ⟨b, off, none⟩) (n + 1) cap, z1, z2, .pointer (some ⟨gf, 0, none⟩), z4, .int .i64 n, .pointer (some ⟨gs, 0, none⟩), z7, z8, z9, u10, u11, u12, u13, u14, u15, z16, z17, z18, z19, z20, z21, z22, z23, z24, z25], []⟩ wx) :
    (regionOf Try.f55 2).wp Try.prog Q ⟨#[.slice (some ⟨b, off, none⟩) (n + 1) cap, z1, z2, .pointer (some ⟨gf, 0, none⟩), z4, .int .i64 n, z6, z7, z8, z9, z10, z11, z12, z13, z14, z15, z16, z17, z18, z19, z20, z21, z22, z23, z24, z25], []⟩ V := by
  have HC : Hid (∀ W, Below V.heap.size V W → W.cell? ⟨gf, 0, none⟩ = some (fv 56) ∧ W.cell? ⟨b, off + n * 3, none⟩ = some (.string name) ∧ W.cell? ⟨b, off + n * 3 + 1, none⟩ = some (.int .i64 lo) ∧ W.cell? ⟨b, off + n * 3 + 2, none⟩ = some (.int .i64 hi)) := Lib.hid fun W h => ⟨keepC h g0, keepC h c0, keepC h c1, keepC h c2⟩
  have HN : Hid (∀ W : World, Calls Try.prog 56 #[.agg #[.string name, .int .i64 lo, .int .i64 hi]] W fun e w' => e = .returned (.string name) ∧ Below W.heap.size W w') := Lib.hid (nameOf_any name lo hi)
  have HQ := Lib.hid hQ
  have hl := lt_of_cell g0
  have hb := lt_of_cell c0
  have HE : Hid (Below V.heap.size V (V.alloc (.cells #[.string ⟨#[]⟩] 9)).drew) := Lib.hid (belowDr (belowA (belowR V) _))
  have hz : (V.alloc (.cells #[.string ⟨#[]⟩] 9)).drew.cell? ⟨V.heap.size, 0, none⟩ = some (.string ⟨#[]⟩) := by go_simp
  have hzf : (V.alloc (.cells #[.string ⟨#[]⟩] 9)).drew.frozen? ⟨V.heap.size, 0, none⟩ = false := by go_simp
  have HZ := Lib.hid (And.intro hz hzf)
  clear hQ hz hzf g0 c0 c1 c2
  conv => arg 2; whnf
  go_region_held3 (fun W => W.cell? ⟨gf, 0, none⟩ = some (fv 56) ∧ W.cell? ⟨b, off + n * 3, none⟩ = some (.string name) ∧ W.cell? ⟨b, off + n * 3 + 1, none⟩ = some (.int .i64 lo) ∧ W.cell? ⟨b, off + n * 3 + 2, none⟩ = some (.int .i64 hi)) (first | exact HC.out _ (belowS hB1 (Nat.le_refl _) _) | exact HC.out _ (belowA (undrew0 hb1) _) | exact HC.out _ (undrew0 hb1) | exact HC.out _ hB1 | exact HC.out _ HE.out | exact HC.out _ (belowDr (belowR _))) ((first | ((go_at_call 56; with_reducible refine (HN.out V.drew).mono ?_); rintro e w1 ⟨rfl, hb1⟩) | ((go_at_call 56; with_reducible refine (HN.out (V.alloc (.cells #[.string ⟨#[]⟩] 9)).drew).mono ?_); rintro e w1 ⟨rfl, hb2⟩; have hB1 := belowT HE.out hb2; have hz := keepC hb2 HZ.out.1; have hzf := (keepF hb2 HZ.out.1).trans HZ.out.2)))
  · exact HQ.out _ _ _ _ _ _ w1.heap.size _ (by have := hb1.size; simpa using this) (by go_simp) (belowA (undrew0 hb1) _)
  · exact HQ.out _ _ _ _ _ _ V.heap.size _ (Nat.le_refl _) (by go_simp) (belowS hB1 (Nat.le_refl _) _)

set_option maxRecDepth 100000 in
set_option maxHeartbeats 1000000 in
theorem freshOne_any (A : Option Addr) (l : List Prt) (n : Nat) (c : Prt) (B cap : Nat) (w : World) (hm : n + 1 ≤ cap) (hcm : cap ≤ maxLen) (hn : l[n]? = some c) (hs : c.name.size ≤ maxLen) (hR : RdN 3 encPrt w B A l) (hB : B ≤ w.heap.size) :
    Calls Try.prog 55 #[.slice A (n + 1) cap, fv 56] w fun e w' => e = .returned (iv (freshE ((l.take n).map Prt.name) c.name)) ∧ Below w.heap.size w w' := by
  have hm' := hm
  unfold maxLen at hcm
  have hnl : n < l.length := (List.getElem?_eq_some_iff.1 hn).1
  obtain ⟨b, off, rfl, hlt, c0, c1, c2⟩ := prtAt hR hn
  have htl : (l.take n).length = n := by rw [List.length_take]; omega
  obtain ⟨name, lo, hi⟩ := c
  simp only at c0 c1 c2 hs ⊢
  obtain ⟨W1, hW1⟩ : ∃ W1, w.alloc (.cells #[fv 56] 92) = W1 := ⟨_, rfl⟩
  have hb0 : Below w.heap.size w W1 := by rw [← hW1]; exact belowA (belowR _) _
  have g0 : W1.cell? ⟨w.heap.size, 0, none⟩ = some (fv 56) := by rw [← hW1]; clear hW1; go_simp
  have c0 := keepC hb0 c0
  have c1 := keepC hb0 c1
  have c2 := keepC hb0 c2
  have hz1 := lt_of_cell g0
  have HC : Hid (∀ W, Below W1.heap.size W1 W → W.cell? ⟨w.heap.size, 0, none⟩ = some (fv 56) ∧ W.cell? ⟨b, off + n * 3, none⟩ = some (.string name) ∧ W.cell? ⟨b, off + n * 3 + 1, none⟩ = some (.int .i64 lo) ∧ W.cell? ⟨b, off + n * 3 + 2, none⟩ = some (.int .i64 hi)) := Lib.hid fun W h => ⟨keepC h g0, keepC h c0, keepC h c1, keepC h c2⟩
  have HCL : Hid (∀ (W : World) (gs : Nat), Below W1.heap.size W1 W → W.cell? ⟨gs, 0, none⟩ = some (.string name) → Calls Try.prog 98 #[.slice (some ⟨b, off, none⟩) n cap, .func (.func 99) #[] #[.pointer (some ⟨w.heap.size, 0, none⟩), .pointer (some ⟨gs, 0, none⟩)]] W fun e w' => e = .returned (.bool (taken (l.take n) name)) ∧ Below W.heap.size W w') := Lib.hid fun W gs hb hc => by
    have := containsPrt_any (some ⟨b, off, none⟩) (l.take n) B cap w.heap.size gs name W (by rw [htl]; unfold maxLen; omega) (((hR.below hb0 hB).take n).below hb (by have := hb0.size; omega)) (by have := hb0.size; have := hb.size; omega) (keepC hb g0) hc
    rwa [htl] at this
  have HNM : Hid (∀ W : World, Calls Try.prog 97 #[.string name] W fun e w' => e = .returned (.bool (nameB name)) ∧ Below W.heap.size W w') := Lib.hid fun W => name_any name W hs
  have hr : freshE ((l.take n).map Prt.name) name = if nameB name then (if taken (l.take n) name then 5 else 0) else 6 := by unfold freshE; rw [taken_names]
  have HRR := Lib.hid hr
  have HB0 := Lib.hid hb0
  have hnz : (n : Int) < (n : Int) + 1 := by omega
  have hn0 : (0 : Int) ≤ (n : Int) := by omega
  clear hb0 hR htl HC hr
  cases h1 : nameB name
  all_goals
    have HN1 := Lib.hid h1
    clear h1
    go_enter Try.func55, Try.ntmps55
    go_upto_region 2 with fail
    refine reg55_2 (gf := w.heap.size) hn0 hnz g0 c0 c1 c2 ?_
    intro u10 u11 u12 u13 u14 u15 gs w1 hgs hs1 hb1
    have HB1 := Lib.hid hb1
    have hz2 := lt_of_cell hs1
    clear hb1 hW1
    go_wp2_with fail
    refine (HNM.out _).mono ?_
    rintro e w2 ⟨he, hb2⟩
    rw [HN1.out] at he
    subst he
    have HB2 := Lib.hid (belowT HB1.out hb2)
    have hs2 := keepC hb2 hs1
    clear hb2 hs1
  · go_wp2
    go_ret
    exact ⟨by rw [HRR.out, HN1.out]; rfl, belowT HB0.out HB2.out⟩
  · cases h2 : taken (l.take n) name
    all_goals
      have HT := Lib.hid h2
      clear h2
      go_wp2_with fail
      refine (HCL.out w2 gs HB2.out hs2).mono ?_
      rintro e w3 ⟨he, hb3⟩
      rw [HT.out] at he
      subst he
      have HB3 := Lib.hid (belowT HB2.out hb3)
      clear hb3
      go_wp2
      go_ret
      exact ⟨by rw [HRR.out, HN1.out, HT.out]; rfl, belowT HB0.out HB3.out⟩
end Go.Proofs.Ytojgdallodmanaa

namespace Go.Proofs.Ytojgdallodmanaa
open Go.RowKit

/-- Two arrays of two numbers, compared. -/
theorem run_eqJ (d : Nat) (a b x y : Int) (w : World) : (Op.equalIn (d + 2) 79 (.agg #[iv a, iv b]) (.agg #[iv x, iv y])).run Try.prog w = .ok (a == x && b == y) w := by
  have h1 : ∀ w, (Op.equalIn (d + 1) 3 (iv a) (iv x)).run Try.prog w = .ok (a == x) w := fun w => run_equalIn_int w d 3 .i64 .i64 a x Try.underlying3
  have h2 : ∀ w, (Op.equalIn (d + 1) 3 (iv b) (iv y)).run Try.prog w = .ok (b == y) w := fun w => run_equalIn_int w d 3 .i64 .i64 b y Try.underlying3
  rw [Op.equalIn]
  simp only [Sem.run_bind, run_underlying Try.underlying79, Result.andThen_ok]
  simp only [Try.sizeOf3, Std.Legacy.Range.forIn_eq_forIn_range', Std.Legacy.Range.size]
  simp [List.range', h1, h2, go_sem]
  by_cases h : a = x <;> by_cases h' : b = y <;> simp [h, h']

def eqJ (x y : Int × Int) : Bool := x.1 == y.1 && x.2 == y.2
/-- Whether a joint is among some. -/
def hasJ (l : List (Int × Int)) (j : Int × Int) : Bool := l.any fun x => eqJ j x
theorem hasJ_snoc (l : List (Int × Int)) (j : Int × Int) (k : Nat) (x : Int × Int) (hx : l[k]? = some x) : hasJ (l.take (k + 1)) j = (hasJ (l.take k) j || eqJ j x) := by
  unfold hasJ
  obtain ⟨h, rfl⟩ := List.getElem?_eq_some_iff.1 hx
  rw [List.take_succ_eq_append_getElem h, List.any_append]; simp
theorem hasJ_yes {l : List (Int × Int)} {j : Int × Int} {k : Nat} {x : Int × Int} (hx : l[k]? = some x) (h : eqJ j x = true) : hasJ l j = true := by
  unfold hasJ
  rw [List.any_eq_true]
  exact ⟨x, List.mem_of_getElem? hx, h⟩

set_option maxRecDepth 100000 in
set_option maxHeartbeats 1000000 in
theorem indexJ_any (A : Option Addr) (xs : List (Int × Int)) (B cap : Nat) (a b : Int) (w : World) (hm : xs.length ≤ maxLen)
    (hR : RdN 2 encSp w B A xs) (hB : B ≤ w.heap.size) :
    Calls Try.prog 100 #[.slice A xs.length cap, .agg #[.int .i64 a, .int .i64 b]] w (IdxPostB (hasJ xs (a, b)) w) := by
  unfold maxLen at hm
  obtain ⟨W1, hW1⟩ : ∃ W1, w.alloc (.cells #[.int .i64 a, .int .i64 b] 79) = W1 := ⟨_, rfl⟩
  have hb0 : Below w.heap.size w W1 := by rw [← hW1]; exact belowA (belowR _) _
  have c0 : W1.cell? ⟨w.heap.size, 0, none⟩ = some (.int .i64 a) := by rw [← hW1]; clear hW1; go_simp
  have c1 : W1.cell? ⟨w.heap.size, 1, none⟩ = some (.int .i64 b) := by rw [← hW1]; clear hW1; go_simp
  have HB0 := Lib.hid hb0
  have HR := Lib.hid (hR.below hb0 hB)
  have hz := hb0.size
  clear hb0 hR
  go_enter Try.func100, Try.ntmps100
  go_wp2
  clear hW1
  go_loopw [8] (fun i wr => ∃ k : Nat, k ≤ xs.length ∧ i = .int .i64 k ∧ hasJ (xs.take k) (a, b) = false ∧ Hid (Below W1.heap.size W1 wr)) (fun i _ => xs.length - (intOf i).toNat)
  case atStart => exact ⟨0, Nat.zero_le _, rfl, by simp [hasJ], Lib.hid (belowR _)⟩
  case round =>
    obtain ⟨k, hk, rfl, hn, HBW⟩ := hrel
    have HN := Lib.hid hn
    clear hn
    by_cases hlt : k < xs.length
    · obtain ⟨x, hx⟩ : ∃ x, xs[k]? = some x := ⟨_, List.getElem?_eq_getElem hlt⟩
      obtain ⟨x0, x1⟩ := x
      obtain ⟨bb, off, rfl, _, d0, d1⟩ := spAt (HR.out.below HBW.out (by omega)) hx
      simp only at d0 d1
      have c0 := keepC HBW.out c0
      have c1 := keepC HBW.out c1
      have Hx := Lib.hid hx
      have hkz : (k : Int) < (xs.length : Int) := by omega
      have hk0 : (0 : Int) ≤ (k : Int) := by omega
      clear hx
      by_cases hp : a = x0 ∧ b = x1
      · obtain ⟨rfl, rfl⟩ := hp
        have hEQ : ∀ w, (Op.equalIn 10000 79 (.agg #[.int .i64 a, .int .i64 b]) (.agg #[.int .i64 a, .int .i64 b])).run Try.prog w = .ok true w := fun w => by have := run_eqJ 9998 a b a b w; simpa using this
        go_wp2
        go_quiet (fail)
        go_wp2
        go_ret
        exact ⟨k, rfl, by rw [hasJ_yes Hx.out (by simp [eqJ])]; simp, belowT HB0.out (belowN HBW.out _)⟩
      · have hp' : eqJ (a, b) (x0, x1) = false := by
          unfold eqJ
          rw [Bool.and_eq_false_iff]
          simp only [beq_eq_false_iff_ne]
          by_cases h : a = x0
          · exact .inr fun h2 => hp ⟨h, h2⟩
          · exact .inl h
        have HP := Lib.hid hp'
        have hEQ : ∀ w, (Op.equalIn 10000 79 (.agg #[.int .i64 a, .int .i64 b]) (.agg #[.int .i64 x0, .int .i64 x1])).run Try.prog w = .ok false w := fun w => by have := run_eqJ 9998 a b x0 x1 w; rw [this]; exact congrArg (fun r => Result.ok r w) hp'
        clear hp hp'
        go_wp2
        go_quiet (fail)
        go_wp2
        go_roundw
        case rel => exact ⟨k + 1, by omega, by go_num, by rw [hasJ_snoc _ _ _ _ Hx.out, HN.out, HP.out]; rfl, Lib.hid (belowN HBW.out _)⟩
        case measure => simp [intOf]; omega
    · go_wp2
      go_ret
      refine ⟨-1, rfl, ?_, belowT HB0.out HBW.out⟩
      have := HN.out
      rw [List.take_of_length_le (by omega)] at this
      rw [this]; rfl

theorem containsJ_any (A : Option Addr) (xs : List (Int × Int)) (B cap : Nat) (a b : Int) (w : World) (hm : xs.length ≤ maxLen)
    (hR : RdN 2 encSp w B A xs) (hB : B ≤ w.heap.size) :
    Calls Try.prog 58 #[.slice A xs.length cap, .agg #[.int .i64 a, .int .i64 b]] w fun e w' => e = .returned (.bool (hasJ xs (a, b))) ∧ Below w.heap.size w w' := by
  obtain ⟨W1, hW1⟩ : ∃ W1, w.alloc (.cells #[.int .i64 a, .int .i64 b] 79) = W1 := ⟨_, rfl⟩
  have hb0 : Below w.heap.size w W1 := by rw [← hW1]; exact belowA (belowR _) _
  have c0 : W1.cell? ⟨w.heap.size, 0, none⟩ = some (.int .i64 a) := by rw [← hW1]; clear hW1; go_simp
  have c1 : W1.cell? ⟨w.heap.size, 1, none⟩ = some (.int .i64 b) := by rw [← hW1]; clear hW1; go_simp
  have HI := Lib.hid (indexJ_any A xs B cap a b W1 hm (hR.below hb0 hB) (Nat.le_trans hB hb0.size))
  have HB0 := Lib.hid hb0
  clear hb0
  go_enter Try.func58, Try.ntmps58
  go_wp2_with fail
  refine HI.out.mono ?_
  rintro e w1 ⟨r, rfl, hr, hb⟩
  clear hW1
  go_wp2
  go_ret
  exact ⟨by rw [← hr]; rfl, belowT HB0.out hb⟩
end Go.Proofs.Ytojgdallodmanaa

namespace Go.Proofs.Ytojgdallodmanaa
open Go.RowKit

structure Hul where
  ps : List Prt
  js : List (Int × Int)
  slo : Int
  shi : Int
  winch : Int
abbrev hv (h : Hul) (A : Option Addr) (cap : Nat) (J : Option Addr) (capJ : Nat) : Value := .agg #[.slice A h.ps.length cap, .slice J h.js.length capJ, .int .i64 h.slo, .int .i64 h.shi, .int .i64 h.winch]
structure HulRd (w : World) (B : Nat) (h : Hul) (A : Option Addr) (cap : Nat) (J : Option Addr) (capJ : Nat) : Prop where
  ps : RdN 3 encPrt w B A h.ps
  js : RdN 2 encSp w B J h.js
  pl : h.ps.length ≤ cap
  pm : cap ≤ maxLen
  jl : h.js.length ≤ capJ
  jm : capJ ≤ maxLen
  nm : ∀ p ∈ h.ps, p.name.size ≤ maxLen
theorem HulRd.below {w w' : World} {B B' : Nat} {h : Hul} {A J : Option Addr} {cap capJ : Nat} (H : HulRd w B h A cap J capJ) (hb : Below B' w w') (hB : B ≤ B') : HulRd w' B h A cap J capJ :=
  ⟨H.ps.below hb hB, H.js.below hb hB, H.pl, H.pm, H.jl, H.jm, H.nm⟩

def partE (ps : List Prt) (i : Nat) : Int := match ps[i]? with | some c => if freshE ((ps.take i).map Prt.name) c.name = 0 then rangeE 0 100000 c.lo c.hi else freshE ((ps.take i).map Prt.name) c.name | none => 0
def jointE (n : Nat) (js : List (Int × Int)) (i : Nat) : Int := match js[i]? with | some j => if inB 0 ((n : Int) - 1) j.1 && inB 0 ((n : Int) - 1) j.2 then (if j.2 ≤ j.1 then 2 else if hasJ (js.take i) j then 5 else 0) else 4 | none => 0
def listsE (h : Hul) : Int × Int × Int :=
  match firstBad (partE h.ps) h.ps.length with
  | some (i, e) => (2, i, e)
  | none => match firstBad (jointE h.ps.length h.js) h.js.length with
    | some (i, e) => (3, i, e)
    | none => (0, 0, 0)
def checkE (h : Hul) : Int × Int × Int :=
  if inB 1 8 (h.ps.length : Int) && decide (h.js.length ≤ 12) then (if inB 1 2000 h.slo && inB 1 2000 h.shi && inB 1 10000000 h.winch then (if h.shi < h.slo then (1, 0, 2) else listsE h) else (1, 0, 7)) else (1, 0, 3)
def ret3 (r : Int × Int × Int) : Value := .tuple #[iv r.1, iv r.2.1, iv r.2.2]

theorem out_oneB {lo hi x : Int} {b : Bool} (h : inB lo hi x = b) (g : Nat) (w : World) (hc : w.cell? ⟨g, 0, none⟩ = some (.int .i64 x)) : Calls Try.prog 54 #[.int .i64 lo, .int .i64 hi, .slice (some ⟨g, 0, none⟩) 1 1] w fun e w' => e = .returned (.bool (!b)) ∧ Below w.heap.size w w' := by
  subst h
  exact out_one lo hi x g w hc (lt_of_cell hc)
theorem out_twoB {lo hi x y : Int} {b : Bool} (h : (inB lo hi x && inB lo hi y) = b) (g : Nat) (w : World) (hc : w.cell? ⟨g, 0, none⟩ = some (.int .i64 x)) (hd : w.cell? ⟨g, 1, none⟩ = some (.int .i64 y)) : Calls Try.prog 54 #[.int .i64 lo, .int .i64 hi, .slice (some ⟨g, 0, none⟩) 2 2] w fun e w' => e = .returned (.bool (!b)) ∧ Below w.heap.size w w' := by
  subst h
  exact out_two lo hi x y g w hc hd (lt_of_cell hc)

set_option maxRecDepth 100000 in
set_option maxHeartbeats 4000000 in
theorem check_any (h : Hul) (A J : Option Addr) (B cap capJ : Nat) (w : World) (hH : HulRd w B h A cap J capJ) (hB : B ≤ w.heap.size) :
    Calls Try.prog 17 #[hv h A cap J capJ] w fun e w' => e = .returned (ret3 (checkE h)) ∧ Below w.heap.size w w' := by
  obtain ⟨W1, hW1⟩ : ∃ W1, w.alloc (.cells #[.slice A h.ps.length cap, .slice J h.js.length capJ, .int .i64 h.slo, .int .i64 h.shi, .int .i64 h.winch] 27) = W1 := ⟨_, rfl⟩
  have hb0 : Below w.heap.size w W1 := by rw [← hW1]; exact belowA (belowR _) _
  have p0 : W1.cell? ⟨w.heap.size, 0, none⟩ = some (.slice A h.ps.length cap) := by rw [← hW1]; clear hW1; go_simp
  have p1 : W1.cell? ⟨w.heap.size, 1, none⟩ = some (.slice J h.js.length capJ) := by rw [← hW1]; clear hW1; go_simp
  have p2 : W1.cell? ⟨w.heap.size, 2, none⟩ = some (.int .i64 h.slo) := by rw [← hW1]; clear hW1; go_simp
  have p3 : W1.cell? ⟨w.heap.size, 3, none⟩ = some (.int .i64 h.shi) := by rw [← hW1]; clear hW1; go_simp
  have p4 : W1.cell? ⟨w.heap.size, 4, none⟩ = some (.int .i64 h.winch) := by rw [← hW1]; clear hW1; go_simp
  have HC : Hid (∀ W, Below W1.heap.size W1 W → W.cell? ⟨w.heap.size, 0, none⟩ = some (.slice A h.ps.length cap) ∧ W.cell? ⟨w.heap.size, 1, none⟩ = some (.slice J h.js.length capJ) ∧ W.cell? ⟨w.heap.size, 2, none⟩ = some (.int .i64 h.slo) ∧ W.cell? ⟨w.heap.size, 3, none⟩ = some (.int .i64 h.shi) ∧ W.cell? ⟨w.heap.size, 4, none⟩ = some (.int .i64 h.winch)) := Lib.hid fun W hb => ⟨keepC hb p0, keepC hb p1, keepC hb p2, keepC hb p3, keepC hb p4⟩
  have hz1 := lt_of_cell p0
  have HB0 := Lib.hid hb0
  have HH := Lib.hid (hH.below hb0 hB)
  have hpm := hH.pm
  have hjm := hH.jm
  have hpl := hH.pl
  have hjl := hH.jl
  unfold maxLen at hpm hjm
  obtain ⟨R, hR⟩ : ∃ R, checkE h = R := ⟨_, rfl⟩
  rw [hR]
  have HR := Lib.hid hR
  clear hb0 hH hR
  obtain ⟨ps, js, slo, shi, winch⟩ := h
  simp only at *
  have hfin : ∀ (r : Int × Int × Int), R = r → ret3 R = .tuple #[iv r.1, iv r.2.1, iv r.2.2] := fun r h => by rw [h]; rfl
  have HFIN := Lib.hid hfin
  clear hfin
  cases h1 : inB 1 8 (ps.length : Int)
  · have hr : R = (1, 0, 3) := by rw [← HR.out]; simp [checkE, h1]
    have HRR := Lib.hid hr
    clear hr
    go_enter Try.func17, Try.ntmps17
    go_wp2_with fail
    refine (out_oneB h1 _ _ (by go_simp)).mono ?_
    rintro e w2 ⟨rfl, hb2⟩
    have HB2 := Lib.hid (belowT (belowA (belowR _) _) hb2)
    clear hb2 hW1 p0 p1 p2 p3 p4
    obtain ⟨p0, p1, p2, p3, p4⟩ := HC.out _ HB2.out
    go_wp2
    go_ret3
    exact ⟨by rw [HFIN.out _ HRR.out]; rfl, belowT HB0.out HB2.out⟩
  have hn8 := inB_t h1
  by_cases h2 : js.length ≤ 12
  case neg =>
    have hr : R = (1, 0, 3) := by rw [← HR.out]; simp [checkE, h2]
    have HRR := Lib.hid hr
    have hd : (12 : Int) < (js.length : Int) := by omega
    clear hr
    go_enter Try.func17, Try.ntmps17
    go_wp2_with fail
    refine (out_oneB h1 _ _ (by go_simp)).mono ?_
    rintro e w2 ⟨rfl, hb2⟩
    have HB2 := Lib.hid (belowT (belowA (belowR _) _) hb2)
    clear hb2 hW1 p0 p1 p2 p3 p4
    obtain ⟨p0, p1, p2, p3, p4⟩ := HC.out _ HB2.out
    go_wp2
    go_ret3
    exact ⟨by rw [HFIN.out _ HRR.out]; rfl, belowT HB0.out HB2.out⟩
  have hd : ¬ (12 : Int) < (js.length : Int) := by omega
  cases h3 : (inB 1 2000 slo && inB 1 2000 shi)
  · have hr : R = (1, 0, 7) := by rw [← HR.out]; simp [checkE, h1, h2, h3]
    have HRR := Lib.hid hr
    clear hr
    go_enter Try.func17, Try.ntmps17
    go_wp2_with fail
    refine (out_oneB h1 _ _ (by go_simp)).mono ?_
    rintro e w2 ⟨rfl, hb2⟩
    have HB2 := Lib.hid (belowT (belowA (belowR _) _) hb2)
    clear hb2 hW1 p0 p1 p2 p3 p4
    obtain ⟨p0, p1, p2, p3, p4⟩ := HC.out _ HB2.out
    go_wp2_with fail
    refine (out_twoB h3 _ _ (by go_simp) (by go_simp)).mono ?_
    rintro e w3 ⟨rfl, hb3⟩
    have HB3 := Lib.hid (belowT (belowA HB2.out _) hb3)
    clear hb3 p0 p1 p2 p3 p4
    obtain ⟨p0, p1, p2, p3, p4⟩ := HC.out _ HB3.out
    go_wp2
    go_ret3
    exact ⟨by rw [HFIN.out _ HRR.out]; rfl, belowT HB0.out HB3.out⟩
  cases h4 : inB 1 10000000 winch
  · have hr : R = (1, 0, 7) := by rw [← HR.out]; simp [checkE, h1, h2, h3, h4]
    have HRR := Lib.hid hr
    clear hr
    go_enter Try.func17, Try.ntmps17
    go_wp2_with fail
    refine (out_oneB h1 _ _ (by go_simp)).mono ?_
    rintro e w2 ⟨rfl, hb2⟩
    have HB2 := Lib.hid (belowT (belowA (belowR _) _) hb2)
    clear hb2 hW1 p0 p1 p2 p3 p4
    obtain ⟨p0, p1, p2, p3, p4⟩ := HC.out _ HB2.out
    go_wp2_with fail
    refine (out_twoB h3 _ _ (by go_simp) (by go_simp)).mono ?_
    rintro e w3 ⟨rfl, hb3⟩
    have HB3 := Lib.hid (belowT (belowA HB2.out _) hb3)
    clear hb3 p0 p1 p2 p3 p4
    obtain ⟨p0, p1, p2, p3, p4⟩ := HC.out _ HB3.out
    go_wp2_with fail
    refine (out_oneB h4 _ _ (by go_simp)).mono ?_
    rintro e w4 ⟨rfl, hb4⟩
    have HB4 := Lib.hid (belowT (belowA HB3.out _) hb4)
    clear hb4 p0 p1 p2 p3 p4
    obtain ⟨p0, p1, p2, p3, p4⟩ := HC.out _ HB4.out
    go_wp2
    go_ret3
    exact ⟨by rw [HFIN.out _ HRR.out]; rfl, belowT HB0.out HB4.out⟩
  by_cases h5 : shi < slo
  · have hr : R = (1, 0, 2) := by rw [← HR.out]; simp [checkE, h1, h2, h3, h4, h5]
    have HRR := Lib.hid hr
    clear hr
    go_enter Try.func17, Try.ntmps17
    go_wp2_with fail
    refine (out_oneB h1 _ _ (by go_simp)).mono ?_
    rintro e w2 ⟨rfl, hb2⟩
    have HB2 := Lib.hid (belowT (belowA (belowR _) _) hb2)
    clear hb2 hW1 p0 p1 p2 p3 p4
    obtain ⟨p0, p1, p2, p3, p4⟩ := HC.out _ HB2.out
    go_wp2_with fail
    refine (out_twoB h3 _ _ (by go_simp) (by go_simp)).mono ?_
    rintro e w3 ⟨rfl, hb3⟩
    have HB3 := Lib.hid (belowT (belowA HB2.out _) hb3)
    clear hb3 p0 p1 p2 p3 p4
    obtain ⟨p0, p1, p2, p3, p4⟩ := HC.out _ HB3.out
    go_wp2_with fail
    refine (out_oneB h4 _ _ (by go_simp)).mono ?_
    rintro e w4 ⟨rfl, hb4⟩
    have HB4 := Lib.hid (belowT (belowA HB3.out _) hb4)
    clear hb4 p0 p1 p2 p3 p4
    obtain ⟨p0, p1, p2, p3, p4⟩ := HC.out _ HB4.out
    go_wp2
    go_ret3
    exact ⟨by rw [HFIN.out _ HRR.out]; rfl, belowT HB0.out HB4.out⟩
  have hr : R = listsE ⟨ps, js, slo, shi, winch⟩ := by rw [← HR.out]; simp [checkE, h1, h2, h3, h4, h5]
  have HRR := Lib.hid hr
  clear hr
  go_enter Try.func17, Try.ntmps17
  go_wp2_with fail
  refine (out_oneB h1 _ _ (by go_simp)).mono ?_
  rintro e w2 ⟨rfl, hb2⟩
  have HB2 := Lib.hid (belowT (belowA (belowR _) _) hb2)
  clear hb2 hW1 p0 p1 p2 p3 p4
  obtain ⟨p0, p1, p2, p3, p4⟩ := HC.out _ HB2.out
  go_wp2_with fail
  refine (out_twoB h3 _ _ (by go_simp) (by go_simp)).mono ?_
  rintro e w3 ⟨rfl, hb3⟩
  have HB3 := Lib.hid (belowT (belowA HB2.out _) hb3)
  clear hb3 p0 p1 p2 p3 p4
  obtain ⟨p0, p1, p2, p3, p4⟩ := HC.out _ HB3.out
  go_wp2_with fail
  refine (out_oneB h4 _ _ (by go_simp)).mono ?_
  rintro e w4 ⟨rfl, hb4⟩
  have HB4 := Lib.hid (belowT (belowA HB3.out _) hb4)
  clear hb4 p0 p1 p2 p3 p4 HB2 HB3 hd
  obtain ⟨p0, p1, p2, p3, p4⟩ := HC.out _ HB4.out
  go_wp2
  clear p0 p1 p2 p3 p4 h1 h2 h3 h4 h5
  go_loopw [47] (fun i wr => ∃ k : Nat, k ≤ ps.length ∧ i = .int .i64 k ∧ Hid (firstBad (partE ps) k = none) ∧ Hid (Below W1.heap.size W1 wr)) (fun i _ => ps.length - (intOf i).toNat)
  case atStart => exact ⟨0, Nat.zero_le _, rfl, Lib.hid rfl, HB4⟩
  case round =>
    clear HB4
    obtain ⟨k, hk, rfl, HN, HBW⟩ := hrel
    obtain ⟨p0, p1, p2, p3, p4⟩ := HC.out _ HBW.out
    have hzr : w.heap.size < wr.heap.size := lt_of_cell p0
    by_cases hlt : k < ps.length
    · obtain ⟨c, hx⟩ : ∃ c, ps[k]? = some c := ⟨_, List.getElem?_eq_getElem hlt⟩
      have hRw := (HH.out.below HBW.out (by omega)).ps
      have hfr := fun W (hb : Below wr.heap.size wr W) => freshOne_any A ps k c B cap W (by omega) HH.out.pm hx (HH.out.nm c (List.mem_of_getElem? hx)) (hRw.below hb (by have := HBW.out.size; omega)) (by have := HBW.out.size; have := hb.size; omega)
      have hpe : partE ps k = if freshE ((ps.take k).map Prt.name) c.name = 0 then rangeE 0 100000 c.lo c.hi else freshE ((ps.take k).map Prt.name) c.name := by simp [partE, hx]
      obtain ⟨bb, off, rfl, _, d0, d1, d2⟩ := prtAt hRw hx
      obtain ⟨name, lo, hi⟩ := c
      simp only at d0 d1 d2 hfr hpe
      obtain ⟨F, hF⟩ : ∃ F, freshE ((ps.take k).map Prt.name) name = F := ⟨_, rfl⟩
      rw [hF] at hfr hpe
      have HFR := Lib.hid hfr
      have HPE := Lib.hid hpe
      have hkz : (k : Int) < (ps.length : Int) := by omega
      have hkc : (k : Int) + 1 ≤ (cap : Int) := by omega
      have hk0 : (0 : Int) ≤ (k : Int) := by omega
      clear hfr hpe hF hx hRw
      by_cases hF0 : F = 0
      case neg =>
        have hne : (F == 0) = false := by simpa using hF0
        have hne2 : (F != 0) = true := by simpa using hF0
        go_wp2_with fail
        refine (HFR.out _ (belowA (belowR _) _)).mono ?_
        rintro e w5 ⟨rfl, hb5⟩
        have HB5 := Lib.hid (belowT HBW.out (belowT (belowA (belowR _) _) hb5))
        clear hb5 p0 p1 p2 p3 p4 d0 d1 d2
        go_wp2
        go_ret3
        exact ⟨by rw [HFIN.out (2, k, F) (by rw [HRR.out]; unfold listsE; rw [firstBad_at HN.out (by rw [HPE.out, if_neg hF0]; exact hF0) hlt, HPE.out, if_neg hF0])]; rfl, belowT HB0.out HB5.out⟩
      subst hF0
      obtain ⟨E, hE⟩ : ∃ E, rangeE 0 100000 lo hi = E := ⟨_, rfl⟩
      have hsp := fun W => spanned_any 0 100000 lo hi W
      rw [hE] at hsp
      have HSP := Lib.hid hsp
      have HPE2 : Hid (partE ps k = E) := Lib.hid (by rw [HPE.out, if_pos rfl]; exact hE)
      clear hsp hE HPE
      go_wp2_with fail
      refine (HFR.out _ (belowA (belowR _) _)).mono ?_
      rintro e w5 ⟨rfl, hb5⟩
      have HB5 := Lib.hid (belowT HBW.out (belowT (belowA (belowR _) _) hb5))
      have g0 : w5.cell? ⟨wr.heap.size, 0, none⟩ = some (.string name) := keepC hb5 (by go_simp)
      have g1 : w5.cell? ⟨wr.heap.size, 1, none⟩ = some (.int .i64 lo) := keepC hb5 (by go_simp)
      have g2 : w5.cell? ⟨wr.heap.size, 2, none⟩ = some (.int .i64 hi) := keepC hb5 (by go_simp)
      clear hb5 p0 p1 p2 p3 p4 d0 d1 d2 HFR
      go_wp2_with fail
      refine (HSP.out _).mono ?_
      rintro e w6 ⟨rfl, hb6⟩
      have HB6 := Lib.hid (belowT HB5.out hb6)
      clear hb6 g0 g1 g2
      by_cases hE0 : E = 0
      · subst hE0
        go_wp2
        go_roundw
        case rel => exact ⟨k + 1, by omega, by go_num, Lib.hid (firstBad_succ HN.out HPE2.out), HB6⟩
        case measure => simp [intOf]; omega
      · have hne2 : (E != 0) = true := by simpa using hE0
        go_wp2
        go_ret3
        exact ⟨by rw [HFIN.out (2, k, E) (by rw [HRR.out]; unfold listsE; rw [firstBad_at HN.out (by rw [HPE2.out]; exact hE0) hlt, HPE2.out])]; rfl, belowT HB0.out HB6.out⟩
    · obtain rfl : k = ps.length := by omega
      have hr2 : R = match firstBad (jointE ps.length js) js.length with | some (i, e) => (3, i, e) | none => (0, 0, 0) := by rw [HRR.out]; unfold listsE; rw [HN.out]
      have HRR := Lib.hid hr2
      clear hr2 HN
      have hjm2 : (js.length : Int) ≤ 12 := by omega
      have hw1 : IntKind.i64.wrap ((ps.length : Int) - 1) = (ps.length : Int) - 1 := by rw [IntKind.wrap_i64]; omega
      have HW1 := Lib.hid hw1
      clear hw1
      go_wp2
      clear p0 p1 p2 p3 p4
      obtain ⟨wa, hwa⟩ : ∃ wa : World, wa = wr := ⟨_, rfl⟩
      subst hwa
      go_loopw [71] (fun i wr => ∃ k : Nat, k ≤ js.length ∧ i = .int .i64 k ∧ Hid (firstBad (jointE ps.length js) k = none) ∧ Hid (Below W1.heap.size W1 wr)) (fun i _ => js.length - (intOf i).toNat)
      case atStart => exact ⟨0, Nat.zero_le _, rfl, Lib.hid rfl, HBW⟩
      case round =>
        clear HBW
        obtain ⟨k, hk, rfl, HN, HBW⟩ := hrel
        obtain ⟨p0, p1, p2, p3, p4⟩ := HC.out _ HBW.out
        have hzr : w.heap.size < wr.heap.size := lt_of_cell p0
        by_cases hlt : k < js.length
        · obtain ⟨j, hx⟩ : ∃ j, js[k]? = some j := ⟨_, List.getElem?_eq_getElem hlt⟩
          obtain ⟨a, b⟩ := j
          have hRw := (HH.out.below HBW.out (by omega)).js
          have hje : jointE ps.length js k = if inB 0 ((ps.length : Int) - 1) a && inB 0 ((ps.length : Int) - 1) b then (if b ≤ a then 2 else if hasJ (js.take k) (a, b) then 5 else 0) else 4 := by simp [jointE, hx]
          obtain ⟨bb, off, rfl, _, d0, d1⟩ := spAt hRw hx
          simp only at d0 d1
          have htl : (js.take k).length = k := by rw [List.length_take]; omega
          have hct := fun W (hb : Below wr.heap.size wr W) => containsJ_any (some ⟨bb, off, none⟩) (js.take k) B capJ a b W (by rw [htl]; unfold maxLen; omega) ((hRw.take k).below hb (by have := HBW.out.size; omega)) (by have := HBW.out.size; have := hb.size; omega)
          rw [htl] at hct
          have HCT := Lib.hid hct
          have HJE := Lib.hid hje
          have hkz : (k : Int) < (js.length : Int) := by omega
          have hk0 : (0 : Int) ≤ (k : Int) := by omega
          have hkc : (k : Int) ≤ (capJ : Int) := by omega
          clear hct hje hx hRw htl
          cases h1 : (inB 0 ((ps.length : Int) - 1) a && inB 0 ((ps.length : Int) - 1) b)
          · have hj : jointE ps.length js k = 4 := by rw [HJE.out, h1]; rfl
            have HJ := Lib.hid hj
            have HO := Lib.hid (fun g W => out_twoB h1 g W)
            have hw1 := HW1.out
            clear hj h1
            go_wp2_with fail
            refine (HO.out _ _ (by go_simp) (by go_simp)).mono ?_
            rintro e w5 ⟨rfl, hb5⟩
            have HB5 := Lib.hid (belowT HBW.out (belowT (belowA (belowA (belowR _) _) _) hb5))
            clear hb5 p0 p1 p2 p3 p4 d0 d1 hw1
            go_wp2
            go_ret3
            exact ⟨by rw [HFIN.out (3, k, 4) (by rw [HRR.out, firstBad_at HN.out (by rw [HJ.out]; decide) hlt, HJ.out])]; rfl, belowT HB0.out HB5.out⟩
          have hb12 := h1
          rw [Bool.and_eq_true] at hb12
          have hab := inB_t hb12.1
          have hbb := inB_t hb12.2
          have HO := Lib.hid (fun g W => out_twoB h1 g W)
          have hw1 := HW1.out
          clear hb12
          by_cases h2 : b ≤ a
          · have hj : jointE ps.length js k = 2 := by rw [HJE.out, h1, if_pos rfl, if_pos h2]
            have HJ := Lib.hid hj
            clear hj h1
            go_wp2_with fail
            refine (HO.out _ _ (by go_simp) (by go_simp)).mono ?_
            rintro e w5 ⟨rfl, hb5⟩
            have HB5 := Lib.hid (belowT HBW.out (belowT (belowA (belowA (belowR _) _) _) hb5))
            have e0 : w5.cell? ⟨wr.heap.size, 0, none⟩ = some (.int .i64 a) := keepC hb5 (by go_simp)
            have e1 : w5.cell? ⟨wr.heap.size, 1, none⟩ = some (.int .i64 b) := keepC hb5 (by go_simp)
            clear hb5 p0 p1 p2 p3 p4 d0 d1 hw1
            go_wp2
            go_ret3
            exact ⟨by rw [HFIN.out (3, k, 2) (by rw [HRR.out, firstBad_at HN.out (by rw [HJ.out]; decide) hlt, HJ.out])]; rfl, belowT HB0.out HB5.out⟩
          cases h3 : hasJ (js.take k) (a, b)
          all_goals
            have HJ3 := Lib.hid h3
            have hj : jointE ps.length js k = if hasJ (js.take k) (a, b) then 5 else 0 := by rw [HJE.out, h1, if_pos rfl, if_neg h2]
            have HJ := Lib.hid hj
            clear hj h1 h3
            go_wp2_with fail
            refine (HO.out _ _ (by go_simp) (by go_simp)).mono ?_
            rintro e w5 ⟨rfl, hb5⟩
            have hb6 := belowT (belowA (belowA (belowR wr) (.cells #[.int .i64 a, .int .i64 b] 79)) (.cells #[.int .i64 a, .int .i64 b] 3)) hb5
            have HB6 := Lib.hid hb6
            have HB5 := Lib.hid (belowT HBW.out hb6)
            have e0 : w5.cell? ⟨wr.heap.size, 0, none⟩ = some (.int .i64 a) := keepC hb5 (by go_simp)
            have e1 : w5.cell? ⟨wr.heap.size, 1, none⟩ = some (.int .i64 b) := keepC hb5 (by go_simp)
            have hzr5 := hb6.size
            clear hb5 hb6 p0 p1 p2 p3 p4 d0 d1 hw1
            obtain ⟨p0, p1, p2, p3, p4⟩ := HC.out _ HB5.out
            have HCN : Hid (Calls Try.prog 58 #[.slice (some ⟨bb, off, none⟩) k capJ, .agg #[.int .i64 a, .int .i64 b]] w5.drew fun e w' => e = .returned (.bool (hasJ (js.take k) (a, b))) ∧ Below w5.drew.heap.size w5.drew w') := Lib.hid (HCT.out w5.drew (belowDr HB6.out))
            have HC5 : Hid (∀ W, Below w5.heap.size w5 W → W.cell? ⟨w.heap.size, 1, none⟩ = some (.slice (some ⟨bb, off, none⟩) js.length capJ) ∧ W.cell? ⟨wr.heap.size, 0, none⟩ = some (.int .i64 a) ∧ W.cell? ⟨wr.heap.size, 1, none⟩ = some (.int .i64 b)) := Lib.hid fun W hb => ⟨keepC hb p1, keepC hb e0, keepC hb e1⟩
            go_wp2
            go_region_held3 (fun W => W.cell? ⟨w.heap.size, 1, none⟩ = some (.slice (some ⟨bb, off, none⟩) js.length capJ) ∧ W.cell? ⟨wr.heap.size, 0, none⟩ = some (.int .i64 a) ∧ W.cell? ⟨wr.heap.size, 1, none⟩ = some (.int .i64 b)) (first | exact HC5.out _ (undrew0 hb7) | exact HC5.out _ (belowDr (belowR _))) (((go_at_call 58; refine HCN.out.mono ?_; rintro e w7 ⟨he, hb7⟩; rw [HJ3.out] at he; subst he)))
            have HB7 := Lib.hid (belowT HB5.out (undrew0 hb7))
            clear hb7 p0 p1 p2 p3 p4 e0 e1
            go_wp2
          · go_roundw
            case rel => exact ⟨k + 1, by omega, by go_num, Lib.hid (firstBad_succ HN.out (by rw [HJ.out, HJ3.out]; rfl)), HB7⟩
            case measure => simp [intOf]; omega
          · go_ret3
            exact ⟨by rw [HFIN.out (3, k, 5) (by rw [HRR.out, firstBad_at HN.out (by rw [HJ.out, HJ3.out]; decide) hlt, HJ.out, HJ3.out]; rfl)]; rfl, belowT HB0.out HB7.out⟩
        · obtain rfl : k = js.length := by omega
          have hr2 : R = (0, 0, 0) := by rw [HRR.out, HN.out]
          have HRR := Lib.hid hr2
          clear hr2 HN p0 p1 p2 p3 p4
          go_wp2
          go_ret3
          exact ⟨by rw [HFIN.out _ HRR.out]; rfl, belowT HB0.out HBW.out⟩
end Go.Proofs.Ytojgdallodmanaa
