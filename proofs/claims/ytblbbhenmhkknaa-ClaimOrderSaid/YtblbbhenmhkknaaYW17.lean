/- claim.enter. -/
import Derived.Test.YtblbbhenmhkknaaZb6d629
import Derived.Test.YtblbbhenmhkknaaZ9a350c
import Derived.Test.YtblbbhenmhkknaaZ5473ce
namespace Go.Proofs.Ytblbbhenmhkknaa
open Go.RowKit

theorem Try.info125 : (Try.prog.info? 125).map (fun i => (i.zero, i.size, i.bytes)) = some (some (.agg #[.int .i64 0, .int .i64 0, .int .i64 0]), 3, 24) := by kernel_rfl
def c3 (c : Clm) : Cl3 := ⟨c.rank, c.lo, c.hi⟩
theorem enc3_len (c : Cl3) : (encC3 c).length = 3 := rfl

def EnterNo (err : Int) (w : World) (e : Ending) (w' : World) : Prop := e = .returned (.tuple #[.agg #[.int .i64 0, .int .i64 0, .slice none 0 0, .slice none 0 0], iv err]) ∧ Below w.heap.size w w'
def EnterYes (lo hi : Int) (A : Option Addr) (cs : List Clm) (cap : Nat) (w : World) (e : Ending) (w' : World) : Prop :=
  ∃ A3 cap3, e = .returned (.tuple #[.agg #[.int .i64 lo, .int .i64 hi, .slice A cs.length cap, .slice A3 cs.length cap3], iv 0]) ∧ RdN 3 encC3 w' w'.heap.size A3 (cs.map c3) ∧ (∀ b off, A3 = some ⟨b, off, none⟩ → w.heap.size ≤ b) ∧ cap3 ≤ maxLen ∧ Below w.heap.size w w'

/-- The error of an estate. -/
def estErr (lo hi : Int) (cs : List Clm) : Int := (estE lo hi cs).2.2

structure EnterInv (h base : Nat) (w wr : World) (lo hi : Int) (A : Option Addr) (n cap : Nat) (v : Value) (l : List Cl3) : Prop where
  c0 : wr.cell? ⟨h + 1, 0, none⟩ = some (.int .i64 lo)
  c1 : wr.cell? ⟨h + 1, 1, none⟩ = some (.int .i64 hi)
  c2 : wr.cell? ⟨h + 1, 2, none⟩ = some (.slice A n cap)
  c3 : wr.cell? ⟨h + 1, 3, none⟩ = some v
  fz : ∀ o, wr.frozen? ⟨h + 1, o, none⟩ = false
  own : wr.ownsRow base 125 3 v l.length (l.flatMap encC3)
  size : base ≤ wr.heap.size
  below : Below w.heap.size w wr

set_option maxRecDepth 100000 in
set_option maxHeartbeats 2000000 in
theorem enter_no (lo hi : Int) (A : Option Addr) (cs : List Clm) (B cap : Nat) (w : World) (hm : cs.length ≤ cap) (hcm : cap ≤ maxLen) (hok : ClmsOk cs) (hR : RdN 4 encClm w B A cs) (hB : B ≤ w.heap.size) (hE : estErr lo hi cs ≠ 0) :
    Calls Try.prog 79 #[.agg #[.int .i64 lo, .int .i64 hi, .slice A cs.length cap]] w (EnterNo (estErr lo hi cs) w) := by
  obtain ⟨E, hEE⟩ : ∃ E, estErr lo hi cs = E := ⟨_, rfl⟩
  obtain ⟨r, hr⟩ : ∃ r, estE lo hi cs = r := ⟨_, rfl⟩
  have hr2 : r.2.2 = E := by rw [← hr]; exact hEE
  rw [hEE] at hE ⊢
  obtain ⟨r1, r2, r3⟩ := r
  simp only at hr2
  subst hr2
  have hne : (r3 != 0) = true := by simpa using hE
  have HR := Lib.hid hr
  clear hr hEE hE
  go_enter Try.func79, Try.ntmps79
  go_wp2_with (go_at_call 26; refine (check_any lo hi A cs B cap _ hm hcm hok (by exact hR.below (B' := w.heap.size) (belowA (belowA (belowR _) _) _) hB) (by simp; omega)).mono ?_; rintro e w1 ⟨he, hb⟩; rw [HR.out] at he; simp only [ret3] at he; subst he; have hB1 := belowT (belowA (belowA (belowR _) _) _) hb; have z1l : w.heap.size + 1 < w1.heap.size := (by have := hb.size; simp only [World.size_alloc] at this; omega); have z1 : w.heap.size < w1.heap.size := (by omega); have q0 : w1.cell? ⟨w.heap.size + 1, 0, none⟩ = some (.int .i64 0) := keepC hb (by go_simp); have q1 : w1.cell? ⟨w.heap.size + 1, 1, none⟩ = some (.int .i64 0) := keepC hb (by go_simp); have q2 : w1.cell? ⟨w.heap.size + 1, 2, none⟩ = some (.slice none 0 0) := keepC hb (by go_simp); have q3 : w1.cell? ⟨w.heap.size + 1, 3, none⟩ = some (.slice none 0 0) := keepC hb (by go_simp); have f0 : ∀ o v, w1.cell? ⟨w.heap.size + 1, o, none⟩ = some v → w1.frozen? ⟨w.heap.size + 1, o, none⟩ = false := (fun o v _ => (hb.frozen (p := ⟨w.heap.size + 1, o, none⟩) (by simp)).trans (by go_simp)); have g0 := f0 0 _ q0; have g1 := f0 1 _ q1; have g2 := f0 2 _ q2; have g3 := f0 3 _ q3; clear f0)
  exact bodyPost_ret (v := .tuple #[.agg #[.int .i64 0, .int .i64 0, .slice none 0 0, .slice none 0 0], iv r3]) (by simp [results, Try.results79, go_sem, q0, q1, q2, q3]) rfl ⟨rfl, belowS (belowS (belowS (belowS hB1 (by simp) _) (by simp) _) (by simp) _) (by simp) _⟩

set_option maxRecDepth 100000 in
set_option maxHeartbeats 2000000 in
theorem enter_yes (lo hi : Int) (A : Option Addr) (cs : List Clm) (B cap : Nat) (w : World) (hm : cs.length ≤ cap) (hcm : cap ≤ maxLen) (hm8 : cs.length ≤ 8) (hok : ClmsOk cs) (hR : RdN 4 encClm w B A cs) (hB : B ≤ w.heap.size) (hE : estErr lo hi cs = 0) :
    Calls Try.prog 79 #[.agg #[.int .i64 lo, .int .i64 hi, .slice A cs.length cap]] w (EnterYes lo hi A cs cap w) := by
  obtain ⟨i0, hi0, hz0, hz1, hz2⟩ := info_parts Try.info125
  obtain ⟨r, hr⟩ : ∃ r, estE lo hi cs = r := ⟨_, rfl⟩
  have hr2 : r.2.2 = 0 := by rw [← hr]; exact hE
  obtain ⟨r1, r2, r3⟩ := r
  simp only at hr2
  subst hr2
  have HR := Lib.hid hr
  clear hr hE
  obtain ⟨L, hL⟩ : ∃ L, cs.map c3 = L := ⟨_, rfl⟩
  have hLl : L.length = cs.length := by rw [← hL]; simp
  have HL := Lib.hid hL
  have HLL := Lib.hid hLl
  clear hL hLl
  go_enter Try.func79, Try.ntmps79
  go_wp2_with fail
  refine (check_any lo hi A cs B cap _ hm hcm hok (by exact hR.below (B' := w.heap.size) (belowA (belowA (belowR _) _) _) hB) (by simp; omega)).mono ?_
  rintro e w1 ⟨he, hb⟩
  rw [HR.out] at he
  simp only [ret3] at he
  subst he
  have hB1 := belowT (belowA (belowA (belowR _) _) _) hb
  have z1l : w.heap.size + 1 < w1.heap.size := (by have := hb.size; simp only [World.size_alloc] at this; omega)
  have z1 : w.heap.size < w1.heap.size := (by omega)
  have p0 : w1.cell? ⟨w.heap.size, 0, none⟩ = some (.int .i64 lo) := keepC hb (by go_simp)
  have p1 : w1.cell? ⟨w.heap.size, 1, none⟩ = some (.int .i64 hi) := keepC hb (by go_simp)
  have p2 : w1.cell? ⟨w.heap.size, 2, none⟩ = some (.slice A cs.length cap) := keepC hb (by go_simp)
  have q0 : w1.cell? ⟨w.heap.size + 1, 0, none⟩ = some (.int .i64 0) := keepC hb (by go_simp)
  have q1 : w1.cell? ⟨w.heap.size + 1, 1, none⟩ = some (.int .i64 0) := keepC hb (by go_simp)
  have q2 : w1.cell? ⟨w.heap.size + 1, 2, none⟩ = some (.slice none 0 0) := keepC hb (by go_simp)
  have q3 : w1.cell? ⟨w.heap.size + 1, 3, none⟩ = some (.slice none 0 0) := keepC hb (by go_simp)
  have fz : ∀ o, w1.frozen? ⟨w.heap.size + 1, o, none⟩ = false := (fun o => (hb.frozen (p := ⟨w.heap.size + 1, o, none⟩) (by simp)).trans (by go_simp))
  clear hb
  go_wp2
  have hinv : EnterInv w.heap.size w1.heap.size w (((w1.setCell ⟨w.heap.size + 1, 0, none⟩ (.int .i64 lo)).setCell ⟨w.heap.size + 1, 1, none⟩ (.int .i64 hi)).setCell ⟨w.heap.size + 1, 2, none⟩ (.slice A cs.length cap)) lo hi A cs.length cap (.slice none 0 0) (L.take 0) := by
    refine ⟨by go_simp, by go_simp, by go_simp, by go_simp, fun o => by go_simp, World.ownsRow_nil _ _ _ _, by simp [World.setCell], ?_⟩
    exact belowS (belowS (belowS hB1 (by simp) _) (by simp) _) (by simp) _
  have HINV := Lib.hid hinv
  clear hinv p0 p1 p2 q0 q1 q2 q3 fz hB1
  go_loopw [21] (fun i wr => ∃ (k : Nat) (v : Value), k ≤ cs.length ∧ i = .int .i64 k ∧ Hid (EnterInv w.heap.size w1.heap.size w wr lo hi A cs.length cap v (L.take k))) (fun i _ => cs.length - (intOf i).toNat)
  case atStart => exact ⟨0, _, Nat.zero_le _, rfl, HINV⟩
  case round =>
    clear HINV
    obtain ⟨k, v, hk, rfl, HI⟩ := hrel
    obtain ⟨c0, c1, c2, c3c, fz, own, hsz, hbw⟩ := HI.out
    have hzw := hbw.size
    have zr := lt_of_cell c3c
    by_cases hlt : k < cs.length
    · obtain ⟨c, hx⟩ : ∃ x, cs[k]? = some x := ⟨_, List.getElem?_eq_getElem hlt⟩
      obtain ⟨b, off, rfl, hbB, e0, e1, e2, e3⟩ := clmAt (hR.below hbw hB) hx
      have htk : L.take (k + 1) = L.take k ++ [c3 c] := by
        obtain ⟨h, rfl⟩ := List.getElem?_eq_some_iff.1 hx
        rw [← HL.out, List.take_succ_eq_append_getElem (by simpa using h)]; simp
      have hlk : (L.take k).length = k := by rw [List.length_take, HLL.out]; omega
      obtain ⟨name, rank, clo, chi⟩ := c
      simp only at e0 e1 e2 e3
      have HTK := Lib.hid htk
      have OWN : Hid (wr.ownsRow w1.heap.size 125 3 v k ((L.take k).flatMap encC3)) := Lib.hid (by have := own; rw [hlk] at this; exact this)
      have HLK := Lib.hid hlk
      clear hx htk own hlk
      have hnew : ∀ j u, [iv rank, iv clo, iv chi][j]? = some u → ((wr.alloc (.cells #[.string name, iv rank, iv clo, iv chi] 46)).alloc (.cells #[iv rank, iv clo, iv chi] 125)).cell? ((⟨wr.heap.size + 1, 0, none⟩ : Addr).add j) = some u := by
        rw [show wr.heap.size + 1 = (wr.alloc (.cells #[.string name, iv rank, iv clo, iv chi] 46)).heap.size from by simp]
        exact cells3_new _ _ _ _ _
      have HN := Lib.hid hnew
      clear hnew
      go_wp2_with (at_builtin; refine wpList_append_own _ rfl _ _ 115 rfl w1.heap.size 125 i0 (.agg #[.int .i64 0, .int .i64 0, .int .i64 0]) 3 24 Try.underlying115 hi0 hz0 hz1 hz2 rfl (by decide) _ _ _ rfl ((OWN.out.alloc _).alloc _) ⟨wr.heap.size + 1, 0, none⟩ 1 1 [iv rank, iv clo, iv chi] rfl rfl ?d1 ?d2 ?d3 ?d4 ?d5 ?_)
      case d1 => exact HN.out
      case d2 => simp [Value.oneCell']
      case d3 => unfold maxLen; omega
      case d4 => omega
      case d5 => simp; omega
      intro v' w3 hown' hgrow _
      obtain ⟨g', cap', rfl, hg1, hg2, hg3⟩ := own_form hown' (by omega)
      have d0 := grownC ((OWN.out.alloc _).alloc _) hgrow z1l (keepA (keepA c0 _) _)
      have d1 := grownC ((OWN.out.alloc _).alloc _) hgrow z1l (keepA (keepA c1 _) _)
      have d2 := grownC ((OWN.out.alloc _).alloc _) hgrow z1l (keepA (keepA c2 _) _)
      have d3 := grownC ((OWN.out.alloc _).alloc _) hgrow z1l (keepA (keepA c3c _) _)
      have hB3 : Below w.heap.size w w3 := grownB ((OWN.out.alloc _).alloc _) hgrow (by omega) (belowA (belowA hbw _) _)
      have hz3 : w1.heap.size ≤ w3.heap.size := by have := hgrow.size; simp at this; omega
      have hfz : ∀ o, w3.frozen? ⟨w.heap.size + 1, o, none⟩ = false := fun o => by
        rw [grownFz ((OWN.out.alloc _).alloc _) hgrow o z1l (by simp; omega), keepAF (by simp; omega), keepAF zr, fz]
      have f3 := hfz 3
      have HF := Lib.hid hfz
      have HG := Lib.hid hgrow
      have HO' := Lib.hid hown'
      have Z3 := Lib.hid hz3
      clear hfz hgrow hown' fz c0 c1 c2 c3c hz3 HI
      go_wp2
      go_roundw
      case rel =>
        refine ⟨k + 1, .slice (some ⟨g', 0, none⟩) (k + 1) cap', by omega, by go_num, ?_⟩
        rw [HTK.out]
        have hfz := HF.out
        refine ⟨by go_simp, by go_simp, by go_simp, by go_simp, fun o => by go_simp, ?_, by simpa [World.setCell] using Z3.out, belowS hB3 (by simp) _⟩
        rw [List.length_append, HLK.out, List.flatMap_append]
        exact ownsRow_setCell_below HO'.out (a := ⟨w.heap.size + 1, 3, none⟩) z1l _
      case measure => simp [intOf]; omega
    · obtain rfl : k = cs.length := by omega
      rw [show L.take cs.length = L from by rw [← HLL.out]; exact List.take_length] at own
      obtain ⟨A3, cap3, rfl, hrd, hfresh, hc1, hc2⟩ := own_rdN enc3_len own
      have own4 := ownsRow_setCell_below (ownsRow_setCell_below (ownsRow_setCell_below (ownsRow_setCell_below own (a := ⟨w.heap.size + 1, 0, none⟩) z1l (.int .i64 lo)) (a := ⟨w.heap.size + 1, 1, none⟩) z1l (.int .i64 hi)) (a := ⟨w.heap.size + 1, 2, none⟩) z1l (.slice A cs.length cap)) (a := ⟨w.heap.size + 1, 3, none⟩) z1l (.slice A3 cs.length cap3)
      obtain ⟨A5, cap5, e5, hrd5, _⟩ := own_rdN enc3_len own4
      injection e5 with e51 e52 e53
      subst e51
      subst e53
      rw [HLL.out] at c3c
      have HRD := Lib.hid hrd5
      have HFR := Lib.hid hfresh
      have f0 := fz 0
      have f1 := fz 1
      have f2 := fz 2
      have f3 := fz 3
      clear hrd hrd5 own4 hfresh own fz HI
      go_wp2
      have hfin : Below w.heap.size w ((((wr.setCell ⟨w.heap.size + 1, 0, none⟩ (.int .i64 lo)).setCell ⟨w.heap.size + 1, 1, none⟩ (.int .i64 hi)).setCell ⟨w.heap.size + 1, 2, none⟩ (.slice A cs.length cap)).setCell ⟨w.heap.size + 1, 3, none⟩ (.slice A3 cs.length cap3)) :=
        belowS (belowS (belowS (belowS hbw (by simp) _) (by simp) _) (by simp) _) (by simp) _
      refine bodyPost_ret (v := .tuple #[.agg #[.int .i64 lo, .int .i64 hi, .slice A cs.length cap, .slice A3 cs.length cap3], iv 0]) (by simp [results, Try.results79, go_sem, c0, c1, c2, c3c]) rfl ⟨A3, cap3, rfl, ?_, fun b off e => ?_, hc2, hfin⟩
      · rw [HL.out]
        exact HRD.out
      · have := (HFR.out b off e).1
        omega
end Go.Proofs.Ytblbbhenmhkknaa
