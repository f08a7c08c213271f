/- The reference: the least proceeds with which a claim is paid in full (F87), Sure (F36), Least (F38). -/
import Derived.Deep.DeepCutAuto
import Derived.Deep.RegionHeld3
import Derived.Test.YtblbbhenmhkknaaZ6bda3e
import Derived.Test.YtblbbhenmhkknaaYW29
namespace Go.Proofs.Ytblbbhenmhkknaa
open Go.RowKit

/-- The greatest cents of the claims of ranks up to r, together. -/
def upH (l : List Cl3) (r : Int) : Int := (l.map fun c => if c.rank ≤ r then c.hi else 0).sum
theorem upH_cons (c : Cl3) (l : List Cl3) (r : Int) : upH (c :: l) r = (if c.rank ≤ r then c.hi else 0) + upH l r := by simp [upH]
theorem upH_take {l : List Cl3} {r : Int} {k : Nat} {c : Cl3} (h : l[k]? = some c) : upH (l.take (k + 1)) r = upH (l.take k) r + if c.rank ≤ r then c.hi else 0 := by
  unfold upH
  rw [List.take_add_one, h]
  simp
theorem upH_bound {l : List Cl3} (r : Int) (h : ∀ c ∈ l, 0 ≤ c.hi ∧ c.hi ≤ 1000000000) : 0 ≤ upH l r ∧ upH l r ≤ (l.length : Int) * 1000000000 := by
  induction l with
  | nil => simp [upH]
  | cons c l ih =>
    have h1 := ih fun x hx => h x (by simp [hx])
    have h2 := h c (by simp)
    rw [upH_cons, List.length_cons]
    split <;> omega
theorem upH_step (n : Nat) : ∀ l : List Cl3, upH l ((n + 1 : Nat) : Int) = upH l n + sumR Cl3.hi l ((n + 1 : Nat) : Int) := by
  intro l
  induction l with
  | nil => rfl
  | cons c l ih =>
    have e : sumR Cl3.hi (c :: l) ((n + 1 : Nat) : Int) = (if c.rank = ((n + 1 : Nat) : Int) then c.hi else 0) + sumR Cl3.hi l ((n + 1 : Nat) : Int) := by simp [sumR]
    rw [upH_cons, upH_cons, e, ih]
    by_cases h1 : c.rank ≤ (n : Int)
    · rw [if_pos (by omega), if_pos h1, if_neg (by omega)]; omega
    · by_cases h2 : c.rank = ((n + 1 : Nat) : Int)
      · rw [if_pos (by omega), if_neg h1, if_pos h2]; omega
      · rw [if_neg (by omega), if_neg h1, if_neg h2]; omega
theorem sum_zero {l : List Int} (h : ∀ x ∈ l, x = 0) : l.sum = 0 := by
  induction l with
  | nil => rfl
  | cons a l ih => rw [List.sum_cons, h a (by simp), ih fun x hx => h x (by simp [hx])]; rfl
theorem upH_eq (l : List Cl3) (hok : C3Ok l) : ∀ n : Nat, upToH l (n + 1) = upH l n := by
  intro n
  induction n with
  | zero =>
    have e1 : upH l ((0 : Nat) : Int) = 0 := sum_zero fun x hx => by
      obtain ⟨c, hc, rfl⟩ := List.mem_map.1 hx
      exact if_neg (by have := (hok c hc).1; omega)
    have e2 : sumR Cl3.hi l ((0 : Nat) : Int) = 0 := sum_zero fun x hx => by
      obtain ⟨c, hc, rfl⟩ := List.mem_map.1 hx
      exact if_neg (by have := (hok c hc).1; omega)
    rw [e1]
    simp only [upToH]
    omega
  | succ n ih =>
    rw [upH_step, ← ih]
    rfl
theorem need_up {l : List Cl3} (hok : C3Ok l) {c : Cl3} (hc : 0 ≤ c.rank) : needI l c = if c.hi = 0 then 0 else upH l c.rank := by
  unfold needI
  rw [upH_eq l hok]
  rw [show ((c.rank.toNat : Nat) : Int) = c.rank from by omega]

set_option maxRecDepth 100000 in
set_option maxHeartbeats 4000000 in
theorem refNeed_any (lo hi : Int) (A : Option Addr) (cs : List Clm) (B cap i : Nat) (c : Clm) (w : World) (hR : RdN 4 encClm w B A cs) (hB : B ≤ w.heap.size) (hE : estErr lo hi cs = 0) (hx : cs[i]? = some c) :
    Calls Try.prog 87 #[.agg #[.int .i64 lo, .int .i64 hi, .slice A cs.length cap], .int .i64 i] w fun e w' => e = .returned (iv (needI (cs.map c3) (c3 c))) ∧ Below w.heap.size w w' := by
  have hest := est_ok hE
  have hle8 := hest.len.2
  have hok3 := hest.ok3
  have hce := hest.each c (List.mem_of_getElem? hx)
  have hnd := need_up (l := cs.map c3) hok3 (c := c3 c) (show 0 ≤ c.rank by omega)
  rw [hnd]
  have hil := (List.getElem?_eq_some_iff.1 hx).1
  obtain ⟨W1, hW1⟩ : ∃ W1, w.alloc (.cells #[.int .i64 lo, .int .i64 hi, .slice A cs.length cap] 42) = W1 := ⟨_, rfl⟩
  have hb0 : Below w.heap.size w W1 := by rw [← hW1]; exact belowA (belowR _) _
  have p2 : W1.cell? ⟨w.heap.size, 2, none⟩ = some (.slice A cs.length cap) := by rw [← hW1]; clear hW1; go_simp
  have hz1 : w.heap.size < W1.heap.size := lt_of_cell p2
  have HB0 := Lib.hid hb0
  have HR1 := Lib.hid (hR.below hb0 hB)
  have HX := Lib.hid hx
  have HOK := Lib.hid hok3
  obtain ⟨b, off, rfl, hbB, _, e1, _, e3⟩ := clmAt HR1.out hx
  obtain ⟨rk, hrk⟩ : ∃ r, c.rank = r := ⟨_, rfl⟩
  obtain ⟨ch, hch⟩ : ∃ h, c.hi = h := ⟨_, rfl⟩
  have er : (c3 c).rank = rk := hrk
  have eh : (c3 c).hi = ch := hch
  rw [er, eh]
  rw [hrk] at e1
  rw [hch] at e3
  have hiz : (i : Int) < (cs.length : Int) := by omega
  have hi0 : (0 : Int) ≤ (i : Int) := by omega
  clear hnd hest hok3 hce hb0 hR hE hx er eh hrk hch
  by_cases hz : ch = 0
  · subst hz
    go_enter Try.func87, Try.ntmps87
    go_wp2
    clear hW1
    go_ret
    exact ⟨rfl, HB0.out⟩
  · have hzb : (ch == 0) = false := beq_eq_false_iff_ne.2 hz
    rw [if_neg hz]
    have HCC : Hid (W1.cell? ⟨w.heap.size, 2, none⟩ = some (.slice (some ⟨b, off, none⟩) cs.length cap) ∧ W1.cell? ⟨b, off + i * 4 + 1, none⟩ = some (.int .i64 rk)) := Lib.hid ⟨p2, e1⟩
    clear hz
    go_enter Try.func87, Try.ntmps87
    go_wp2
    clear hW1 p2 e1 e3
    go_loopw [6, 5] (fun vi vn wr => ∃ k : Nat, k ≤ cs.length ∧ vi = .int .i64 k ∧ vn = .int .i64 (upH ((cs.map c3).take k) rk) ∧ Hid (Below W1.heap.size W1 wr)) (fun vi _ _ => cs.length - (intOf vi).toNat)
    case atStart => exact ⟨0, Nat.zero_le _, rfl, rfl, Lib.hid (belowR _)⟩
    case round =>
      obtain ⟨k, hk, rfl, rfl, HBR⟩ := hrel
      by_cases hlt : k < cs.length
      · obtain ⟨ck, hck⟩ : ∃ x, cs[k]? = some x := ⟨_, List.getElem?_eq_getElem hlt⟩
        have hck3 : (cs.map c3)[k]? = some (c3 ck) := by rw [List.getElem?_map, hck]; rfl
        have hst := upH_take (r := rk) hck3
        have hbd := upH_bound (l := (cs.map c3).take k) rk (fun x hx => by have := HOK.out x (List.mem_of_mem_take hx); omega)
        have hlk : (((cs.map c3).take k).length : Int) ≤ 8 := by simp; omega
        have hcb := HOK.out _ (List.mem_of_getElem? hck3)
        obtain ⟨T, hT⟩ : ∃ t, upH ((cs.map c3).take k) rk = t := ⟨_, rfl⟩
        rw [hT] at hst hbd ⊢
        have hT0 := hbd.1
        have hT9 : T ≤ 8000000000 := by omega
        have q2 := keepC HBR.out HCC.out.1
        have q1 := keepC HBR.out HCC.out.2
        obtain ⟨b', o', ee, _, _, f1, _, f3⟩ := clmAt (HR1.out.below HBR.out (by omega)) hck
        injection ee with ee
        injection ee with ee1 ee2
        subst ee1 ee2
        obtain ⟨rk2, hrk2⟩ : ∃ r, ck.rank = r := ⟨_, rfl⟩
        obtain ⟨ch2, hch2⟩ : ∃ h, ck.hi = h := ⟨_, rfl⟩
        have er : (c3 ck).rank = rk2 := hrk2
        have eh : (c3 ck).hi = ch2 := hch2
        rw [er, eh] at hst
        rw [hrk2] at f1
        rw [hch2] at f3
        have hh0 : 0 ≤ ch2 := by rw [← eh]; omega
        have hh9 : ch2 ≤ 1000000000 := by rw [← eh]; omega
        have hkz : (k : Int) < (cs.length : Int) := by omega
        have hk0 : (0 : Int) ≤ (k : Int) := by omega
        by_cases hle : rk2 ≤ rk
        · rw [if_pos hle] at hst
          have HST := Lib.hid hst
          have hd : decide (rk2 ≤ rk) = true := by simpa using hle
          clear hst hbd hlk hcb hT hck hck3 er eh hrk2 hch2
          go_wp2
          go_quiet (fail)
          go_wp2
          go_roundw
          case rel => exact ⟨k + 1, by omega, by go_num, by rw [HST.out], Lib.hid (belowN HBR.out _)⟩
          case measure => simp [intOf]; omega
        · rw [if_neg hle, Int.add_zero] at hst
          have HST := Lib.hid hst
          have hd : decide (rk2 ≤ rk) = false := by simpa using hle
          have hle' : rk < rk2 := by omega
          clear hst hbd hlk hcb hT hck hck3 er eh hrk2 hch2
          go_wp2
          go_quiet (fail)
          go_wp2
          go_roundw
          case rel => exact ⟨k + 1, by omega, by go_num, by rw [HST.out], Lib.hid (belowN HBR.out _)⟩
          case measure => simp [intOf]; omega
      · obtain rfl : k = cs.length := by omega
        rw [List.take_of_length_le (by simp)]
        have q2 := keepC HBR.out HCC.out.1
        go_wp2
        go_ret
        exact ⟨rfl, belowT HB0.out HBR.out⟩

set_option maxRecDepth 100000 in
set_option maxHeartbeats 4000000 in
theorem refSure_no (lo hi : Int) (A : Option Addr) (cs : List Clm) (B cap : Nat) (w : World) (hm : cs.length ≤ cap) (hcm : cap ≤ maxLen) (hok : ClmsOk cs) (hR : RdN 4 encClm w B A cs) (hB : B ≤ w.heap.size) (hE : estErr lo hi cs ≠ 0) :
    Calls Try.prog 36 #[.agg #[.int .i64 lo, .int .i64 hi, .slice A cs.length cap]] w (TruthNo (estErr lo hi cs) w) := by
  have hb0 : Below w.heap.size w _ := belowA (belowR w) (.cells #[.int .i64 lo, .int .i64 hi, .slice A cs.length cap] 42)
  have hop := refCheck_any lo hi A cs B cap (w.alloc (.cells #[.int .i64 lo, .int .i64 hi, .slice A cs.length cap] 42)) hm hcm hok (hR.below hb0 hB) (Nat.le_trans hB hb0.size)
  obtain ⟨a1, a2, E, hE3⟩ : ∃ a b c, estE lo hi cs = (a, b, c) := ⟨_, _, _, rfl⟩
  have hEE : estErr lo hi cs = E := by unfold estErr; rw [hE3]
  rw [hE3] at hop
  unfold ret3 at hop
  simp only at hop
  rw [hEE] at hE ⊢
  have hne : (E != 0) = true := by simpa using hE
  have HOP := Lib.hid hop
  clear hop hEE hE hE3
  go_enter Try.func36, Try.ntmps36
  go_wp2_with fail
  refine HOP.out.mono ?_
  rintro e w1 ⟨rfl, hb⟩
  have hB1 := belowT hb0 hb
  clear hb hb0
  go_wp2
  go_ret2
  exact ⟨rfl, hB1⟩

set_option maxRecDepth 100000 in
set_option maxHeartbeats 4000000 in
theorem refSure_yes (lo hi : Int) (A : Option Addr) (cs : List Clm) (B cap : Nat) (w : World) (hm : cs.length ≤ cap) (hcm : cap ≤ maxLen) (hok : ClmsOk cs) (hR : RdN 4 encClm w B A cs) (hB : B ≤ w.heap.size) (hE : estErr lo hi cs = 0) :
    Calls Try.prog 36 #[.agg #[.int .i64 lo, .int .i64 hi, .slice A cs.length cap]] w (SureYes lo cs w) := by
  obtain ⟨i3, hi3, hz30, hz31, hz32⟩ := info_parts Try.info3
  have hest := est_ok hE
  have hle8 := hest.len.2
  obtain ⟨W1, hW1⟩ : ∃ W1, w.alloc (.cells #[.int .i64 lo, .int .i64 hi, .slice A cs.length cap] 42) = W1 := ⟨_, rfl⟩
  have hb0 : Below w.heap.size w W1 := by rw [← hW1]; exact belowA (belowR _) _
  have p0 : W1.cell? ⟨w.heap.size, 0, none⟩ = some (.int .i64 lo) := by rw [← hW1]; clear hW1; go_simp
  have p1 : W1.cell? ⟨w.heap.size, 1, none⟩ = some (.int .i64 hi) := by rw [← hW1]; clear hW1; go_simp
  have p2 : W1.cell? ⟨w.heap.size, 2, none⟩ = some (.slice A cs.length cap) := by rw [← hW1]; clear hW1; go_simp
  have HB0 := Lib.hid hb0
  have hz1' : w.heap.size < W1.heap.size := lt_of_cell p0
  have hop := refCheck_any lo hi A cs B cap W1 hm hcm hok (hR.below hb0 hB) (by omega)
  have hE3 : estE lo hi cs = ((estE lo hi cs).1, (estE lo hi cs).2.1, 0) := by
    have : (estE lo hi cs).2.2 = 0 := hE
    rw [← this]
  rw [hE3] at hop
  unfold ret3 at hop
  simp only at hop
  generalize (estE lo hi cs).1 = a1 at hop
  generalize (estE lo hi cs).2.1 = a2 at hop
  have hnd := fun i c W (hx : cs[i]? = some c) (hR : RdN 4 encClm W B A cs) (hB : B ≤ W.heap.size) => refNeed_any lo hi A cs B cap i c W hR hB hE hx
  have hfold : ∀ e w', (∃ v, e = .returned (.tuple #[v, iv 0]) ∧ w'.ownsRow w.heap.size 3 1 v (sureL lo (cs.map c3) cs.length).length ((sureL lo (cs.map c3) cs.length).map nv) ∧ Below w.heap.size w w') → SureYes lo cs w e w' := fun e w' h => h
  have HFOLD := Lib.hid hfold
  have HND := Lib.hid hnd
  have HOP := Lib.hid hop
  have HR1 := Lib.hid (hR.below hb0 hB)
  clear hop hE hest hb0 hR hE3 hnd hfold
  go_enter Try.func36, Try.ntmps36
  go_wp2_with fail
  refine HOP.out.mono ?_
  rintro e w1 ⟨rfl, hb1⟩
  have p0 := keepC hb1 p0
  have p1 := keepC hb1 p1
  have p2 := keepC hb1 p2
  have hz2' := hb1.size
  have HB1 := Lib.hid (belowT HB0.out hb1)
  have HR2 := Lib.hid (HR1.out.below hb1 (by omega))
  clear hb1 HOP hW1 HR1
  have hzl := lt_of_cell p0
  go_wp2
  go_loopw [8, 7] (fun vi vl wr => ∃ (k : Nat) (v : Value), k ≤ cs.length ∧ vi = .int .i64 k ∧ vl = v ∧ Hid (wr.ownsRow w1.heap.size 3 1 v (sureL lo (cs.map c3) k).length ((sureL lo (cs.map c3) k).map nv)) ∧ Below w1.heap.size w1 wr) (fun vi _ _ => cs.length - (intOf vi).toNat)
  case atStart => exact ⟨0, _, Nat.zero_le _, rfl, rfl, Lib.hid (World.ownsRow_nil _ _ _ _), belowR _⟩
  case round =>
    obtain ⟨k, v, hk, rfl, rfl, OWN, hbw⟩ := hrel
    have hzr := hbw.size
    have c0 := keepC hbw p0
    have c1 := keepC hbw p1
    have c2 := keepC hbw p2
    by_cases hlt : k < cs.length
    · obtain ⟨c, hx⟩ : ∃ x, cs[k]? = some x := ⟨_, List.getElem?_eq_getElem hlt⟩
      have hRr := HR2.out.below hbw (by omega)
      have hBr : B ≤ wr.heap.size := by omega
      have hkz : (k : Int) < (cs.length : Int) := by omega
      have hk0 : (0 : Int) ≤ (k : Int) := by omega
      have hC1 := HND.out k c wr.drew hx (hRr.keep (fun _ _ => rfl)) hBr
      have hx3 : (cs.map c3)[k]? = some (c3 c) := by rw [List.getElem?_map, hx]; rfl
      obtain ⟨N, hN⟩ : ∃ n, needI (cs.map c3) (c3 c) = n := ⟨_, rfl⟩
      have hlen : (sureL lo (cs.map c3) k).length ≤ k := by unfold sureL; exact Nat.le_trans (List.length_filter_le _ _) (by simp)
      rw [hN] at hC1
      have hsn : sureL lo (cs.map c3) (k + 1) = sureL lo (cs.map c3) k ++ if N ≤ lo then [k] else [] := by
        unfold sureL
        rw [List.range_succ, List.filter_append]
        congr 1
        simp only [List.filter_cons, hx3, hN, List.filter_nil, decide_eq_true_eq]
      obtain ⟨S, hS⟩ : ∃ s, sureL lo (cs.map c3) k = s := ⟨_, rfl⟩
      rw [hS] at hsn hlen OWN
      have HSN := Lib.hid hsn
      have HC1 := Lib.hid hC1
      have HBW := Lib.hid hbw
      clear hsn hC1 hRr hbw hx hx3 hN hS
      go_upto_region 8 with fail
      go_region_held3 (fun w' => w'.cell? ⟨w.heap.size, 0, none⟩ = some (.int .i64 lo) ∧ w'.cell? ⟨w.heap.size, 1, none⟩ = some (.int .i64 hi) ∧ w'.cell? ⟨w.heap.size, 2, none⟩ = some (.slice A cs.length cap)) (first | exact ⟨c0, c1, c2⟩ | exact ⟨keepC hb3 c0, keepC hb3 c1, keepC hb3 c2⟩) (((go_at_call 87; (with_reducible refine HC1.out.mono ?_); rintro e w3 ⟨rfl, hb3⟩)))
      have hB3 : Below wr.heap.size wr w3 := undrew0 hb3
      have HB3 := Lib.hid (belowT HBW.out hB3)
      have HO3 := Lib.hid (own_below OWN.out hB3)
      have hz3 := hB3.size
      clear hb3 hB3 c0 c1 c2 OWN HC1
      by_cases hle : N ≤ lo
      · have hsn := HSN.out
        rw [if_pos hle] at hsn
        have hd : decide (N ≤ lo) = true := by simpa using hle
        have HSN2 := Lib.hid hsn
        clear hsn HSN
        go_wp2_with (at_builtin; refine wpList_append_own _ rfl _ _ 32 rfl w1.heap.size 3 i3 (.int .i64 0) 1 8 Try.underlying32 hi3 hz30 hz31 hz32 rfl (by decide) _ _ _ rfl (HO3.out.alloc _) ⟨w3.heap.size, 0, none⟩ 1 1 [.int .i64 k] rfl rfl ?c1 ?c2 ?c3 ?c4 ?c5 ?_)
        case c1 => exact one_new _ _ _
        case c2 => simp [Value.oneCell']
        case c3 => unfold maxLen; omega
        case c4 => omega
        case c5 => simp; omega
        intro v' w5 hown5 hgrow _
        have hB5 : Below w1.heap.size w1 w5 := grownB (HO3.out.alloc _) hgrow (Nat.le_refl _) (belowA HB3.out _)
        have HO5 := Lib.hid hown5
        clear hown5 hgrow
        go_wp2
        go_roundw
        case rel => exact ⟨k + 1, v', by omega, by go_num, rfl, Lib.hid (by rw [HSN2.out, List.map_append, List.length_append]; exact HO5.out), hB5⟩
        case measure => simp [intOf]; omega
      · have hsn := HSN.out
        rw [if_neg hle, List.append_nil] at hsn
        have hd : decide (N ≤ lo) = false := by simpa using hle
        have hle' : lo < N := by omega
        have HSN2 := Lib.hid hsn
        clear hsn HSN
        go_wp2
        go_roundw
        case rel => exact ⟨k + 1, _, by omega, by go_num, rfl, Lib.hid (by rw [HSN2.out]; exact HO3.out), HB3.out⟩
        case measure => simp [intOf]; omega
    · obtain rfl : k = cs.length := by omega
      go_wp2
      refine bodyPost_ret (results_tmp2 rfl _ _ _) rfl ?_
      exact HFOLD.out _ _ ⟨_, rfl, ownsRow_base2 OWN.out (show w.heap.size ≤ w1.heap.size by omega), belowT HB1.out hbw⟩

set_option maxRecDepth 100000 in
set_option maxHeartbeats 4000000 in
theorem refLeast_any (lo hi at_ : Int) (A : Option Addr) (cs : List Clm) (B cap : Nat) (w : World) (hm : cs.length ≤ cap) (hcm : cap ≤ maxLen) (hok : ClmsOk cs) (hR : RdN 4 encClm w B A cs) (hB : B ≤ w.heap.size) :
    Calls Try.prog 38 #[.agg #[.int .i64 lo, .int .i64 hi, .slice A cs.length cap], .int .i64 at_] w fun e w' => e = .returned (.tuple #[iv (leastR lo hi cs at_).1, iv (leastR lo hi cs at_).2]) ∧ Below w.heap.size w w' := by
  obtain ⟨W1, hW1⟩ : ∃ W1, w.alloc (.cells #[.int .i64 lo, .int .i64 hi, .slice A cs.length cap] 42) = W1 := ⟨_, rfl⟩
  have hb0 : Below w.heap.size w W1 := by rw [← hW1]; exact belowA (belowR _) _
  have p0 : W1.cell? ⟨w.heap.size, 0, none⟩ = some (.int .i64 lo) := by rw [← hW1]; clear hW1; go_simp
  have p1 : W1.cell? ⟨w.heap.size, 1, none⟩ = some (.int .i64 hi) := by rw [← hW1]; clear hW1; go_simp
  have p2 : W1.cell? ⟨w.heap.size, 2, none⟩ = some (.slice A cs.length cap) := by rw [← hW1]; clear hW1; go_simp
  have HB0 := Lib.hid hb0
  have hz1' : w.heap.size < W1.heap.size := lt_of_cell p0
  have hop := refCheck_any lo hi A cs B cap W1 hm hcm hok (hR.below hb0 hB) (by omega)
  have hcm' : cs.length ≤ 9223372036854775807 := by unfold maxLen at hcm; omega
  obtain ⟨a1, a2, E, hE3⟩ : ∃ a b c, estE lo hi cs = (a, b, c) := ⟨_, _, _, rfl⟩
  have hEE : estErr lo hi cs = E := by unfold estErr; rw [hE3]
  rw [hE3] at hop
  unfold ret3 at hop
  simp only at hop
  have HOP := Lib.hid hop
  by_cases hE : E = 0
  case neg =>
    have hr : leastR lo hi cs at_ = (0, E) := by simp [leastR, hEE, hE]
    have hne : (E != 0) = true := by simpa using hE
    have hne2 : (E == 0) = false := by simpa using hE
    rw [hr]
    clear hop hEE hE hE3 hr hb0 hR
    go_enter Try.func38, Try.ntmps38
    go_wp2_with fail
    refine HOP.out.mono ?_
    rintro e w1 ⟨rfl, hb⟩
    have hB1 := belowT HB0.out hb
    clear hb hW1 p0 p1 p2
    go_wp2
    go_ret2
    exact ⟨rfl, hB1⟩
  subst hE
  have hnd := fun i c W (hx : cs[i]? = some c) (hR : RdN 4 encClm W B A cs) (hB : B ≤ W.heap.size) => refNeed_any lo hi A cs B cap i c W hR hB hEE hx
  have hge1 := (est_ok hEE).len.1
  have HND := Lib.hid hnd
  have HR1 := Lib.hid (hR.below hb0 hB)
  have HE := Lib.hid hEE
  have hw1 : IntKind.i64.wrap ((cs.length : Int) - 1) = (cs.length : Int) - 1 := by rw [IntKind.wrap_i64]; omega
  clear hop hE3 hnd hEE hb0 hR hw1
  cases hin : inB 0 ((cs.length : Int) - 1) at_
  · have hr : leastR lo hi cs at_ = (0, 4) := by simp [leastR, HE.out, hin]
    rw [hr]
    clear hr
    go_enter Try.func38, Try.ntmps38
    go_wp2_with fail
    refine HOP.out.mono ?_
    rintro e w1 ⟨rfl, hb⟩
    have hB1 := belowT HB0.out hb
    have p2 := keepC hb p2
    clear hb hW1 p0 p1
    go_wp2_with fail
    refine (in_any at_ 0 _ _).mono ?_
    rintro e w2 ⟨rfl, rfl⟩
    rw [hin]
    go_wp2
    go_ret2
    exact ⟨rfl, hB1⟩
  · obtain ⟨ha, hb9⟩ := inB_t hin
    obtain ⟨i, rfl⟩ : ∃ i : Nat, at_ = i := ⟨at_.toNat, by omega⟩
    obtain ⟨c, hx⟩ : ∃ c, cs[i]? = some c := ⟨_, List.getElem?_eq_getElem (by omega)⟩
    have hr : leastR lo hi cs i = (needI (cs.map c3) (c3 c), 0) := by simp [leastR, HE.out, hin, hx]
    rw [hr]
    obtain ⟨N, hN⟩ : ∃ n, needI (cs.map c3) (c3 c) = n := ⟨_, rfl⟩
    have hnd2 := fun W (hR : RdN 4 encClm W B A cs) (hB : B ≤ W.heap.size) => HND.out i c W hx hR hB
    rw [hN] at hnd2 ⊢
    have HND2 := Lib.hid hnd2
    have HIN := Lib.hid hin
    clear hr hnd2 hN hx HND hin
    go_enter Try.func38, Try.ntmps38
    go_wp2_with fail
    refine HOP.out.mono ?_
    rintro e w1 ⟨rfl, hb⟩
    have HB1 := Lib.hid (belowT HB0.out hb)
    have p0 := keepC hb p0
    have p1 := keepC hb p1
    have p2 := keepC hb p2
    have HR2 := Lib.hid (HR1.out.below hb (by omega))
    have hz2 := hb.size
    clear hb hW1
    go_wp2_with fail
    refine (in_any i 0 _ _).mono ?_
    rintro e w2 ⟨he, rfl⟩
    rw [HIN.out] at he
    subst he
    go_wp2_with fail
    refine (HND2.out _ HR2.out (by omega)).mono ?_
    rintro e w3 ⟨rfl, hb3⟩
    have hB3 := belowT HB1.out hb3
    go_wp2
    go_ret2
    exact ⟨rfl, hB3⟩
end Go.Proofs.Ytblbbhenmhkknaa
