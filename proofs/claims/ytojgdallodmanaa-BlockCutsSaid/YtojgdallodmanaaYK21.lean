/- The reference's Cuts: rows of rows, and the walk. -/
import Derived.Maps.AppendAt
import Derived.Test.YtojgdallodmanaaZ8049c1
import Derived.Test.YtojgdallodmanaaZ0dff73
namespace Go.Proofs.Ytojgdallodmanaa
open Go.RowKit

theorem wpList_append_srcs {P : Program} {w : World} {ops : Array Oper} {rest : List Oper} {o : Oper} {a : Act} {Q : Exit → Act → World → Prop} (hgd : o.guard = none) (s x : Operand) (t : TypeId)
    (ho : o.op = .call { callee := .builtin .append, args := #[s, x], argTypes := #[t, t] })
    (base : Nat) (e : TypeId) (i : TypeInfo) (z : Value) (size bytes : Nat) (ht : P.underlying t = some (.slice e)) (hi : P.info? e = some i) (hz : i.zero = some z)
    (hsize : i.size = size) (hby : i.bytes = bytes) (hzs : z.cells.size = size) (hsz : 0 < size)
    (v : Value) (n : Nat) (xs : List Value) (hs : a.eval s = v) (hown : w.ownsRow base e size v n xs)
    (src : Value) (m : Nat) (news : List Value) (hx : a.eval x = src) (hsrc : Srcs w size src m news)
    (h63 : n + m ≤ maxLen) (hbytes : (n + m) * bytes ≤ 140737488355328) (hbase : base ≤ w.heap.size)
    (h : ∀ v' w', w'.ownsRow base e size v' (n + m) (xs ++ news) → w.grownBy w' v.ownBlock → (v'.ownBlock = v.ownBlock ∨ v'.ownBlock = some w.heap.size) → wpList P ops Q rest (a.put o.dst v') w') :
    wpList P ops Q (o :: rest) a w := by
  rcases hsrc with ⟨rfl, rfl, rfl⟩ | ⟨ad, c, rfl, hl, hnews, h1⟩
  · refine wpList_plain hgd fun K hK => ?_
    have hr := run_append_owned_none (P := P) w base t o.type e i size ht hi v n xs hown
    unfold Oper.wp execOp
    simp only [ho, resolve, invoke, builtin, Sem.run_bind, Sem.run_pure, Result.andThen_ok, List.map_toArray, List.map_cons, List.map_nil, hs, hx, hr]
    exact hK _ _ (h v w (by simpa using hown) (grownBy_refl _ _) (.inl rfl))
  · exact wpList_append_own_at w hgd s x t ho base e i z size bytes ht hi hz hsize hby hzs hsz v n xs hs hown ad m c news hx hl hnews h1 h63 hbytes hbase fun v' w' a b _ d => h v' w' a b d
section
variable {w w' : World} {base : Nat} {e : TypeId} {size n : Nat} {v : Value} {xs : List Value}
theorem own_srcs (h : w.ownsRow base e size v n xs) (h1 : ∀ u ∈ xs, u.oneCell' = true) : Srcs w size v n xs := by
  have h0 := h
  obtain ⟨hl, hr⟩ := h
  rcases hr with ⟨hv, hn⟩ | ⟨g', cap, cur, hv, _, _, _, _, _, _⟩
  · subst hn
    rw [Nat.zero_mul] at hl
    exact .inl ⟨hv, rfl, List.length_eq_zero_iff.1 hl⟩
  · have hc := h0.cells (show v.ownBlock = some g' from by rw [hv]; rfl)
    exact .inr ⟨⟨g', 0, none⟩, cap, hv, hl, fun j u hu => hc j u hu, h1⟩
/-- Rows of two kinds lie in two blocks. -/
theorem own_apart {base' : Nat} {e' : TypeId} {size' n' : Nat} {v' : Value} {xs' : List Value} (h : w.ownsRow base e size v n xs) (h' : w.ownsRow base' e' size' v' n' xs') (he : e ≠ e') {g : Nat} (hg : v.ownBlock = some g) : v'.ownBlock ≠ some g := by
  intro hg'
  rcases h.2 with ⟨rfl, _⟩ | ⟨g1, cap, cur, rfl, _, h1, _⟩
  · cases hg
  rcases h'.2 with ⟨rfl, _⟩ | ⟨g2, cap2, cur2, rfl, _, h2, _⟩
  · cases hg'
  simp only [Value.ownBlock, Option.some.injEq] at hg hg'
  subst hg hg'
  rw [h1] at h2
  injection h2 with h2
  injection h2 with _ h2
  exact he h2
theorem own_grown {base' : Nat} {e' : TypeId} {size' n' : Nat} {v' : Value} {xs' : List Value} (h : w.ownsRow base e size v n xs) (h' : w.ownsRow base' e' size' v' n' xs') (he : e ≠ e') (hg : w.grownBy w' v'.ownBlock) : w'.ownsRow base e size v n xs :=
  ownKeep h fun k hk => hg.block k (h.lt k hk).2 fun e2 => own_apart h h' he hk e2.symm
theorem own_slice (h : w.ownsRow base e size v n xs) : ∃ A c, v = .slice A n c := by
  rcases h.2 with ⟨rfl, rfl⟩ | ⟨g, cap, cur, rfl, _⟩
  · exact ⟨none, 0, rfl⟩
  · exact ⟨_, _, rfl⟩
theorem own_zero (h : w.ownsRow base e size v n xs) : w.ownsRow 0 e size v n xs := own_base h (Nat.zero_le _)
end
theorem Try.info40 : (Try.prog.info? 40).map (fun i => (i.zero, i.size, i.bytes)) = some (some (.slice none 0 0), 1, 24) := by kernel_rfl
/-- Rows of numbers, as many as there are values. -/
def RowsO (w : World) (vs : List Value) (L : List (List Nat)) : Prop := vs.length = L.length ∧ ∀ (i : Nat) (q : List Nat), L[i]? = some q → ∃ v, vs[i]? = some v ∧ w.ownsRow 0 3 1 v q.length (q.map nv)
section
variable {w w' : World} {vs vs' : List Value} {L L' : List (List Nat)}
theorem RowsO.nil (w : World) : RowsO w [] [] := ⟨rfl, fun i q h => by simp at h⟩
theorem RowsO.below (h : RowsO w vs L) (hb : Below w.heap.size w w') : RowsO w' vs L := ⟨h.1, fun i q hq => by
  obtain ⟨v, h1, h2⟩ := h.2 i q hq
  exact ⟨v, h1, own_below h2 hb⟩⟩
theorem RowsO.grown (h : RowsO w vs L) {base n : Nat} {v : Value} {xs : List Value} (ho : w.ownsRow base 40 1 v n xs) (hg : w.grownBy w' v.ownBlock) : RowsO w' vs L := ⟨h.1, fun i q hq => by
  obtain ⟨v, h1, h2⟩ := h.2 i q hq
  exact ⟨v, h1, own_grown h2 ho (by decide) hg⟩⟩
theorem RowsO.append (h : RowsO w vs L) (h' : RowsO w vs' L') : RowsO w (vs ++ vs') (L ++ L') := ⟨by rw [List.length_append, List.length_append, h.1, h'.1], fun i q hq => by
  rcases Nat.lt_or_ge i L.length with hi | hi
  · rw [List.getElem?_append_left hi] at hq
    obtain ⟨v, h1, h2⟩ := h.2 i q hq
    exact ⟨v, by rw [List.getElem?_append_left (by rw [h.1]; exact hi)]; exact h1, h2⟩
  · rw [List.getElem?_append_right hi] at hq
    obtain ⟨v, h1, h2⟩ := h'.2 _ q hq
    exact ⟨v, by rw [List.getElem?_append_right (by rw [h.1]; exact hi), h.1]; exact h1, h2⟩⟩
theorem RowsO.one {v : Value} {q : List Nat} (h : w.ownsRow 0 3 1 v q.length (q.map nv)) : RowsO w [v] [q] := ⟨rfl, fun i q' hq => by
  match i with
  | 0 =>
    simp only [List.getElem?_cons_zero, Option.some.injEq] at hq
    subst hq
    exact ⟨v, rfl, h⟩
  | i + 1 => simp at hq⟩
theorem RowsO.oneCell (h : RowsO w vs L) : ∀ u ∈ vs, u.oneCell' = true := fun u hu => by
  obtain ⟨i, hi⟩ := List.getElem?_of_mem hu
  have hil := (List.getElem?_eq_some_iff.1 hi).1
  rw [h.1] at hil
  obtain ⟨v, h1, h2⟩ := h.2 i _ (List.getElem?_eq_getElem hil)
  rw [hi] at h1
  injection h1 with h1
  subst h1
  rcases h2.2 with ⟨rfl, _⟩ | ⟨g, cap, cur, rfl, _⟩ <;> rfl
end
theorem nv_one : ∀ (q : List Nat), ∀ u ∈ q.map nv, u.oneCell' = true := fun q u hu => by
  obtain ⟨x, _, rfl⟩ := List.mem_map.1 hu
  rfl

set_option maxRecDepth 100000 in
set_option maxHeartbeats 4000000 in
theorem cuts86_any (n : Nat) (hn : n ≤ 8) : ∀ (k : Nat) (p : List Nat) (next : Nat) (A : Option Addr) (cap : Nat) (w : World), p.length + k = n → next ≤ p.length → w.ownsRow 0 3 1 (.slice A p.length cap) p.length (p.map nv) →
    Calls Try.prog 86 #[.slice A p.length cap, .int .i64 next, .int .i64 n] w fun e w' => Below w.heap.size w w' ∧ ∃ A' c' vs, e = .returned (.slice A' (cutsP k p next).length c') ∧ w'.ownsRow w.heap.size 40 1 (.slice A' (cutsP k p next).length c') (cutsP k p next).length vs ∧ RowsO w' vs (cutsP k p next) := by
  obtain ⟨i3, hi3, hz30, hz31, hz32⟩ := info_parts Try.info3
  obtain ⟨i40, hi40, hz40, hz41, hz42⟩ := info_parts Try.info40
  intro k
  induction k with
  | zero =>
    intro p next A cap w hk hnx ho
    have hce : ((p.length : Int) == (n : Int)) = true := by simp; omega
    have HO := Lib.hid ho
    clear ho hnx hk
    go_enter Try.func86, Try.ntmps86
    go_wp2_with fail
    go_ret
    refine ⟨belowA (belowR w) _, _, 1, [.slice A p.length cap], rfl, World.ownsRow_lit w #[.slice A p.length cap] 1 (Nat.le_refl _) (by decide) rfl, RowsO.one ?_⟩
    exact HO.out.alloc _
  | succ k ih =>
    intro p next A cap w hk hnx ho
    have hce : ((p.length : Int) == (n : Int)) = false := by simp; omega
    have hpl : p.length < n := by omega
    have HO := Lib.hid ho
    have hih : ∀ (i : Nat) (A : Option Addr) (cap : Nat) (V : World), i ≤ next → V.ownsRow 0 3 1 (.slice A (p ++ [i]).length cap) (p ++ [i]).length ((p ++ [i]).map nv) → Calls Try.prog 86 #[.slice A (p.length + 1) cap, .int .i64 ((max next (i + 1) : Nat) : Int), .int .i64 n] V fun e w' => Below V.heap.size V w' ∧ ∃ A' c' vs, e = .returned (.slice A' (cutsP k (p ++ [i]) (max next (i + 1))).length c') ∧ w'.ownsRow V.heap.size 40 1 (.slice A' (cutsP k (p ++ [i]) (max next (i + 1))).length c') (cutsP k (p ++ [i]) (max next (i + 1))).length vs ∧ RowsO w' vs (cutsP k (p ++ [i]) (max next (i + 1))) := fun i A cap V hi ho => by
      have := ih (p ++ [i]) (max next (i + 1)) A cap V (by rw [List.length_append]; simp only [List.length_singleton]; omega) (by rw [List.length_append]; simp only [List.length_singleton]; omega) ho
      rw [List.length_append] at this
      exact this
    have IH := Lib.hid hih
    have HLEN : Hid (∀ i, i ≤ next + 1 → (cutsPTo k p next i).length ≤ 16777216) := Lib.hid fun i hi => by
      have h1 := cutsPTo_len k p next i (by omega) fun j hj => cutsP_len k _ _ (by omega)
      have h2 : 8 ^ (k + 1) ≤ 8 ^ 8 := Nat.pow_le_pow_right (by decide) (by omega)
      exact Nat.le_trans h1 (Nat.le_trans h2 (by decide))
    have hnx8 : next ≤ 7 := by omega
    clear ho hih ih
    go_enter Try.func86, Try.ntmps86
    go_wp2_with fail
    go_loopw [7, 8, 9] (fun vo vi vt wr => ∃ (i : Nat) (va : Value) (vs : List Value), i ≤ next + 1 ∧ vi = .int .i64 i ∧ va = vo ∧ Hid (wr.ownsRow w.heap.size 40 1 va (cutsPTo k p next i).length vs) ∧ Hid (RowsO wr vs (cutsPTo k p next i)) ∧ Hid (Below w.heap.size w wr)) (fun _ vi _ _ => next + 1 - (intOf vi).toNat)
    case atStart => exact ⟨0, _, [], Nat.zero_le _, rfl, rfl, Lib.hid (World.ownsRow_nil _ _ _ _), Lib.hid (RowsO.nil _), Lib.hid (belowR _)⟩
    case round =>
      obtain ⟨i, va, vs, hi, rfl, rfl, HOW, HRW, HBR⟩ := hrel
      by_cases hlt : i ≤ next
      · have hle : (i : Int) ≤ (next : Int) := by omega
        have hled : decide ((i : Int) ≤ (next : Int)) = true := decide_eq_true hle
        have hihi := fun A cap V ho => IH.out i A cap V hlt ho
        have hsz := HLEN.out i (by omega)
        have hsz2 := HLEN.out (i + 1) (by omega)
        have HS := cutsPTo_succ k p next i
        obtain ⟨L1, hL1⟩ : ∃ L, cutsPTo k p next (i + 1) = L := ⟨_, rfl⟩
        obtain ⟨L0, hL0⟩ : ∃ L, cutsPTo k p next i = L := ⟨_, rfl⟩
        obtain ⟨L2, hL2⟩ : ∃ L, cutsP k (p ++ [i]) (max next (i + 1)) = L := ⟨_, rfl⟩
        have HL1 := Lib.hid hL1
        rw [hL1, hL0, hL2] at HS
        rw [hL0] at hsz HOW HRW
        rw [hL1] at hsz2
        rw [hL2] at hihi
        have hsum : L1.length = L0.length + L2.length := by rw [HS, List.length_append]
        have HSS := Lib.hid HS
        obtain ⟨M, hM⟩ : ∃ M, max next (i + 1) = M := ⟨_, rfl⟩
        rw [hM] at hihi
        have IHI := Lib.hid hihi
        have HPP : Hid (Srcs (wr.alloc (.cells #[] 3)) 1 (.slice A p.length cap) p.length (p.map nv)) := Lib.hid (own_srcs (own_below (own_below HO.out HBR.out) (belowA (belowR wr) _)) (nv_one p))
        have hmm : (i < next ∧ M = next) ∨ (i = next ∧ M = next + 1) := by omega
        clear hihi HS hL1 hL0 hL2 hM
        rcases hmm with ⟨h1, h2⟩ | ⟨h1, h2⟩
        · have hce2 : ((i : Int) == (next : Int)) = false := by rw [beq_eq_false_iff_ne]; omega
          have hihi := IHI.out
          rw [h2] at hihi
          have IHI := Lib.hid hihi
          clear hihi
          go_wp2_with (at_builtin; refine wpList_append_srcs rfl _ _ 40 rfl wr.heap.size 3 i3 (.int .i64 0) 1 8 Try.underlying40 hi3 hz30 hz31 hz32 rfl (by decide) _ 0 [] rfl (lit0 wr 3 1) _ p.length (p.map nv) rfl HPP.out ?d3 ?d4 ?d5 ?_)
          case d3 => unfold maxLen; omega
          case d4 => omega
          case d5 => simp only [World.size_alloc]; omega
          intro v1 w1 hown1 hg1 _
          have hb1 : Below wr.heap.size wr w1 := grownB (lit0 wr 3 1) hg1 (Nat.le_refl _) (belowA (belowR wr) _)
          have hown1 : w1.ownsRow wr.heap.size 3 1 v1 p.length (p.map nv) := by simpa using hown1
          have HB1 := Lib.hid hb1
          have HO1 := Lib.hid (hown1.alloc (.cells #[.int .i64 (i : Int)] 3))
          clear hown1 hg1 hb1
          go_wp2_with (at_builtin; refine wpList_append_srcs rfl _ _ 40 rfl wr.heap.size 3 i3 (.int .i64 0) 1 8 Try.underlying40 hi3 hz30 hz31 hz32 rfl (by decide) _ p.length (p.map nv) rfl HO1.out (.slice (some ⟨w1.heap.size, 0, none⟩) 1 1) 1 [nv i] rfl (.inr ⟨⟨w1.heap.size, 0, none⟩, 1, rfl, rfl, one_new _ _ _, by simp [Value.oneCell']⟩) ?d3 ?d4 ?d5 ?_)
          case d3 => unfold maxLen; omega
          case d4 => omega
          case d5 => have := HB1.out.size; simp only [World.size_alloc]; omega
          intro v2 w2 hown2 hg2 _
          have hb2 : Below wr.heap.size wr w2 := grownB HO1.out hg2 (Nat.le_refl _) (belowA HB1.out _)
          have hown2 : w2.ownsRow wr.heap.size 3 1 v2 (p.length + 1) ((p ++ [i]).map nv) := by rw [List.map_append]; exact hown2
          obtain ⟨A2, c2, rfl⟩ := own_slice hown2
          have HB2 := Lib.hid hb2
          have HO2 : Hid (w2.ownsRow 0 3 1 (.slice A2 (p ++ [i]).length c2) (p ++ [i]).length ((p ++ [i]).map nv)) := Lib.hid (by rw [List.length_append]; exact own_zero hown2)
          clear hown2 hg2 hb2
          go_wp2_with fail
          refine (IHI.out A2 c2 w2 HO2.out).mono ?_
          rintro e w3 ⟨hb3, A3, c3, vs3, rfl, hown3, hrow3⟩
          have HB3 := Lib.hid (belowT HB2.out hb3)
          have HOW3 := Lib.hid (own_below HOW.out HB3.out)
          have HRW3 := Lib.hid ((HRW.out.below HB3.out).append hrow3)
          have HSR := Lib.hid (own_srcs hown3 hrow3.oneCell)
          have hz3 := HB3.out.size
          have hzr := HBR.out.size
          clear hb3 hown3 hrow3
          go_wp2_with (at_builtin; refine wpList_append_srcs rfl _ _ 131 rfl w.heap.size 40 i40 (.slice none 0 0) 1 24 Try.underlying131 hi40 hz40 hz41 hz42 rfl (by decide) _ L0.length vs rfl HOW3.out _ L2.length vs3 rfl HSR.out ?d3 ?d4 ?d5 ?_)
          case d3 => unfold maxLen; omega
          case d4 => omega
          case d5 => omega
          intro v4 w4 hown4 hg4 _
          have HB4 := Lib.hid (grownB HOW3.out hg4 (Nat.le_refl _) (belowT HBR.out HB3.out))
          have HRW4 := Lib.hid (HRW3.out.grown HOW3.out hg4)
          have HOW4 : Hid (w4.ownsRow w.heap.size 40 1 v4 L1.length (vs ++ vs3)) := Lib.hid (by rw [hsum]; exact hown4)
          clear hown4 hg4
          go_wp2_with fail
          go_roundw
          case rel => exact ⟨i + 1, v4, vs ++ vs3, by omega, by go_num, rfl, by rw [HL1.out]; exact HOW4, by rw [HL1.out, HSS.out]; exact HRW4, HB4⟩
          case measure => simp [intOf]; omega
        · have hce2 : ((i : Int) == (next : Int)) = true := by simp; omega
          have hihi := IHI.out
          rw [h2, show ((next + 1 : Nat) : Int) = (next : Int) + 1 from rfl] at hihi
          have IHI := Lib.hid hihi
          clear hihi h1 h2
          go_wp2_with (at_builtin; refine wpList_append_srcs rfl _ _ 40 rfl wr.heap.size 3 i3 (.int .i64 0) 1 8 Try.underlying40 hi3 hz30 hz31 hz32 rfl (by decide) _ 0 [] rfl (lit0 wr 3 1) _ p.length (p.map nv) rfl HPP.out ?d3 ?d4 ?d5 ?_)
          case d3 => unfold maxLen; omega
          case d4 => omega
          case d5 => simp only [World.size_alloc]; omega
          intro v1 w1 hown1 hg1 _
          have hb1 : Below wr.heap.size wr w1 := grownB (lit0 wr 3 1) hg1 (Nat.le_refl _) (belowA (belowR wr) _)
          have hown1 : w1.ownsRow wr.heap.size 3 1 v1 p.length (p.map nv) := by simpa using hown1
          have HB1 := Lib.hid hb1
          have HO1 := Lib.hid (hown1.alloc (.cells #[.int .i64 (i : Int)] 3))
          clear hown1 hg1 hb1
          go_wp2_with (at_builtin; refine wpList_append_srcs rfl _ _ 40 rfl wr.heap.size 3 i3 (.int .i64 0) 1 8 Try.underlying40 hi3 hz30 hz31 hz32 rfl (by decide) _ p.length (p.map nv) rfl HO1.out (.slice (some ⟨w1.heap.size, 0, none⟩) 1 1) 1 [nv i] rfl (.inr ⟨⟨w1.heap.size, 0, none⟩, 1, rfl, rfl, one_new _ _ _, by simp [Value.oneCell']⟩) ?d3 ?d4 ?d5 ?_)
          case d3 => unfold maxLen; omega
          case d4 => omega
          case d5 => have := HB1.out.size; simp only [World.size_alloc]; omega
          intro v2 w2 hown2 hg2 _
          have hb2 : Below wr.heap.size wr w2 := grownB HO1.out hg2 (Nat.le_refl _) (belowA HB1.out _)
          have hown2 : w2.ownsRow wr.heap.size 3 1 v2 (p.length + 1) ((p ++ [i]).map nv) := by rw [List.map_append]; exact hown2
          obtain ⟨A2, c2, rfl⟩ := own_slice hown2
          have HB2 := Lib.hid hb2
          have HO2 : Hid (w2.ownsRow 0 3 1 (.slice A2 (p ++ [i]).length c2) (p ++ [i]).length ((p ++ [i]).map nv)) := Lib.hid (by rw [List.length_append]; exact own_zero hown2)
          clear hown2 hg2 hb2
          go_wp2_with fail
          refine (IHI.out A2 c2 w2 HO2.out).mono ?_
          rintro e w3 ⟨hb3, A3, c3, vs3, rfl, hown3, hrow3⟩
          have HB3 := Lib.hid (belowT HB2.out hb3)
          have HOW3 := Lib.hid (own_below HOW.out HB3.out)
          have HRW3 := Lib.hid ((HRW.out.below HB3.out).append hrow3)
          have HSR := Lib.hid (own_srcs hown3 hrow3.oneCell)
          have hz3 := HB3.out.size
          have hzr := HBR.out.size
          clear hb3 hown3 hrow3
          go_wp2_with (at_builtin; refine wpList_append_srcs rfl _ _ 131 rfl w.heap.size 40 i40 (.slice none 0 0) 1 24 Try.underlying131 hi40 hz40 hz41 hz42 rfl (by decide) _ L0.length vs rfl HOW3.out _ L2.length vs3 rfl HSR.out ?d3 ?d4 ?d5 ?_)
          case d3 => unfold maxLen; omega
          case d4 => omega
          case d5 => omega
          intro v4 w4 hown4 hg4 _
          have HB4 := Lib.hid (grownB HOW3.out hg4 (Nat.le_refl _) (belowT HBR.out HB3.out))
          have HRW4 := Lib.hid (HRW3.out.grown HOW3.out hg4)
          have HOW4 : Hid (w4.ownsRow w.heap.size 40 1 v4 L1.length (vs ++ vs3)) := Lib.hid (by rw [hsum]; exact hown4)
          clear hown4 hg4
          go_wp2_with fail
          go_roundw
          case rel => exact ⟨i + 1, v4, vs ++ vs3, by omega, by go_num, rfl, by rw [HL1.out]; exact HOW4, by rw [HL1.out, HSS.out]; exact HRW4, HB4⟩
          case measure => simp [intOf]; omega
      · obtain rfl : i = next + 1 := by omega
        have hle : ¬ ((next : Int) + 1 ≤ (next : Int)) := by omega
        have hled : decide ((next : Int) + 1 ≤ (next : Int)) = false := decide_eq_false hle
        have hend := cutsPTo_end k p next
        go_wp2_with fail
        go_ret
        obtain ⟨A9, c9, e9⟩ := own_slice HOW.out
        rw [hend] at HOW HRW
        rw [hend] at e9
        exact ⟨HBR.out, A9, c9, congrArg Ending.returned e9, vs, by rw [← e9]; exact HOW.out, HRW.out⟩
end Go.Proofs.Ytojgdallodmanaa
