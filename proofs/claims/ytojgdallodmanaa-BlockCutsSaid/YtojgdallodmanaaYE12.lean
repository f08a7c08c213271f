/- sort.Search, with each of the functions that it is handed. -/
import Derived.Test.YtojgdallodmanaaZ9acd8a
namespace Go.Proofs.Ytojgdallodmanaa
open Go.RowKit

/-- What the search by halves answers, f rounds long. -/
def searchF (pred : Nat → Bool) : Nat → Nat → Nat → Nat
  | 0, i, _ => i
  | f + 1, i, j => if i < j then (if pred ((i + j) / 2) then searchF pred f i ((i + j) / 2) else searchF pred f ((i + j) / 2 + 1) j) else i
/-- Where pred, once it is so, stays so: the answer is the first number at which it is so. -/
theorem searchF_least {pred : Nat → Bool} (hm : ∀ a b, a ≤ b → pred a = true → pred b = true) : ∀ (f i j : Nat), i ≤ j → j < f + i → (∀ k, k < i → pred k = false) →
    i ≤ searchF pred f i j ∧ searchF pred f i j ≤ j ∧ (∀ k, k < searchF pred f i j → pred k = false) ∧ (searchF pred f i j < j → pred (searchF pred f i j) = true) := by
  intro f
  induction f with
  | zero => intro i j h1 h2; omega
  | succ f ih =>
    intro i j h1 h2 h3
    rw [searchF]
    by_cases hij : i < j
    · rw [if_pos hij]
      obtain ⟨h, hh⟩ : ∃ h, (i + j) / 2 = h := ⟨_, rfl⟩
      rw [hh]
      have hb : i ≤ h ∧ h < j := by omega
      cases hp : pred h with
      | true =>
        rw [if_pos rfl]
        obtain ⟨a, b, c, d⟩ := ih i h hb.1 (by omega) h3
        refine ⟨a, by omega, c, fun hlt => ?_⟩
        rcases Nat.lt_or_ge (searchF pred f i h) h with hl | hg
        · exact d hl
        · have : searchF pred f i h = h := by omega
          rw [this]; exact hp
      | false =>
        rw [if_neg (by simp)]
        obtain ⟨a, b, c, d⟩ := ih (h + 1) j (by omega) (by omega) (fun k hk => by
          cases hpk : pred k with
          | false => rfl
          | true => have := hm k h (by omega) hpk; rw [hp] at this; cases this)
        exact ⟨by omega, b, c, d⟩
    · rw [if_neg hij]
      exact ⟨Nat.le_refl _, h1, h3, fun h => by omega⟩
theorem searchF_le (pred : Nat → Bool) : ∀ (f i j : Nat), i ≤ j → i ≤ searchF pred f i j ∧ searchF pred f i j ≤ j := by
  intro f
  induction f with
  | zero => intro i j h; exact ⟨Nat.le_refl _, h⟩
  | succ f ih =>
    intro i j h
    rw [searchF]
    by_cases hij : i < j
    · rw [if_pos hij]
      split
      · have := ih i ((i + j) / 2) (by omega); omega
      · have := ih ((i + j) / 2 + 1) j (by omega); omega
    · rw [if_neg hij]; exact ⟨Nat.le_refl _, h⟩
set_option maxRecDepth 100000 in
set_option maxHeartbeats 8000000 in
theorem search75_any (p1 p2 p3 p4 p5 : Value) (pred : Nat → Bool) (Inv : World → Prop) (n : Nat) (w : World) (hn : n ≤ 1000000000000000000) (hI : Inv w)
    (hF : ∀ W k, Inv W → k < n → Calls Try.prog 75 #[.int .i64 (k : Nat), p1, p2, p3, p4, p5] W fun e w' => e = .returned (.bool (pred k)) ∧ Inv w') :
    Calls Try.prog 74 #[.int .i64 n, .func (.func 75) #[] #[p1, p2, p3, p4, p5]] w fun e w' => e = .returned (nv (searchF pred (n + 1) 0 n)) ∧ Inv w' := by
  have HF := Lib.hid hF
  have HI := Lib.hid hI
  obtain ⟨R, hR⟩ : ∃ R, searchF pred (n + 1) 0 n = R := ⟨_, rfl⟩
  have HR := Lib.hid hR
  rw [hR]
  clear hF hI hR
  go_enter Try.func74, Try.ntmps74
  go_wp2_with fail
  go_loopw [5, 6] (fun vi vj wr => ∃ i j f : Nat, vi = .int .i64 i ∧ vj = .int .i64 j ∧ i ≤ j ∧ j ≤ n ∧ j < f + i ∧ Hid (Inv wr) ∧ Hid (searchF pred f i j = R)) (fun vi vj _ => (intOf vj).toNat - (intOf vi).toNat)
  case atStart => exact ⟨0, n, n + 1, rfl, rfl, Nat.zero_le _, Nat.le_refl _, by omega, HI, HR⟩
  case round =>
    clear HI HR
    obtain ⟨i, j, f, rfl, rfl, hij, hjn, hjf, HI, HR⟩ := hrel
    by_cases hlt : i < j
    · obtain ⟨f, rfl⟩ : ∃ f', f = f' + 1 := ⟨f - 1, by omega⟩
      have hst : searchF pred (f + 1) i j = if pred ((i + j) / 2) then searchF pred f i ((i + j) / 2) else searchF pred f ((i + j) / 2 + 1) j := by rw [searchF, if_pos hlt]
      obtain ⟨h, hh⟩ : ∃ h, (i + j) / 2 = h := ⟨_, rfl⟩
      rw [hh] at hst
      have hb : i ≤ h ∧ h < j := by omega
      have hcall := HF.out wr h HI.out (by omega)
      obtain ⟨q, hq⟩ : ∃ q, pred h = q := ⟨_, rfl⟩
      rw [hq] at hst hcall
      have HST := Lib.hid hst
      have HC := Lib.hid hcall
      have hu0 : IntKind.u64.wrap ((i : Int) + (j : Int)) = (i : Int) + (j : Int) := by rw [IntKind.wrap_u64]; omega
      have hu1 : ((i : Int) + (j : Int)) / 2 = (h : Int) := by omega
      clear hst hcall hq hh
      go_wp2_with fail
      refine HC.out.mono ?_
      rintro e w1 ⟨rfl, hI1⟩
      have HI1 := Lib.hid hI1
      clear hI1 HC
      cases q
      · have hr : searchF pred f (h + 1) j = R := by rw [← HR.out, HST.out]; rfl
        have HR2 := Lib.hid hr
        clear hr HST
        go_wp2_with fail
        go_roundw
        case rel => exact ⟨h + 1, j, f, by go_num, rfl, by omega, by omega, by omega, HI1, HR2⟩
        case measure => simp [intOf]; omega
      · have hr : searchF pred f i h = R := by rw [← HR.out, HST.out]; rfl
        have HR2 := Lib.hid hr
        clear hr HST
        go_wp2_with fail
        go_roundw
        case rel => exact ⟨i, h, f, rfl, rfl, by omega, by omega, by omega, HI1, HR2⟩
        case measure => simp [intOf]; omega
    · have hz : ¬ (i : Int) < (j : Int) := by omega
      have hri : R = i := by
        rw [← HR.out]
        cases f with
        | zero => rfl
        | succ f => rw [searchF, if_neg hlt]
      go_wp2_with fail
      go_ret
      exact ⟨by first | rfl | (rw [hri]; rfl), HI.out⟩
set_option maxRecDepth 100000 in
set_option maxHeartbeats 8000000 in
theorem search117_any (p1 : Value) (pred : Nat → Bool) (Inv : World → Prop) (n : Nat) (w : World) (hn : n ≤ 1000000000000000000) (hI : Inv w)
    (hF : ∀ W k, Inv W → k < n → Calls Try.prog 117 #[p1, .int .i64 (k : Nat)] W fun e w' => e = .returned (.bool (pred k)) ∧ Inv w') :
    Calls Try.prog 74 #[.int .i64 n, .func (.func 117) #[p1] #[]] w fun e w' => e = .returned (nv (searchF pred (n + 1) 0 n)) ∧ Inv w' := by
  have HF := Lib.hid hF
  have HI := Lib.hid hI
  obtain ⟨R, hR⟩ : ∃ R, searchF pred (n + 1) 0 n = R := ⟨_, rfl⟩
  have HR := Lib.hid hR
  rw [hR]
  clear hF hI hR
  go_enter Try.func74, Try.ntmps74
  go_wp2_with fail
  go_loopw [5, 6] (fun vi vj wr => ∃ i j f : Nat, vi = .int .i64 i ∧ vj = .int .i64 j ∧ i ≤ j ∧ j ≤ n ∧ j < f + i ∧ Hid (Inv wr) ∧ Hid (searchF pred f i j = R)) (fun vi vj _ => (intOf vj).toNat - (intOf vi).toNat)
  case atStart => exact ⟨0, n, n + 1, rfl, rfl, Nat.zero_le _, Nat.le_refl _, by omega, HI, HR⟩
  case round =>
    clear HI HR
    obtain ⟨i, j, f, rfl, rfl, hij, hjn, hjf, HI, HR⟩ := hrel
    by_cases hlt : i < j
    · obtain ⟨f, rfl⟩ : ∃ f', f = f' + 1 := ⟨f - 1, by omega⟩
      have hst : searchF pred (f + 1) i j = if pred ((i + j) / 2) then searchF pred f i ((i + j) / 2) else searchF pred f ((i + j) / 2 + 1) j := by rw [searchF, if_pos hlt]
      obtain ⟨h, hh⟩ : ∃ h, (i + j) / 2 = h := ⟨_, rfl⟩
      rw [hh] at hst
      have hb : i ≤ h ∧ h < j := by omega
      have hcall := HF.out wr h HI.out (by omega)
      obtain ⟨q, hq⟩ : ∃ q, pred h = q := ⟨_, rfl⟩
      rw [hq] at hst hcall
      have HST := Lib.hid hst
      have HC := Lib.hid hcall
      have hu0 : IntKind.u64.wrap ((i : Int) + (j : Int)) = (i : Int) + (j : Int) := by rw [IntKind.wrap_u64]; omega
      have hu1 : ((i : Int) + (j : Int)) / 2 = (h : Int) := by omega
      clear hst hcall hq hh
      go_wp2_with fail
      refine HC.out.mono ?_
      rintro e w1 ⟨rfl, hI1⟩
      have HI1 := Lib.hid hI1
      clear hI1 HC
      cases q
      · have hr : searchF pred f (h + 1) j = R := by rw [← HR.out, HST.out]; rfl
        have HR2 := Lib.hid hr
        clear hr HST
        go_wp2_with fail
        go_roundw
        case rel => exact ⟨h + 1, j, f, by go_num, rfl, by omega, by omega, by omega, HI1, HR2⟩
        case measure => simp [intOf]; omega
      · have hr : searchF pred f i h = R := by rw [← HR.out, HST.out]; rfl
        have HR2 := Lib.hid hr
        clear hr HST
        go_wp2_with fail
        go_roundw
        case rel => exact ⟨i, h, f, rfl, rfl, by omega, by omega, by omega, HI1, HR2⟩
        case measure => simp [intOf]; omega
    · have hz : ¬ (i : Int) < (j : Int) := by omega
      have hri : R = i := by
        rw [← HR.out]
        cases f with
        | zero => rfl
        | succ f => rw [searchF, if_neg hlt]
      go_wp2_with fail
      go_ret
      exact ⟨by first | rfl | (rw [hri]; rfl), HI.out⟩
end Go.Proofs.Ytojgdallodmanaa
