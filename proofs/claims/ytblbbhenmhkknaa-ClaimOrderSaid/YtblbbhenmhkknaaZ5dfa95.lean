/- The arguments of the laws, opened: an estate, a list of numbers; and what a law's row asks behind the call. The arguments of the laws, opened, continued: small numbers and arrays of them; what a row asks behind the call. -/
import Derived.ProofKit
import Derived.OpenShut
import Derived.Deep.Strs
import Derived.Deep.Slices
import Derived.Test.YtblbbhenmhkknaaRows
import Derived.Test.YtblbbhenmhkknaaZ6bda3e
namespace Go.Proofs.Ytblbbhenmhkknaa
open Go.RowKit Go.ChangeShapes Go.WideShapes Go.Deep
section
variable {H : Type} {enc : TypeId × Value → H} {W : World} {base : Nat} {spare : Nat → Bool} {held : Bool}

theorem Try.cells42 : Try.prog.cellsOf 42 = 3 := by kernel_rfl
theorem Try.cells39 : Try.prog.cellsOf 39 = 2 := by kernel_rfl
theorem Try.cells46 : Try.prog.cellsOf 46 = 4 := by kernel_rfl
theorem Try.cells40 : Try.prog.cellsOf 40 = 1 := by kernel_rfl
theorem Try.cells9 : Try.prog.cellsOf 9 = 1 := by kernel_rfl
theorem Try.cells3 : Try.prog.cellsOf 3 = 1 := by kernel_rfl
theorem Try.cells88 : Try.prog.cellsOf 88 = 1 := by kernel_rfl

theorem spot_none {w : World} {a : Addr} {v : Value} (h : w.cell? a = some v) : a = ⟨a.block, a.off, none⟩ := by
  obtain ⟨b, o, s⟩ := a
  cases s with
  | none => rfl
  | some n =>
    exfalso
    simp only [World.cell?] at h
    split at h
    · simp at h
    · cases h
theorem add_at {b o : Nat} (n : Nat) : (⟨b, o, none⟩ : Addr).add n = ⟨b, o + n, none⟩ := by
  unfold Addr.add
  rcases Nat.eq_zero_or_pos n with rfl | h
  · rfl
  · rw [if_neg (by omega)]

theorem open_span {fuel : Nat} {c0 c1 : Value} {x : DataW H × List MemPlace} (h : DataW.trod enc Try.prog W base spare held fuel 39 [c0, c1] = some x) : ∃ lo hi : Int, c0 = .int .i64 lo ∧ c1 = .int .i64 hi := by
  obtain ⟨y0, y1, n, _, _, h0, h1⟩ := trod_struct2 Try.underlying39 h
  simp only [Try.cells3] at h0 h1
  obtain ⟨lo, e0, _, _⟩ := DataW.trod_int Try.underlying3 h0
  obtain ⟨hi, e1, _, _⟩ := DataW.trod_int Try.underlying3 h1
  exact ⟨lo, hi, by simpa using e0, by simpa using e1⟩
set_option maxRecDepth 100000 in
theorem open_claim {fuel : Nat} {cs : List Value} {x : DataW H × List MemPlace} (hl : cs.length = 4) (h : DataW.trod enc Try.prog W base spare held fuel 46 cs = some x) : ∃ c : Clm, cs = encClm c ∧ c.name.size ≤ maxLen := by
  match cs, hl with
  | [c0, c1, c2, c3], _ =>
    obtain ⟨y0, y1, y2, n, _, _, h0, h1, h2⟩ := trod_struct3 Try.underlying46 h
    simp only [Try.cells3, Try.cells9, Try.cells39] at h0 h1 h2
    obtain ⟨s, e0, _, hs⟩ := DataW.trod_string Try.underlying9 h0
    obtain ⟨r, e1, _, _⟩ := DataW.trod_int Try.underlying3 h1
    obtain ⟨lo, hi, e2, e3⟩ := open_span (c0 := c2) (c1 := c3) h2
    have e0' : c0 = .string s := by simpa using e0
    have e1' : c1 = .int .i64 r := by simpa using e1
    subst e0' e1' e2 e3
    exact ⟨⟨s, r, lo, hi⟩, rfl, hs⟩

set_option maxRecDepth 100000 in
theorem open_estate {b0 : Nat} {v : Value} {d : DataW H} {p : List MemPlace} (hv : Value.okWide Try.prog W .any b0 42 v) (h : DataW.Trod enc Try.prog W base spare held 42 v d p) :
    ∃ (lo hi : Int) (A : Option Addr) (cs : List Clm) (cap : Nat), v = .agg #[.int .i64 lo, .int .i64 hi, .slice A cs.length cap] ∧ cs.length ≤ cap ∧ cap ≤ maxLen ∧ ClmsOk cs ∧ RdN 4 encClm W W.heap.size A cs := by
  obtain ⟨arr, rfl, hsz⟩ := okWide_struct Try.underlying42 hv
  obtain ⟨l⟩ := arr
  replace hsz := hsz.trans Try.cells42
  match l, hsz with
  | [c0, c1, c2], _ =>
    obtain ⟨fuel, hf⟩ := h
    obtain ⟨y0, y1, n, _, _, h0, h1⟩ := trod_struct2 Try.underlying42 hf
    simp only [Try.cells39, Try.cells40] at h0 h1
    obtain ⟨lo, hi, e0, e1⟩ := open_span (c0 := c0) (c1 := c1) h0
    subst e0 e1
    rcases open_slice Try.underlying40 h1 with ⟨e2, _⟩ | ⟨a, len, cap, m, n2, D, Pl, e2, _, hlc, hcm, hm, _, hi2⟩
    · have e2' : c2 = .slice none 0 0 := by simpa [Value.cells] using e2
      subst e2'
      exact ⟨lo, hi, none, [], 0, rfl, Nat.le_refl _, Nat.zero_le _, by intro c hc; simp at hc, RdN.nil⟩
    · have e2' : c2 = .slice (some a) len cap := by simpa [Value.cells] using e2
      subst e2'
      have hlm : len ≤ m := by rw [hm]; split <;> omega
      have each : ∀ i, i < len → ∃ c : Clm, c.name.size ≤ maxLen ∧ ∀ (j : Nat) (u : Value), (encClm c)[j]? = some u → W.cell? (a.add (i * 4 + j)) = some u := fun i hil => by
        obtain ⟨cs', hc, ht'⟩ := hi2 i (by omega)
        rw [Try.cells46] at hc
        obtain ⟨_, hcl, hat⟩ := World.cells?_some hc
        obtain ⟨c, rfl, hs⟩ := open_claim hcl ht'
        refine ⟨c, hs, fun j u hu => ?_⟩
        have hj : j < 4 := (List.getElem?_eq_some_iff.1 hu).1
        rw [← Go.Deep.add_add, hat j hj, hu]
      have hch := Classical.axiomOfChoice (r := fun (i : Fin len) (c : Clm) => c.name.size ≤ maxLen ∧ ∀ (j : Nat) (u : Value), (encClm c)[j]? = some u → W.cell? (a.add (i * 4 + j)) = some u) fun i => each i i.2
      obtain ⟨f, hf2⟩ := hch
      have hlen : (List.ofFn f).length = len := by simp
      refine ⟨lo, hi, some a, List.ofFn f, cap, by rw [hlen], by omega, hcm, ?_, ?_⟩
      · intro c hc
        obtain ⟨i, rfl⟩ := List.mem_ofFn.1 hc
        exact (hf2 i).1
      · intro i c hc
        have hil : i < len := by have := (List.getElem?_eq_some_iff.1 hc).1; omega
        have hfc : f ⟨i, hil⟩ = c := by
          rw [List.getElem?_ofFn, dif_pos hil] at hc
          exact Option.some.inj hc
        have hcell := (hf2 ⟨i, hil⟩).2
        rw [hfc] at hcell
        have h00 := hcell 0 (.string c.name) rfl
        have hi3 := hcell 3 (iv c.hi) rfl
        have ha : a = ⟨a.block, a.off, none⟩ := by
          have hs := spot_none hi3
          obtain ⟨b, o, s⟩ := a
          cases s with
          | none => rfl
          | some q =>
            rcases Nat.eq_zero_or_pos i with rfl | hpos
            · have := spot_none h00
              simp [Addr.add] at this
            · have h0' := (hf2 ⟨0, by omega⟩).2 0 _ rfl
              have := spot_none h0'
              simp [Addr.add] at this
        refine ⟨a.block, a.off, by rw [← ha], ?_, fun j u hu => ?_⟩
        · have h3' := hi3
          rw [ha, add_at] at h3'
          exact lt_of_cell h3'
        · have := hcell j u hu
          rw [ha, add_at] at this
          simp only [← Nat.add_assoc] at this
          exact this

set_option maxRecDepth 100000 in
theorem open_turns {b0 : Nat} {v : Value} {d : DataW H} {p : List MemPlace} (hv : Value.okWide Try.prog W .any b0 74 v) (h : DataW.Trod enc Try.prog W base spare held 74 v d p) :
    ∃ (U : Option Addr) (us : List Int) (cap : Nat), v = .slice U us.length cap ∧ us.length ≤ maxLen ∧ (∀ x ∈ us, 0 ≤ x ∧ x ≤ 4294967295) ∧ Rd1 uv W W.heap.size U us := by
  obtain ⟨fuel, hf⟩ := h
  obtain ⟨a0, len0, cap0, rfl⟩ := okWide_slice Try.underlying74 hv
  rcases open_ints Try.underlying74 Try.underlying88 Try.cells88 hf with ⟨e, _⟩ | ⟨a, len, cap, zs, e, _, hlc, hcm, hzl, _, hcell, hwf⟩
  · have e' : Value.slice a0 len0 cap0 = .slice none 0 0 := List.head_eq_of_cons_eq e
    rw [e']
    exact ⟨none, [], 0, rfl, Nat.zero_le _, by intro x hx; simp at hx, Rd1.nil⟩
  · have e' : Value.slice a0 len0 cap0 = .slice (some a) len cap := List.head_eq_of_cons_eq e
    rw [e']
    have hlz : len ≤ zs.length := by rw [hzl]; split <;> omega
    have hl : (zs.take len).length = len := by rw [List.length_take]; omega
    refine ⟨some a, zs.take len, cap, by rw [hl], by rw [hl]; omega, fun x hx => ?_, fun i x hx => ?_⟩
    · have := hwf x (List.mem_of_mem_take hx)
      simp [Lit.wf] at this
      have e1 : IntKind.u32.min = 0 := by decide
      have e2 : IntKind.u32.max = 4294967295 := by decide
      omega
    · have hil : i < len := by have := (List.getElem?_eq_some_iff.1 hx).1; omega
      rw [List.getElem?_take, if_pos hil] at hx
      have hc := hcell i (by omega)
      have hg : zs.getD i 0 = x := by rw [List.getD_eq_getElem?_getD, hx]; rfl
      rw [hg] at hc
      have ha : a = ⟨a.block, a.off, none⟩ := by
        have h0 := hcell 0 (by omega)
        simpa [Addr.add] using spot_none h0
      rw [ha, add_at] at hc
      exact ⟨a.block, a.off, by rw [← ha], lt_of_cell hc, hc⟩
end
end Go.Proofs.Ytblbbhenmhkknaa

namespace Go.Proofs.Ytblbbhenmhkknaa
open Go.RowKit Go.ChangeShapes Go.WideShapes Go.Deep
section
variable {H : Type} {enc : TypeId × Value → H} {W : World} {base : Nat} {spare : Nat → Bool} {held : Bool}

theorem Try.cells5 : Try.prog.cellsOf 5 = 1 := by kernel_rfl
theorem Try.cells78 : Try.prog.cellsOf 78 = 2 := by kernel_rfl
theorem Try.cells89 : Try.prog.cellsOf 89 = 3 := by kernel_rfl
theorem u8_nat {fuel : Nat} {c : Value} {x : DataW H × List MemPlace} (h : DataW.trod enc Try.prog W base spare held fuel 5 [c] = some x) : ∃ n : Nat, c = .int .u8 n ∧ n ≤ 255 := by
  obtain ⟨n, e, _, hw⟩ := DataW.trod_int Try.underlying5 h
  simp [Lit.wf] at hw
  have e1 : IntKind.u8.min = 0 := by decide
  have e2 : IntKind.u8.max = 255 := by decide
  obtain ⟨m, rfl⟩ : ∃ m : Nat, n = m := ⟨n.toNat, by omega⟩
  exact ⟨m, by simpa using e, by omega⟩
theorem u32_nat {fuel : Nat} {c : Value} {x : DataW H × List MemPlace} (h : DataW.trod enc Try.prog W base spare held fuel 88 [c] = some x) : ∃ n : Nat, c = .int .u32 n ∧ n ≤ 4294967295 := by
  obtain ⟨n, e, _, hw⟩ := DataW.trod_int Try.underlying88 h
  simp [Lit.wf] at hw
  have e1 : IntKind.u32.min = 0 := by decide
  have e2 : IntKind.u32.max = 4294967295 := by decide
  obtain ⟨m, rfl⟩ : ∃ m : Nat, n = m := ⟨n.toNat, by omega⟩
  exact ⟨m, by simpa using e, by omega⟩
set_option maxRecDepth 100000 in
theorem open_u8 {b0 : Nat} {v : Value} {d : DataW H} {p : List MemPlace} (hv : Value.okWide Try.prog W .any b0 5 v) (h : DataW.Trod enc Try.prog W base spare held 5 v d p) : ∃ n : Nat, v = .int .u8 n ∧ n ≤ 255 := by
  obtain ⟨n, rfl⟩ := okWide_int Try.underlying5 hv
  obtain ⟨fuel, hf⟩ := h
  exact u8_nat hf
set_option maxRecDepth 100000 in
theorem okWide_arr {b0 : Nat} {v : Value} {t e : TypeId} {n : Nat} (ht : Try.prog.underlying t = some (.array n e)) (h : Value.okWide Try.prog W .any b0 t v) : ∃ cs, v = .agg cs ∧ cs.size = Try.prog.cellsOf t := by
  simp only [Value.okWide, ht] at h
  obtain ⟨cs, h1, h2, _⟩ := h
  exact ⟨cs, h1, h2⟩
set_option maxRecDepth 100000 in
theorem open_two8 {b0 : Nat} {v : Value} {d : DataW H} {p : List MemPlace} (hv : Value.okWide Try.prog W .any b0 78 v) (h : DataW.Trod enc Try.prog W base spare held 78 v d p) : ∃ n m : Nat, v = .agg #[.int .u8 n, .int .u8 m] ∧ n ≤ 255 ∧ m ≤ 255 := by
  obtain ⟨arr, rfl, hsz⟩ := okWide_arr Try.underlying78 hv
  obtain ⟨l⟩ := arr
  replace hsz := hsz.trans Try.cells78
  match l, hsz with
  | [c0, c1], _ =>
    obtain ⟨fuel, hf⟩ := h
    obtain ⟨xs, m, _, _, _, hl, hx⟩ := DataW.trod_array Try.underlying78 hf
    match xs, hl with
    | [y0, y1], _ =>
      have h0 := hx 0 (by omega)
      have h1 := hx 1 (by omega)
      simp only [Try.cells5] at h0 h1
      obtain ⟨a, rfl, ha⟩ := u8_nat (c := c0) h0
      obtain ⟨b, rfl, hb⟩ := u8_nat (c := c1) h1
      exact ⟨a, b, rfl, ha, hb⟩
set_option maxRecDepth 100000 in
theorem open_three32 {b0 : Nat} {v : Value} {d : DataW H} {p : List MemPlace} (hv : Value.okWide Try.prog W .any b0 89 v) (h : DataW.Trod enc Try.prog W base spare held 89 v d p) : ∃ n m k : Nat, v = .agg #[.int .u32 n, .int .u32 m, .int .u32 k] ∧ n ≤ 4294967295 ∧ m ≤ 4294967295 ∧ k ≤ 4294967295 := by
  obtain ⟨arr, rfl, hsz⟩ := okWide_arr Try.underlying89 hv
  obtain ⟨l⟩ := arr
  replace hsz := hsz.trans Try.cells89
  match l, hsz with
  | [c0, c1, c2], _ =>
    obtain ⟨fuel, hf⟩ := h
    obtain ⟨xs, m, _, _, _, hl, hx⟩ := DataW.trod_array Try.underlying89 hf
    match xs, hl with
    | [y0, y1, y2], _ =>
      have h0 := hx 0 (by omega)
      have h1 := hx 1 (by omega)
      have h2 := hx 2 (by omega)
      simp only [Try.cells88] at h0 h1 h2
      obtain ⟨a, rfl, ha⟩ := u32_nat (c := c0) h0
      obtain ⟨b, rfl, hb⟩ := u32_nat (c := c1) h1
      obtain ⟨k, rfl, hk⟩ := u32_nat (c := c2) h2
      exact ⟨a, b, k, rfl, ha, hb, hk⟩
end

theorem Try.laidOut : laidOutB Try.prog = true := by kernel_rfl
end Go.Proofs.Ytblbbhenmhkknaa
