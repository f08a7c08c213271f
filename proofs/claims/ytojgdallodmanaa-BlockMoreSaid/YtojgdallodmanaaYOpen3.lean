/- The arguments of the laws, opened, continued: a hull and weighings with what a nil slice's capacity is; cuts. Printed by mkOpen3b.py. -/
import Derived.Test.YtojgdallodmanaaYK8
import Derived.Test.YtojgdallodmanaaZ0771ae
import Derived.Test.YtojgdallodmanaaYM1
namespace Go.Proofs.Ytojgdallodmanaa
open Go.RowKit Go.ChangeShapes Go.WideShapes Go.Deep
section
variable {H : Type} {enc : TypeId × Value → H} {W : World} {base : Nat} {spare : Nat → Bool} {held : Bool}
set_option maxRecDepth 100000 in
theorem open_hul2 {b0 : Nat} {v : Value} {d : DataW H} {p : List MemPlace} (hv : Value.okWide Try.prog W .any b0 27 v) (h : DataW.Trod enc Try.prog W base spare held 27 v d p) :
    ∃ (hul : Hul) (A : Option Addr) (cap : Nat) (J : Option Addr) (capJ : Nat), v = Go.Proofs.Ytojgdallodmanaa.hv hul A cap J capJ ∧ HulRd W W.heap.size hul A cap J capJ ∧ (J = none → capJ = 0) := by
  obtain ⟨arr, rfl, hsz⟩ := okWide_struct Try.underlying27 hv
  obtain ⟨l⟩ := arr
  replace hsz := hsz.trans Try.cells27
  match l, hsz with
  | [c0, c1, c2, c3, c4], _ =>
    obtain ⟨fuel, hf⟩ := h
    obtain ⟨y0, y1, y2, y3, n, _, _, h0, h1, h2, h3⟩ := Go.Joins.trod_struct4 Try.underlying27 hf
    simp only [Try.cells22, Try.cells23, Try.cells25, Try.cells3] at h0 h1 h2 h3
    obtain ⟨slo, shi, e2, e3⟩ := open_span (c0 := c2) (c1 := c3) h2
    obtain ⟨win, e4, _, _⟩ := DataW.trod_int Try.underlying3 (cs := [c4]) h3
    have e4' : c4 = .int .i64 win := by simpa using e4
    subst e2 e3 e4'
    obtain ⟨A, ps, cap, ea, hpl, hpm, hpn, hpR⟩ : ∃ (A : Option Addr) (ps : List Prt) (cap : Nat), c0 = .slice A ps.length cap ∧ ps.length ≤ cap ∧ cap ≤ maxLen ∧ (∀ x ∈ ps, x.name.size ≤ maxLen) ∧ RdN 3 encPrt W W.heap.size A ps := by
      rcases open_slice Try.underlying22 (cs := [c0]) h0 with ⟨e, _⟩ | ⟨a, len, cap, m, n2, D, Pl, e, _, hlc, hcm, hm, _, hi2⟩
      · exact ⟨none, [], 0, List.head_eq_of_cons_eq e, Nat.zero_le _, Nat.zero_le _, by intro x hx; simp at hx, RdN.nil⟩
      · have hlm : len ≤ m := by rw [hm]; split <;> omega
        obtain ⟨xs, hxl, hP, hR⟩ := row_of_cells (W := W) (a := a) (len := len) (k := 3) (encs := encPrt) (fun _ => rfl) (by decide) (fun c => c.name.size ≤ maxLen) (fun i hil => by
          obtain ⟨cs', hc, ht'⟩ := hi2 i (by omega)
          rw [Try.cells67] at hc
          obtain ⟨_, hcl, hat⟩ := World.cells?_some hc
          obtain ⟨c, rfl, hs⟩ := open_prt hcl ht'
          refine ⟨c, hs, fun j u hu => ?_⟩
          have hj : j < 3 := (List.getElem?_eq_some_iff.1 hu).1
          rw [← Go.Deep.add_add, hat j hj, hu])
        exact ⟨some a, xs, cap, by rw [hxl]; exact List.head_eq_of_cons_eq e, by omega, hcm, hP, hR⟩
    obtain ⟨J, js, capJ, ej, hjl, hjm, hjR, hj0⟩ : ∃ (J : Option Addr) (js : List (Int × Int)) (capJ : Nat), c1 = .slice J js.length capJ ∧ js.length ≤ capJ ∧ capJ ≤ maxLen ∧ RdN 2 encSp W W.heap.size J js ∧ (J = none → capJ = 0) := by
      rcases open_slice Try.underlying23 (cs := [c1]) h1 with ⟨e, _⟩ | ⟨a, len, cap, m, n2, D, Pl, e, _, hlc, hcm, hm, _, hi2⟩
      · exact ⟨none, [], 0, List.head_eq_of_cons_eq e, Nat.zero_le _, Nat.zero_le _, RdN.nil, fun _ => rfl⟩
      · have hlm : len ≤ m := by rw [hm]; split <;> omega
        obtain ⟨xs, hxl, _, hR⟩ := row_of_cells (W := W) (a := a) (len := len) encSp_len (by decide) (fun _ => True) (fun i hil => by
          obtain ⟨cs', hc, ht'⟩ := hi2 i (by omega)
          rw [Try.cells79] at hc
          obtain ⟨_, hcl, hat⟩ := World.cells?_some hc
          obtain ⟨c, rfl⟩ := open_joint hcl ht'
          refine ⟨c, trivial, fun j u hu => ?_⟩
          have hj : j < 2 := (List.getElem?_eq_some_iff.1 hu).1
          rw [← Go.Deep.add_add, hat j hj, hu])
        exact ⟨some a, xs, cap, by rw [hxl]; exact List.head_eq_of_cons_eq e, by omega, hcm, hR, fun e => by cases e⟩
    subst ea ej
    exact ⟨⟨ps, js, slo, shi, win⟩, A, cap, J, capJ, rfl, ⟨hpR, hjR, hpl, hpm, hjl, hjm, hpn⟩, hj0⟩

set_option maxRecDepth 100000 in
theorem open_wghs2 {b0 : Nat} {v : Value} {d : DataW H} {p : List MemPlace} (hv : Value.okWide Try.prog W .any b0 28 v) (h : DataW.Trod enc Try.prog W base spare held 28 v d p) :
    ∃ (A : Option Addr) (l : List Wgh) (cap : Nat), v = .slice A l.length cap ∧ l.length ≤ cap ∧ cap ≤ maxLen ∧ RdN 3 encWgh W W.heap.size A l ∧ (A = none → cap = 0) := by
  obtain ⟨fuel, hf⟩ := h
  obtain ⟨a0, len0, cap0, rfl⟩ := okWide_slice Try.underlying28 hv
  rcases open_slice Try.underlying28 hf with ⟨e, _⟩ | ⟨a, len, cap, m, n2, D, Pl, e, _, hlc, hcm, hm, _, hi2⟩
  · have e' : Value.slice a0 len0 cap0 = .slice none 0 0 := List.head_eq_of_cons_eq e
    rw [e']
    exact ⟨none, [], 0, rfl, Nat.zero_le _, Nat.zero_le _, RdN.nil, fun _ => rfl⟩
  · have e' : Value.slice a0 len0 cap0 = .slice (some a) len cap := List.head_eq_of_cons_eq e
    rw [e']
    have hlm : len ≤ m := by rw [hm]; split <;> omega
    obtain ⟨xs, hxl, _, hR⟩ := row_of_cells (W := W) (a := a) (len := len) encWgh_len (by decide) (fun _ => True) (fun i hil => by
      obtain ⟨cs', hc, ht'⟩ := hi2 i (by omega)
      rw [Try.cells82] at hc
      obtain ⟨_, hcl, hat⟩ := World.cells?_some hc
      obtain ⟨c, rfl⟩ := open_wgh hcl ht'
      refine ⟨c, trivial, fun j u hu => ?_⟩
      have hj : j < 3 := (List.getElem?_eq_some_iff.1 hu).1
      rw [← Go.Deep.add_add, hat j hj, hu])
    exact ⟨some a, xs, cap, by rw [hxl], by omega, hcm, hR, fun e => by cases e⟩
theorem Try.cells73 : Try.prog.cellsOf 73 = 1 := by kernel_rfl
theorem Try.cells74 : Try.prog.cellsOf 74 = 2 := by kernel_rfl
theorem Try.cells76 : Try.prog.cellsOf 76 = 4 := by kernel_rfl
set_option maxRecDepth 100000 in
theorem open_u8s {fuel : Nat} {c : Value} {x : DataW H × List MemPlace} (h : DataW.trod enc Try.prog W base spare held fuel 73 [c] = some x) :
    ∃ (U : Option Addr) (us : List Nat) (cap : Nat), c = .slice U us.length cap ∧ us.length ≤ maxLen ∧ (∀ x ∈ us, x < 256) ∧ Rd1 u8v W W.heap.size U us := by
  rcases open_ints Try.underlying73 Try.underlying5 Try.cells5 h with ⟨e, _⟩ | ⟨a, len, cap, zs, e, _, hlc, hcm, hzl, _, hcell, hwf⟩
  · have e' : c = .slice none 0 0 := List.head_eq_of_cons_eq e
    rw [e']
    exact ⟨none, [], 0, rfl, Nat.zero_le _, by intro x hx; simp at hx, Rd1.nil⟩
  · have e' : c = .slice (some a) len cap := List.head_eq_of_cons_eq e
    rw [e']
    have hlz : len ≤ zs.length := by rw [hzl]; split <;> omega
    have hl : ((zs.take len).map Int.toNat).length = len := by rw [List.length_map, List.length_take]; omega
    have hbd : ∀ x ∈ zs, 0 ≤ x ∧ x < 256 := fun x hx => by
      have := hwf x hx
      simp [Lit.wf] at this
      have e1 : IntKind.u8.min = 0 := by decide
      have e2 : IntKind.u8.max = 255 := by decide
      omega
    refine ⟨some a, (zs.take len).map Int.toNat, cap, by rw [hl], by rw [hl]; omega, fun x hx => ?_, fun i x hx => ?_⟩
    · obtain ⟨y, hy, rfl⟩ := List.mem_map.1 hx
      have := hbd y (List.mem_of_mem_take hy)
      omega
    · have hil : i < len := by have := (List.getElem?_eq_some_iff.1 hx).1; omega
      rw [List.getElem?_map, List.getElem?_take, if_pos hil] at hx
      obtain ⟨y, hy⟩ : ∃ y, zs[i]? = some y := ⟨_, List.getElem?_eq_getElem (by omega)⟩
      rw [hy] at hx
      injection hx with hx
      have hb := hbd y (List.mem_of_getElem? hy)
      have hc := hcell i (by omega)
      have hg : zs.getD i 0 = (x : Int) := by rw [List.getD_eq_getElem?_getD, hy, ← hx]; simp; omega
      rw [hg] at hc
      have ha : a = ⟨a.block, a.off, none⟩ := by
        have h0 := hcell 0 (by omega)
        simpa [Addr.add] using spot_none h0
      rw [ha, addr_add] at hc
      exact ⟨a.block, a.off, by rw [← ha], lt_of_cell hc, hc⟩
set_option maxRecDepth 100000 in
theorem open_cuts {b0 : Nat} {v : Value} {d : DataW H} {p : List MemPlace} (hv : Value.okWide Try.prog W .any b0 76 v) (h : DataW.Trod enc Try.prog W base spare held 76 v d p) :
    ∃ (AO : Option Addr) (os : List Nat) (capO : Nat) (AT : Option Addr) (ts : List Nat) (capT ja jb : Nat), v = .agg #[.slice AO os.length capO, .slice AT ts.length capT, .int .u8 ja, .int .u8 jb] ∧ os.length ≤ maxLen ∧ (∀ x ∈ os, x < 256) ∧ Rd1 u8v W W.heap.size AO os ∧ ts.length ≤ maxLen ∧ (∀ x ∈ ts, x < 256) ∧ Rd1 u8v W W.heap.size AT ts ∧ ja < 256 ∧ jb < 256 := by
  obtain ⟨arr, rfl, hsz⟩ := okWide_struct Try.underlying76 hv
  obtain ⟨l⟩ := arr
  replace hsz := hsz.trans Try.cells76
  match l, hsz with
  | [c0, c1, c2, c3], _ =>
    obtain ⟨fuel, hf⟩ := h
    obtain ⟨y0, y1, y2, n, _, _, h0, h1, h2⟩ := Go.Deep.trod_struct3 Try.underlying76 hf
    simp only [Try.cells73, Try.cells74] at h0 h1 h2
    obtain ⟨AO, os, capO, rfl, a1, a2, a3⟩ := open_u8s (c := c0) h0
    obtain ⟨AT, ts, capT, rfl, b1, b2, b3⟩ := open_u8s (c := c1) h1
    obtain ⟨xs, m, _, _, _, hl, hx⟩ := DataW.trod_array Try.underlying74 h2
    match xs, hl with
    | [z0, z1], _ =>
      have k0 := hx 0 (by omega)
      have k1 := hx 1 (by omega)
      simp only [Try.cells5] at k0 k1
      obtain ⟨ja, rfl, hja⟩ := u8_nat (c := c2) k0
      obtain ⟨jb, rfl, hjb⟩ := u8_nat (c := c3) k1
      exact ⟨AO, os, capO, AT, ts, capT, ja, jb, rfl, a1, a2, a3, b1, b2, b3, by omega, by omega⟩
end
/-- What a list is for an append. -/
theorem srcs_rdN {α : Type} {k : Nat} {encs : α → List Value} (he : ∀ x, (encs x).length = k) (h1 : ∀ x, ∀ u ∈ encs x, u.oneCell' = true) {w : World} {B : Nat} {A : Option Addr} {xs : List α} {cap : Nat} (h : RdN k encs w B A xs) (hB : B ≤ w.heap.size) (hc : xs.length ≤ cap) (hm : cap ≤ maxLen) (hn : A = none → cap = 0) : Srcs w k (.slice A xs.length cap) xs.length (xs.flatMap encs) := by
  cases xs with
  | nil =>
    cases A with
    | none => exact .inl ⟨by rw [hn rfl]; rfl, rfl, rfl⟩
    | some a => exact .inr ⟨a, cap, rfl, by simp, by simp, by simp⟩
  | cons x xs =>
    obtain ⟨b, off, rfl, hb, hcell⟩ := h 0 x rfl
    have hR : RowR 0 k encs w (some ⟨b, off, none⟩) cap (x :: xs) := ⟨hc, hm, h.more hB, fun e => (by cases e), fun a ha => by
      injection ha with ha
      subst ha
      exact ⟨rfl, Nat.zero_le _, by simp only; omega⟩⟩
    have := hR.low he h1 (p := (x :: xs).length) (Nat.le_refl _)
    rwa [List.take_length] at this
end Go.Proofs.Ytojgdallodmanaa
