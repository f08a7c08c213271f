/- The arguments of the laws, opened: a hull, weighings, a past. The arguments of the laws, opened, continued: small arrays, cuts, a further weighing. -/
import Derived.ProofKit
import Derived.OpenShut
import Derived.JoinedOf
import Derived.Deep.Strs
import Derived.Deep.Slices
import Derived.Lib.SmallJoins
import Derived.Test.YtojgdallodmanaaRows
import Derived.Test.YtojgdallodmanaaZ654d27
namespace Go.Proofs.Ytojgdallodmanaa
open Go.RowKit Go.ChangeShapes Go.WideShapes Go.Deep

theorem spot_none {w : World} {a : Addr} {v : Value} (h : w.cell? a = some v) : a = ⟨a.block, a.off, none⟩ := by
  obtain ⟨b, o, s⟩ := a
  cases s with
  | none => rfl
  | some n =>
    exfalso
    simp only [World.cell?] at h
    split at h
    · simp at h
    · cases h
/-- Things of k cells each, that lie one behind the other: a list. -/
theorem row_of_cells {α : Type} {k : Nat} {encs : α → List Value} {W : World} (hen : ∀ x, (encs x).length = k) (hk : 2 ≤ k) (Pred : α → Prop) {a : Addr} {len : Nat}
    (each : ∀ i, i < len → ∃ c : α, Pred c ∧ ∀ (j : Nat) (u : Value), (encs c)[j]? = some u → W.cell? (a.add (i * k + j)) = some u) :
    ∃ xs : List α, xs.length = len ∧ (∀ c ∈ xs, Pred c) ∧ RdN k encs W W.heap.size (some a) xs := by
  have hch := Classical.axiomOfChoice (r := fun (i : Fin len) (c : α) => Pred c ∧ ∀ (j : Nat) (u : Value), (encs c)[j]? = some u → W.cell? (a.add (i * k + j)) = some u) fun i => each i i.2
  obtain ⟨f, hf2⟩ := hch
  refine ⟨List.ofFn f, by simp, fun c hc => ?_, fun i c hc => ?_⟩
  · obtain ⟨i, rfl⟩ := List.mem_ofFn.1 hc
    exact (hf2 i).1
  · have hil : i < len := by have := (List.getElem?_eq_some_iff.1 hc).1; simpa using this
    have hfc : f ⟨i, hil⟩ = c := by
      rw [List.getElem?_ofFn, dif_pos hil] at hc
      exact Option.some.inj hc
    have hcell := (hf2 ⟨i, hil⟩).2
    rw [hfc] at hcell
    have hcl := hen c
    have hlast := hcell (k - 1) _ (List.getElem?_eq_getElem (show k - 1 < (encs c).length by omega))
    have ha : a = ⟨a.block, a.off, none⟩ := by
      have h0 := (hf2 ⟨0, by omega⟩).2 0 _ (List.getElem?_eq_getElem (show 0 < (encs (f ⟨0, by omega⟩)).length by rw [hen]; omega))
      have hs := spot_none h0
      have e : a.add (0 * k + 0) = a := by unfold Addr.add; rw [if_pos (by simp)]
      simp only at hs
      rw [e] at hs
      exact hs
    refine ⟨a.block, a.off, by rw [← ha], ?_, fun j u hu => ?_⟩
    · have h3' := hlast
      rw [ha, addr_add] at h3'
      exact lt_of_cell h3'
    · have := hcell j u hu
      rw [ha, addr_add] at this
      simp only [← Nat.add_assoc] at this
      exact this
section
variable {H : Type} {enc : TypeId × Value → H} {W : World} {base : Nat} {spare : Nat → Bool} {held : Bool}
theorem Try.cells3 : Try.prog.cellsOf 3 = 1 := by kernel_rfl
theorem Try.cells9 : Try.prog.cellsOf 9 = 1 := by kernel_rfl
theorem Try.cells5 : Try.prog.cellsOf 5 = 1 := by kernel_rfl
theorem Try.cells53 : Try.prog.cellsOf 53 = 1 := by kernel_rfl
theorem Try.cells25 : Try.prog.cellsOf 25 = 2 := by kernel_rfl
theorem Try.cells67 : Try.prog.cellsOf 67 = 3 := by kernel_rfl
theorem Try.cells82 : Try.prog.cellsOf 82 = 3 := by kernel_rfl
theorem Try.cells79 : Try.prog.cellsOf 79 = 2 := by kernel_rfl
theorem Try.cells27 : Try.prog.cellsOf 27 = 5 := by kernel_rfl
theorem Try.cells22 : Try.prog.cellsOf 22 = 1 := by kernel_rfl
theorem Try.cells23 : Try.prog.cellsOf 23 = 1 := by kernel_rfl
theorem Try.cells28 : Try.prog.cellsOf 28 = 1 := by kernel_rfl
theorem Try.cells55 : Try.prog.cellsOf 55 = 4 := by kernel_rfl
theorem Try.cells52 : Try.prog.cellsOf 52 = 1 := by kernel_rfl

theorem open_span {fuel : Nat} {c0 c1 : Value} {x : DataW H × List MemPlace} (h : DataW.trod enc Try.prog W base spare held fuel 25 [c0, c1] = some x) : ∃ lo hi : Int, c0 = .int .i64 lo ∧ c1 = .int .i64 hi := by
  obtain ⟨y0, y1, n, _, _, h0, h1⟩ := trod_struct2 Try.underlying25 h
  simp only [Try.cells3] at h0 h1
  obtain ⟨lo, e0, _, _⟩ := DataW.trod_int Try.underlying3 h0
  obtain ⟨hi, e1, _, _⟩ := DataW.trod_int Try.underlying3 h1
  exact ⟨lo, hi, by simpa using e0, by simpa using e1⟩
set_option maxRecDepth 100000 in
theorem open_prt {fuel : Nat} {cs : List Value} {x : DataW H × List MemPlace} (hl : cs.length = 3) (h : DataW.trod enc Try.prog W base spare held fuel 67 cs = some x) : ∃ c : Prt, cs = encPrt c ∧ c.name.size ≤ maxLen := by
  match cs, hl with
  | [c0, c1, c2], _ =>
    obtain ⟨y0, y1, n, _, _, h0, h1⟩ := trod_struct2 Try.underlying67 h
    simp only [Try.cells9, Try.cells25] at h0 h1
    obtain ⟨s, e0, _, hs⟩ := DataW.trod_string Try.underlying9 h0
    obtain ⟨lo, hi, e2, e3⟩ := open_span (c0 := c1) (c1 := c2) h1
    have e0' : c0 = .string s := by simpa using e0
    subst e0' e2 e3
    exact ⟨⟨s, lo, hi⟩, rfl, hs⟩
set_option maxRecDepth 100000 in
theorem open_wgh {fuel : Nat} {cs : List Value} {x : DataW H × List MemPlace} (hl : cs.length = 3) (h : DataW.trod enc Try.prog W base spare held fuel 82 cs = some x) : ∃ c : Wgh, cs = encWgh c := by
  match cs, hl with
  | [c0, c1, c2], _ =>
    obtain ⟨y0, y1, n, _, _, h0, h1⟩ := trod_struct2 Try.underlying82 h
    simp only [Try.cells3, Try.cells25] at h0 h1
    obtain ⟨s, e0, _, _⟩ := DataW.trod_int Try.underlying3 h0
    obtain ⟨lo, hi, e2, e3⟩ := open_span (c0 := c1) (c1 := c2) h1
    have e0' : c0 = .int .i64 s := by simpa using e0
    subst e0' e2 e3
    exact ⟨⟨s, lo, hi⟩, rfl⟩
set_option maxRecDepth 100000 in
theorem open_joint {fuel : Nat} {cs : List Value} {x : DataW H × List MemPlace} (hl : cs.length = 2) (h : DataW.trod enc Try.prog W base spare held fuel 79 cs = some x) : ∃ c : Int × Int, cs = encSp c := by
  match cs, hl with
  | [c0, c1], _ =>
    obtain ⟨xs, m, _, _, _, hl, hx⟩ := DataW.trod_array Try.underlying79 h
    match xs, hl with
    | [y0, y1], _ =>
      have h0 := hx 0 (by omega)
      have h1 := hx 1 (by omega)
      simp only [Try.cells3] at h0 h1
      obtain ⟨a, e0, _, _⟩ := DataW.trod_int Try.underlying3 (cs := [c0]) h0
      obtain ⟨b, e1, _, _⟩ := DataW.trod_int Try.underlying3 (cs := [c1]) h1
      have e0' : c0 = .int .i64 a := by simpa using e0
      have e1' : c1 = .int .i64 b := by simpa using e1
      subst e0' e1'
      exact ⟨(a, b), rfl⟩
set_option maxRecDepth 100000 in
theorem open_wghs {b0 : Nat} {v : Value} {d : DataW H} {p : List MemPlace} (hv : Value.okWide Try.prog W .any b0 28 v) (h : DataW.Trod enc Try.prog W base spare held 28 v d p) :
    ∃ (A : Option Addr) (l : List Wgh) (cap : Nat), v = .slice A l.length cap ∧ l.length ≤ cap ∧ cap ≤ maxLen ∧ RdN 3 encWgh W W.heap.size A l := by
  obtain ⟨fuel, hf⟩ := h
  obtain ⟨a0, len0, cap0, rfl⟩ := okWide_slice Try.underlying28 hv
  rcases open_slice Try.underlying28 hf with ⟨e, _⟩ | ⟨a, len, cap, m, n2, D, Pl, e, _, hlc, hcm, hm, _, hi2⟩
  · have e' : Value.slice a0 len0 cap0 = .slice none 0 0 := List.head_eq_of_cons_eq e
    rw [e']
    exact ⟨none, [], 0, rfl, Nat.zero_le _, Nat.zero_le _, RdN.nil⟩
  · have e' : Value.slice a0 len0 cap0 = .slice (some a) len cap := List.head_eq_of_cons_eq e
    rw [e']
    have hlm : len ≤ m := by rw [hm]; split <;> omega
    obtain ⟨xs, hxl, _, hR⟩ := row_of_cells (W := W) (a := a) (len := len) encWgh_len (by decide) (fun _ => True) (fun i hil => by
      obtain ⟨cs', hc, ht'⟩ := hi2 i (by omega)
      rw [Try.cells82] at hc
      obtain ⟨_, hcl, hat⟩ := World.cells?_some hc
      obtain ⟨c, rfl⟩ := open_wgh hcl ht'
      refine ⟨c, trivial, fun j u hu => ?_⟩
      have hj : j < 3 := (List.getElem?_eq_some_iff.1 hu).1
      rw [← Go.Deep.add_add, hat j hj, hu])
    exact ⟨some a, xs, cap, by rw [hxl], by omega, hcm, hR⟩
set_option maxRecDepth 100000 in
theorem open_hul {b0 : Nat} {v : Value} {d : DataW H} {p : List MemPlace} (hv : Value.okWide Try.prog W .any b0 27 v) (h : DataW.Trod enc Try.prog W base spare held 27 v d p) :
    ∃ (hul : Hul) (A : Option Addr) (cap : Nat) (J : Option Addr) (capJ : Nat), v = Go.Proofs.Ytojgdallodmanaa.hv hul A cap J capJ ∧ HulRd W W.heap.size hul A cap J capJ := by
  obtain ⟨arr, rfl, hsz⟩ := okWide_struct Try.underlying27 hv
  obtain ⟨l⟩ := arr
  replace hsz := hsz.trans Try.cells27
  match l, hsz with
  | [c0, c1, c2, c3, c4], _ =>
    obtain ⟨fuel, hf⟩ := h
    obtain ⟨y0, y1, y2, y3, n, _, _, h0, h1, h2, h3⟩ := Go.Joins.trod_struct4 Try.underlying27 hf
    simp only [Try.cells22, Try.cells23, Try.cells25, Try.cells3] at h0 h1 h2 h3
    obtain ⟨slo, shi, e2, e3⟩ := open_span (c0 := c2) (c1 := c3) h2
    obtain ⟨win, e4, _, _⟩ := DataW.trod_int Try.underlying3 (cs := [c4]) h3
    have e4' : c4 = .int .i64 win := by simpa using e4
    subst e2 e3 e4'
    obtain ⟨A, ps, cap, ea, hpl, hpm, hpn, hpR⟩ : ∃ (A : Option Addr) (ps : List Prt) (cap : Nat), c0 = .slice A ps.length cap ∧ ps.length ≤ cap ∧ cap ≤ maxLen ∧ (∀ x ∈ ps, x.name.size ≤ maxLen) ∧ RdN 3 encPrt W W.heap.size A ps := by
      rcases open_slice Try.underlying22 (cs := [c0]) h0 with ⟨e, _⟩ | ⟨a, len, cap, m, n2, D, Pl, e, _, hlc, hcm, hm, _, hi2⟩
      · exact ⟨none, [], 0, List.head_eq_of_cons_eq e, Nat.zero_le _, Nat.zero_le _, by intro x hx; simp at hx, RdN.nil⟩
      · have hlm : len ≤ m := by rw [hm]; split <;> omega
        obtain ⟨xs, hxl, hP, hR⟩ := row_of_cells (W := W) (a := a) (len := len) (k := 3) (encs := encPrt) (fun _ => rfl) (by decide) (fun c => c.name.size ≤ maxLen) (fun i hil => by
          obtain ⟨cs', hc, ht'⟩ := hi2 i (by omega)
          rw [Try.cells67] at hc
          obtain ⟨_, hcl, hat⟩ := World.cells?_some hc
          obtain ⟨c, rfl, hs⟩ := open_prt hcl ht'
          refine ⟨c, hs, fun j u hu => ?_⟩
          have hj : j < 3 := (List.getElem?_eq_some_iff.1 hu).1
          rw [← Go.Deep.add_add, hat j hj, hu])
        exact ⟨some a, xs, cap, by rw [hxl]; exact List.head_eq_of_cons_eq e, by omega, hcm, hP, hR⟩
    obtain ⟨J, js, capJ, ej, hjl, hjm, hjR⟩ : ∃ (J : Option Addr) (js : List (Int × Int)) (capJ : Nat), c1 = .slice J js.length capJ ∧ js.length ≤ capJ ∧ capJ ≤ maxLen ∧ RdN 2 encSp W W.heap.size J js := by
      rcases open_slice Try.underlying23 (cs := [c1]) h1 with ⟨e, _⟩ | ⟨a, len, cap, m, n2, D, Pl, e, _, hlc, hcm, hm, _, hi2⟩
      · exact ⟨none, [], 0, List.head_eq_of_cons_eq e, Nat.zero_le _, Nat.zero_le _, RdN.nil⟩
      · have hlm : len ≤ m := by rw [hm]; split <;> omega
        obtain ⟨xs, hxl, _, hR⟩ := row_of_cells (W := W) (a := a) (len := len) encSp_len (by decide) (fun _ => True) (fun i hil => by
          obtain ⟨cs', hc, ht'⟩ := hi2 i (by omega)
          rw [Try.cells79] at hc
          obtain ⟨_, hcl, hat⟩ := World.cells?_some hc
          obtain ⟨c, rfl⟩ := open_joint hcl ht'
          refine ⟨c, trivial, fun j u hu => ?_⟩
          have hj : j < 2 := (List.getElem?_eq_some_iff.1 hu).1
          rw [← Go.Deep.add_add, hat j hj, hu])
        exact ⟨some a, xs, cap, by rw [hxl]; exact List.head_eq_of_cons_eq e, by omega, hcm, hR⟩
    subst ea ej
    exact ⟨⟨ps, js, slo, shi, win⟩, A, cap, J, capJ, rfl, ⟨hpR, hjR, hpl, hpm, hjl, hjm, hpn⟩⟩
theorem u8_nat {fuel : Nat} {c : Value} {x : DataW H × List MemPlace} (h : DataW.trod enc Try.prog W base spare held fuel 5 [c] = some x) : ∃ n : Nat, c = .int .u8 n ∧ n ≤ 255 := by
  obtain ⟨n, e, _, hw⟩ := DataW.trod_int Try.underlying5 h
  simp [Lit.wf] at hw
  have e1 : IntKind.u8.min = 0 := by decide
  have e2 : IntKind.u8.max = 255 := by decide
  obtain ⟨m, rfl⟩ : ∃ m : Nat, n = m := ⟨n.toNat, by omega⟩
  exact ⟨m, by simpa using e, by omega⟩
theorem u32_nat {fuel : Nat} {c : Value} {x : DataW H × List MemPlace} (h : DataW.trod enc Try.prog W base spare held fuel 53 [c] = some x) : ∃ n : Nat, c = .int .u32 n ∧ n ≤ 4294967295 := by
  obtain ⟨n, e, _, hw⟩ := DataW.trod_int Try.underlying53 h
  simp [Lit.wf] at hw
  have e1 : IntKind.u32.min = 0 := by decide
  have e2 : IntKind.u32.max = 4294967295 := by decide
  obtain ⟨m, rfl⟩ : ∃ m : Nat, n = m := ⟨n.toNat, by omega⟩
  exact ⟨m, by simpa using e, by omega⟩
set_option maxRecDepth 100000 in
theorem open_turns {fuel : Nat} {c : Value} {x : DataW H × List MemPlace} (h : DataW.trod enc Try.prog W base spare held fuel 52 [c] = some x) :
    ∃ (U : Option Addr) (us : List Int) (cap : Nat), c = .slice U us.length cap ∧ U32s us ∧ Rd1 uv W W.heap.size U us := by
  rcases open_ints Try.underlying52 Try.underlying53 Try.cells53 h with ⟨e, _⟩ | ⟨a, len, cap, zs, e, _, hlc, hcm, hzl, _, hcell, hwf⟩
  · have e' : c = .slice none 0 0 := List.head_eq_of_cons_eq e
    rw [e']
    exact ⟨none, [], 0, rfl, ⟨Nat.zero_le _, by intro x hx; simp at hx⟩, Rd1.nil⟩
  · have e' : c = .slice (some a) len cap := List.head_eq_of_cons_eq e
    rw [e']
    have hlz : len ≤ zs.length := by rw [hzl]; split <;> omega
    have hl : (zs.take len).length = len := by rw [List.length_take]; omega
    refine ⟨some a, zs.take len, cap, by rw [hl], ⟨by rw [hl]; omega, fun x hx => ?_⟩, fun i x hx => ?_⟩
    · have := hwf x (List.mem_of_mem_take hx)
      simp [Lit.wf] at this
      have e1 : IntKind.u32.min = 0 := by decide
      have e2 : IntKind.u32.max = 4294967295 := by decide
      omega
    · have hil : i < len := by have := (List.getElem?_eq_some_iff.1 hx).1; omega
      rw [List.getElem?_take, if_pos hil] at hx
      have hc := hcell i (by omega)
      have hg : zs.getD i 0 = x := by rw [List.getD_eq_getElem?_getD, hx]; rfl
      rw [hg] at hc
      have ha : a = ⟨a.block, a.off, none⟩ := by
        have h0 := hcell 0 (by omega)
        simpa [Addr.add] using spot_none h0
      rw [ha, addr_add] at hc
      exact ⟨a.block, a.off, by rw [← ha], lt_of_cell hc, hc⟩
set_option maxRecDepth 100000 in
theorem open_past {b0 : Nat} {v : Value} {d : DataW H} {p : List MemPlace} (hv : Value.okWide Try.prog W .any b0 55 v) (h : DataW.Trod enc Try.prog W base spare held 55 v d p) :
    ∃ (AX : Option Addr) (xs : List Int) (capX : Nat) (AR : Option Addr) (rs : List Int) (capR sand blk : Nat), v = pastV AX xs capX AR rs capR sand blk ∧ PastRd W W.heap.size AX xs AR rs sand blk := by
  obtain ⟨arr, rfl, hsz⟩ := okWide_struct Try.underlying55 hv
  obtain ⟨l⟩ := arr
  replace hsz := hsz.trans Try.cells55
  match l, hsz with
  | [c0, c1, c2, c3], _ =>
    obtain ⟨fuel, hf⟩ := h
    obtain ⟨y0, y1, y2, y3, n, _, _, h0, h1, h2, h3⟩ := Go.Joins.trod_struct4 Try.underlying55 hf
    simp only [Try.cells52, Try.cells53, Try.cells5] at h0 h1 h2 h3
    obtain ⟨AX, xs, capX, rfl, hxu, hX⟩ := open_turns (c := c0) h0
    obtain ⟨AR, rs, capR, rfl, hru, hR⟩ := open_turns (c := c1) h1
    obtain ⟨sand, rfl, hs⟩ := u32_nat (c := c2) h2
    obtain ⟨blk, rfl, hb⟩ := u8_nat (c := c3) h3
    exact ⟨AX, xs, capX, AR, rs, capR, sand, blk, rfl, ⟨hX, hR, hxu, hru, by omega, by omega⟩⟩
end
theorem Try.laidOut : laidOutB Try.prog = true := by kernel_rfl
end Go.Proofs.Ytojgdallodmanaa

namespace Go.Proofs.Ytojgdallodmanaa
open Go.RowKit Go.ChangeShapes Go.WideShapes Go.Deep
section
variable {H : Type} {enc : TypeId × Value → H} {W : World} {base : Nat} {spare : Nat → Bool} {held : Bool}
theorem Try.cells63 : Try.prog.cellsOf 63 = 1 := by kernel_rfl
theorem Try.cells64 : Try.prog.cellsOf 64 = 2 := by kernel_rfl
theorem Try.cells86 : Try.prog.cellsOf 86 = 3 := by kernel_rfl
theorem Try.cells84 : Try.prog.cellsOf 84 = 4 := by kernel_rfl
theorem u16_nat {fuel : Nat} {c : Value} {x : DataW H × List MemPlace} (h : DataW.trod enc Try.prog W base spare held fuel 63 [c] = some x) : ∃ n : Nat, c = .int .u16 n ∧ n < 65536 := by
  obtain ⟨n, e, _, hw⟩ := DataW.trod_int Try.underlying63 h
  simp [Lit.wf] at hw
  have e1 : IntKind.u16.min = 0 := by decide
  have e2 : IntKind.u16.max = 65535 := by decide
  obtain ⟨m, rfl⟩ : ∃ m : Nat, n = m := ⟨n.toNat, by omega⟩
  exact ⟨m, by simpa using e, by omega⟩
set_option maxRecDepth 100000 in
theorem open_u8 {b0 : Nat} {v : Value} {d : DataW H} {p : List MemPlace} (hv : Value.okWide Try.prog W .any b0 5 v) (h : DataW.Trod enc Try.prog W base spare held 5 v d p) : ∃ n : Nat, v = .int .u8 n ∧ n ≤ 255 := by
  obtain ⟨n, rfl⟩ := okWide_int Try.underlying5 hv
  obtain ⟨fuel, hf⟩ := h
  exact u8_nat hf
set_option maxRecDepth 100000 in
theorem okWide_arr {b0 : Nat} {v : Value} {t e : TypeId} {n : Nat} (ht : Try.prog.underlying t = some (.array n e)) (h : Value.okWide Try.prog W .any b0 t v) : ∃ cs, v = .agg cs ∧ cs.size = Try.prog.cellsOf t := by
  simp only [Value.okWide, ht] at h
  obtain ⟨cs, h1, h2, _⟩ := h
  exact ⟨cs, h1, h2⟩
set_option maxRecDepth 100000 in
theorem open_two16 {b0 : Nat} {v : Value} {d : DataW H} {p : List MemPlace} (hv : Value.okWide Try.prog W .any b0 64 v) (h : DataW.Trod enc Try.prog W base spare held 64 v d p) : ∃ n m : Nat, v = .agg #[.int .u16 n, .int .u16 m] ∧ n < 65536 ∧ m < 65536 := by
  obtain ⟨arr, rfl, hsz⟩ := okWide_arr Try.underlying64 hv
  obtain ⟨l⟩ := arr
  replace hsz := hsz.trans Try.cells64
  match l, hsz with
  | [c0, c1], _ =>
    obtain ⟨fuel, hf⟩ := h
    obtain ⟨xs, m, _, _, _, hl, hx⟩ := DataW.trod_array Try.underlying64 hf
    match xs, hl with
    | [y0, y1], _ =>
      have h0 := hx 0 (by omega)
      have h1 := hx 1 (by omega)
      simp only [Try.cells63] at h0 h1
      obtain ⟨a, rfl, ha⟩ := u16_nat (c := c0) h0
      obtain ⟨b, rfl, hb⟩ := u16_nat (c := c1) h1
      exact ⟨a, b, rfl, ha, hb⟩
set_option maxRecDepth 100000 in
theorem open_three32 {b0 : Nat} {v : Value} {d : DataW H} {p : List MemPlace} (hv : Value.okWide Try.prog W .any b0 86 v) (h : DataW.Trod enc Try.prog W base spare held 86 v d p) : ∃ n m k : Nat, v = .agg #[.int .u32 n, .int .u32 m, .int .u32 k] ∧ n ≤ 4294967295 ∧ m ≤ 4294967295 ∧ k ≤ 4294967295 := by
  obtain ⟨arr, rfl, hsz⟩ := okWide_arr Try.underlying86 hv
  obtain ⟨l⟩ := arr
  replace hsz := hsz.trans Try.cells86
  match l, hsz with
  | [c0, c1, c2], _ =>
    obtain ⟨fuel, hf⟩ := h
    obtain ⟨xs, m, _, _, _, hl, hx⟩ := DataW.trod_array Try.underlying86 hf
    match xs, hl with
    | [y0, y1, y2], _ =>
      have h0 := hx 0 (by omega)
      have h1 := hx 1 (by omega)
      have h2 := hx 2 (by omega)
      simp only [Try.cells53] at h0 h1 h2
      obtain ⟨a, rfl, ha⟩ := u32_nat (c := c0) h0
      obtain ⟨b, rfl, hb⟩ := u32_nat (c := c1) h1
      obtain ⟨k, rfl, hk⟩ := u32_nat (c := c2) h2
      exact ⟨a, b, k, rfl, ha, hb, hk⟩
set_option maxRecDepth 100000 in
/-- A list of numbers. -/
theorem open_ints40 {b0 : Nat} {v : Value} {d : DataW H} {p : List MemPlace} (hv : Value.okWide Try.prog W .any b0 40 v) (h : DataW.Trod enc Try.prog W base spare held 40 v d p) :
    ∃ (A : Option Addr) (ns : List Int) (cap : Nat), v = .slice A ns.length cap ∧ ns.length ≤ cap ∧ cap ≤ maxLen ∧ Rd1 iv W W.heap.size A ns := by
  obtain ⟨fuel, hf⟩ := h
  obtain ⟨a0, len0, cap0, rfl⟩ := okWide_slice Try.underlying40 hv
  rcases open_ints Try.underlying40 Try.underlying3 Try.cells3 hf with ⟨e, _⟩ | ⟨a, len, cap, zs, e, _, hlc, hcm, hzl, _, hcell, hwf⟩
  · have e' : Value.slice a0 len0 cap0 = .slice none 0 0 := List.head_eq_of_cons_eq e
    rw [e']
    exact ⟨none, [], 0, rfl, Nat.zero_le _, Nat.zero_le _, Rd1.nil⟩
  · have e' : Value.slice a0 len0 cap0 = .slice (some a) len cap := List.head_eq_of_cons_eq e
    rw [e']
    have hlz : len ≤ zs.length := by rw [hzl]; split <;> omega
    have hl : (zs.take len).length = len := by rw [List.length_take]; omega
    refine ⟨some a, zs.take len, cap, by rw [hl], by rw [hl]; omega, hcm, fun i x hx => ?_⟩
    have hil : i < len := by have := (List.getElem?_eq_some_iff.1 hx).1; omega
    rw [List.getElem?_take, if_pos hil] at hx
    have hc := hcell i (by omega)
    have hg : zs.getD i 0 = x := by rw [List.getD_eq_getElem?_getD, hx]; rfl
    rw [hg] at hc
    have ha : a = ⟨a.block, a.off, none⟩ := by
      have h0 := hcell 0 (by omega)
      simpa [Addr.add] using spot_none h0
    rw [ha, addr_add] at hc
    exact ⟨a.block, a.off, by rw [← ha], lt_of_cell hc, hc⟩
set_option maxRecDepth 100000 in
theorem open_further {b0 : Nat} {v : Value} {d : DataW H} {p : List MemPlace} (hv : Value.okWide Try.prog W .any b0 84 v) (h : DataW.Trod enc Try.prog W base spare held 84 v d p) :
    ∃ (x : Wgh) (blk : Nat), v = .agg #[iv x.set, iv x.lo, iv x.hi, .int .u8 blk] ∧ blk < 256 := by
  obtain ⟨arr, rfl, hsz⟩ := okWide_struct Try.underlying84 hv
  obtain ⟨l⟩ := arr
  replace hsz := hsz.trans Try.cells84
  match l, hsz with
  | [c0, c1, c2, c3], _ =>
    obtain ⟨fuel, hf⟩ := h
    obtain ⟨y0, y1, n, _, _, h0, h1⟩ := trod_struct2 Try.underlying84 hf
    simp only [Try.cells82, Try.cells5] at h0 h1
    obtain ⟨x, hx⟩ := open_wgh (cs := [c0, c1, c2]) rfl h0
    obtain ⟨blk, rfl, hb⟩ := u8_nat (c := c3) h1
    simp only [encWgh, List.cons.injEq, and_true] at hx
    obtain ⟨rfl, rfl, rfl⟩ := hx
    exact ⟨x, blk, rfl, by omega⟩
end
end Go.Proofs.Ytojgdallodmanaa
