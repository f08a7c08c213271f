/- The contract of (claim.ship).owner. -/
import Derived.Test.YtblbbhenmhkknaaYShelf
import Derived.Test.YtblbbhenmhkknaaZ9a350c
namespace Go.Proofs.Ytblbbhenmhkknaa
open Go.RowKit Go.Sort

/-- Whether a number is in a list. -/
def memB (l : List Nat) (x : Nat) : Bool := l.contains x
theorem contains_any (A : Option Addr) (l : List Nat) (B cap : Nat) (x : Nat) (w : World) (hm : l.length ≤ 1000) (hR : Rd1 nv w B A l) :
    Calls Try.prog 98 #[.slice A l.length cap, .int .i64 x] w fun e w' => e = .returned (.bool (memB l x)) ∧ w = w' := by
  rcases Nat.eq_zero_or_pos l.length with h0 | h0
  · have : l = [] := List.length_eq_zero_iff.1 h0
    subst this
    refine (Go.Proofs.Try.slices_Contains_int_empty A cap x w).mono ?_
    rintro e w' ⟨rfl, rfl⟩
    exact ⟨by simp [memB], rfl⟩
  · obtain ⟨b, off, rfl, _, _⟩ := hR 0 _ (List.getElem?_eq_getElem h0)
    refine (Go.Proofs.Try.slices_Contains_int b off l.length cap (l.map fun (n : Nat) => (n : Int)) x w (by simp) (by omega) ?_).mono ?_
    · intro j hj
      have hj' : j < l.length := by simpa using hj
      obtain ⟨b', off', e, _, hc⟩ := hR j _ (List.getElem?_eq_getElem hj')
      injection e with e
      injection e with e1 e2
      subst e1 e2
      rw [hc]
      simp [hj']
    · rintro e w' ⟨rfl, rfl⟩
      refine ⟨ret_bool ?_, rfl⟩
      unfold memB
      rw [List.take_of_length_le (by simp), Bool.eq_iff_iff]
      simp only [List.contains_iff_mem, List.mem_map]
      constructor
      · rintro ⟨a, ha, e⟩
        obtain rfl : a = x := by omega
        exact ha
      · intro h
        exact ⟨x, h, rfl⟩

theorem grownSA (w : World) (c : Nat) (u : Value) (ob : Obj) : w.grownBy ((w.setCell ⟨c, 0, none⟩ u).alloc ob) (some c) :=
  ⟨rfl, rfl, rfl, by simp [World.setCell], fun k hk hne => by
    rw [Below.heap_alloc _ _ _ (by simpa [World.setCell] using hk), Below.heap_setCell _ _ _ _ (fun e => hne (by rw [e]))]⟩

/-- The owner behind one paper. -/
def stepO (own : ByteArray) (p : Pap) : ByteArray := if p.src.toList == own.toList then p.dst else own
theorem follow_any (day : Int) (src dst own : ByteArray) (c : Nat) (w : World) (hc : w.cell? ⟨c, 0, none⟩ = some (.string own)) (hf : w.frozen? ⟨c, 0, none⟩ = false) :
    Calls Try.prog 97 #[.agg #[.int .i64 day, .string src, .string dst], .pointer (some ⟨c, 0, none⟩)] w fun e w' =>
      e = .returned (.tuple #[]) ∧ w'.cell? ⟨c, 0, none⟩ = some (.string (stepO own ⟨day, src, dst⟩)) ∧ w'.frozen? ⟨c, 0, none⟩ = false ∧ w.grownBy w' (some c) := by
  have hlt := lt_of_cell hc
  have hfa := (keepAF hlt 0 (.cells #[.int .i64 day, .string src, .string dst] 72)).trans hf
  have hca := keepA hc (.cells #[.int .i64 day, .string src, .string dst] 72)
  have hg : w.grownBy (w.alloc (.cells #[.int .i64 day, .string src, .string dst] 72)) (some c) := World.grownBy_alloc _ _ _
  cases he : (src.toList == own.toList)
  · have hs : stepO own ⟨day, src, dst⟩ = own := by simp only [stepO, he]; rfl
    have HS := Lib.hid hs
    have HG := Lib.hid hg
    clear hs hg
    go_enter Try.func97, Try.ntmps97
    go_wp2
    go_end0
    exact ⟨rfl, by rw [HS.out]; exact hca, hfa, HG.out⟩
  · have hs : stepO own ⟨day, src, dst⟩ = dst := by simp only [stepO, he]; rfl
    have HS := Lib.hid hs
    have HG := Lib.hid hg
    clear hs hg
    go_enter Try.func97, Try.ntmps97
    go_wp2
    go_end0
    refine ⟨rfl, ?_, ?_, ?_⟩
    · rw [HS.out]; go_simp
    · go_simp
    · exact grownSA _ _ _ _

/-- The owner, if some papers are forged: the papers in their order, but for those. -/
def ownerL (first : ByteArray) (ps : List Pap) (o fl : List Nat) : ByteArray :=
  o.foldl (fun own i => if memB fl i then own else match ps[i]? with | some p => stepO own p | none => own) first
theorem ownerL_snoc (first : ByteArray) (ps : List Pap) (o fl : List Nat) (k : Nat) (x : Nat) (hx : o[k]? = some x) :
    ownerL first ps (o.take (k + 1)) fl = (if memB fl x then ownerL first ps (o.take k) fl else match ps[x]? with | some p => stepO (ownerL first ps (o.take k) fl) p | none => ownerL first ps (o.take k) fl) := by
  unfold ownerL
  obtain ⟨h, rfl⟩ := List.getElem?_eq_some_iff.1 hx
  rw [List.take_succ_eq_append_getElem h, List.foldl_append]
  rfl

set_option maxRecDepth 100000 in
set_option maxHeartbeats 1000000 in
theorem owner_any (first : ByteArray) (A A' F : Option Addr) (ps : List Pap) (o fl : List Nat) (B cap capO capF : Nat) (forged : Int) (w : World) (hlo : o.length ≤ 8) (hlf : fl.length ≤ 1000) (hor : ∀ x ∈ o, x < ps.length)
    (hR : RdN 3 encPap w B A ps) (hO : Rd1 nv w B A' o) (hF : Rd1 nv w B F fl) (hB : B ≤ w.heap.size) :
    Calls Try.prog 60 #[.agg #[.string first, .slice A ps.length cap, .int .i64 forged, .slice A' o.length capO], .slice F fl.length capF] w fun e w' => e = .returned (.string (ownerL first ps o fl)) ∧ Below w.heap.size w w' := by
  go_enter Try.func60, Try.ntmps60
  go_wp2
  obtain ⟨W0, hW0⟩ : ∃ W0, (w.alloc (.cells #[.string first, .slice A ps.length cap, .int .i64 forged, .slice A' o.length capO] 96)).alloc (.cells #[.string first] 9) = W0 := ⟨_, rfl⟩
  have q1 : W0.cell? ⟨w.heap.size, 1, none⟩ = some (.slice A ps.length cap) := by rw [← hW0]; clear hW0; go_simp
  have q2 : W0.cell? ⟨w.heap.size + 1, 0, none⟩ = some (.string (ownerL first ps (o.take 0) fl)) := by rw [← hW0]; clear hW0; simp only [ownerL, List.take_zero, List.foldl_nil]; go_simp
  have q3 : W0.frozen? ⟨w.heap.size + 1, 0, none⟩ = false := by rw [← hW0]; clear hW0; go_simp
  have q4 : Below w.heap.size w W0 := by rw [← hW0]; exact belowA (belowA (belowR _) _) _
  rw [hW0]
  clear hW0
  go_loopw [16] (fun i wr => ∃ k : Nat, k ≤ o.length ∧ i = .int .i64 k ∧ wr.cell? ⟨w.heap.size, 1, none⟩ = some (.slice A ps.length cap) ∧ wr.cell? ⟨w.heap.size + 1, 0, none⟩ = some (.string (ownerL first ps (o.take k) fl)) ∧ wr.frozen? ⟨w.heap.size + 1, 0, none⟩ = false ∧ Below w.heap.size w wr) (fun i _ => o.length - (intOf i).toNat)
  case atStart => exact ⟨0, Nat.zero_le _, rfl, q1, q2, q3, q4⟩
  case round =>
    clear q1 q2 q3 q4 W0
    obtain ⟨k, hk, rfl, q1, q2, q3, hbw⟩ := hrel
    have hzw := hbw.size
    obtain ⟨own, hown⟩ : ∃ own, ownerL first ps (o.take k) fl = own := ⟨_, rfl⟩
    rw [hown] at q2
    have HOWN := Lib.hid hown
    clear hown
    by_cases hlt : k < o.length
    · obtain ⟨x, hx⟩ : ∃ x, o[k]? = some x := ⟨_, List.getElem?_eq_getElem hlt⟩
      obtain ⟨b', off', rfl, _, d0⟩ := (hO.below hbw hB) k x hx
      have hxl := hor x (List.mem_of_getElem? hx)
      have hsn := ownerL_snoc first ps o fl k x hx
      have HSN := Lib.hid hsn
      have HX := Lib.hid hx
      have HOR := Lib.hid hor
      obtain ⟨p, hp⟩ : ∃ p, ps[x]? = some p := ⟨_, List.getElem?_eq_getElem hxl⟩
      obtain ⟨b, off, rfl, _, c0, c1, c2⟩ := papAt (hR.below hbw hB) hp
      have HP := Lib.hid hp
      obtain ⟨day, src, dst⟩ := p
      simp only at c0 c1 c2
      have hxz : (x : Int) < (ps.length : Int) := by omega
      clear hsn hx hor hp
      cases hcf : memB fl x
      · have HCF := Lib.hid hcf
        go_wp2_with (first | (go_at_call 98; refine (contains_any _ fl B capF x _ hlf (hF.below hbw hB)).mono ?_; rintro e w' ⟨rfl, rfl⟩) | (go_at_call 97; refine (follow_any day src dst own (w.heap.size + 1) _ q2 q3).mono ?_; rintro e w3 ⟨rfl, k1, k2, k3⟩))
        go_roundw
        case rel =>
          refine ⟨k + 1, by omega, by go_num, k3.cell q1 (by simp), ?_, k2, hbw.grown k3 hbw.size (fun j e => by injection e with e; omega)⟩
          rw [HSN.out, HCF.out, HP.out, HOWN.out]
          exact k1
        case measure => simp [intOf]; omega
      · have HCF := Lib.hid hcf
        go_wp2_with (first | (go_at_call 98; refine (contains_any _ fl B capF x _ hlf (hF.below hbw hB)).mono ?_; rintro e w' ⟨rfl, rfl⟩))
        go_roundw
        case rel =>
          refine ⟨k + 1, by omega, by go_num, q1, ?_, q3, hbw⟩
          rw [HSN.out, HCF.out, HOWN.out]
          exact q2
        case measure => simp [intOf]; omega
    · go_wp2
      go_ret
      obtain rfl : k = o.length := by omega
      refine ⟨?_, hbw⟩
      have := HOWN.out
      rw [List.take_length] at this
      rw [this]
      rfl
end Go.Proofs.Ytblbbhenmhkknaa
