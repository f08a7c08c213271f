/- claim.Owners. -/
import Derived.StringKeys
import Derived.Maps.OwnIn
import Derived.Sort.KeysCollected
import Derived.Sort.OwnSorted
import Derived.Test.YtblbbhenmhkknaaZ6532e4
namespace Go.Proofs.Ytblbbhenmhkknaa
open Go.RowKit Go.Shelf Go.Maps Go.Sort
attribute [local go_sem] Oper.semAt_some

theorem law9 : Keyed Try.prog 9 := string_keyed Try.underlying9
theorem Try.info9 : (Try.prog.info? 9).map (fun i => (i.zero, i.size, i.bytes)) = some (some (.string ⟨#[]⟩), 1, 16) := by kernel_rfl

theorem wrapI_wf (c : Int) : (Lit.int .i64 (IntKind.i64.wrap c)).wf = true := by
  have h : IntKind.i64.wrap c = wrap64 c := by rw [IntKind.wrap_i64]; unfold wrap64; rfl
  rw [h]; exact wrap64_wf c
/-- The bytes of a name, as the sort sees them. -/
def bs (s : ByteArray) : List UInt8 := s.data.toList
/-- Whether x is the owner under one of the sets gone through. -/
def Seen (first : ByteArray) (ps : List Pap) (o : List Nat) (pre : List (List Nat)) (x : List UInt8) : Prop := ∃ s ∈ pre, bs (ownerL first ps o s) = x

set_option maxRecDepth 100000 in
set_option maxHeartbeats 2000000 in
theorem owners_no (first : ByteArray) (A : Option Addr) (ps : List Pap) (B cap : Nat) (forged day : Int) (w : World) (hf : first.size ≤ maxLen) (hm : ps.length ≤ maxLen) (hok : PapsOk ps) (hR : RdN 3 encPap w B A ps) (hB : B ≤ w.heap.size)
    (hE : openE first ps forged day ≠ 0) :
    Calls Try.prog 19 #[.agg #[.string first, .slice A ps.length cap, .int .i64 forged], .int .i64 day] w fun e w' => e = .returned (.tuple #[.slice none 0 0, iv (openE first ps forged day)]) ∧ Below w.heap.size w w' := by
  obtain ⟨E, hEE⟩ : ∃ E, openE first ps forged day = E := ⟨_, rfl⟩
  have hop := fun w (hR : RdN 3 encPap w B A ps) (hB : B ≤ w.heap.size) => open_no first A ps B cap forged day w hf hm hok hR hB hE
  rw [hEE] at hE hop ⊢
  have hne : (E != 0) = true := by simpa using hE
  have HOP := Lib.hid hop
  clear hop hEE hE
  go_enter Try.func19, Try.ntmps19
  go_wp2_with fail
  refine (HOP.out _ (hR.below (B' := w.heap.size) (belowA (belowR _) _) hB) (by simp; omega)).mono ?_
  rintro e w1 ⟨rfl, hb⟩
  have hB1 := belowT (belowA (belowR _) _) hb
  go_wp2
  refine bodyPost_ret (results_tmp2 rfl _ _ _) rfl ?_
  exact ⟨rfl, belowA hB1 _⟩

/-- What stands between the rounds. -/
def OwI {H : Type} (first : ByteArray) (ps : List Pap) (o : List Nat) (ship : Array Value) (w w1 : World) (pre : List (List Nat)) (W : World) : Prop :=
  Below w.heap.size w W ∧ Below w1.heap.size w1 W ∧ Blk W w1.heap.size 96 ship ∧ Blk W (w1.heap.size + 1 + 1) 99 #[.map (some (w1.heap.size + 1))] ∧
    ∃ n D, W.ownsMap (H := H) Try.prog 9 (plainElem Try.prog 3) (w1.heap.size + 1) n D ∧ n ≤ pre.length ∧ ∀ x, Maps.has D (.string x) = true ↔ Seen first ps o pre x

theorem ownsMap_same {H : Type} {P : Program} {k : TypeId} {R : Value → Option (DataW H × List MemPlace)} {w w' : World} {b n : Nat} {D : DataW H} (h : w.ownsMap P k R b n D) (hs : w'.heap[b]? = w.heap[b]?) : w'.ownsMap P k R b n D := by
  obtain ⟨es, clock, hb, r⟩ := h
  exact ⟨es, clock, hs.trans hb, r⟩
theorem OwI.below {H : Type} {first : ByteArray} {ps : List Pap} {o : List Nat} {ship : Array Value} {w w1 : World} {pre : List (List Nat)} {W X : World} (h : OwI (H := H) first ps o ship w w1 pre W) {B : Nat} (hb : Below B W X) (hB : w1.heap.size + 3 ≤ B) (hw : w.heap.size ≤ w1.heap.size) : OwI (H := H) first ps o ship w w1 pre X := by
  obtain ⟨h1, h2, h3, h4, n, D, h5, h6⟩ := h
  exact ⟨h1.trans (hb.mono (by omega)), h2.trans (hb.mono (by omega)), h3.same (hb.block _ (by omega)), h4.same (hb.block _ (by omega)), n, D, ownsMap_same h5 (hb.block _ (by omega)), h6⟩

def OwnersPost (first : ByteArray) (ps : List Pap) (f : Nat) (day : Int) (w : World) (e : Ending) (w' : World) : Prop :=
  Below w.heap.size w w' ∧ ∃ o os A cap, IsOrder ps day o ∧ e = .returned (.tuple #[.slice A os.length cap, iv 0]) ∧ Rd1 encStr w' w'.heap.size A os ∧ os.Pairwise (· < ·) ∧
    (∀ x, x ∈ os ↔ Seen first ps o (setsTo ps.length (min f ps.length + 1)) x) ∧ ∀ x ∈ os, x.length ≤ maxLen

set_option maxRecDepth 100000 in
set_option maxHeartbeats 4000000 in
theorem owners_yes (first : ByteArray) (A : Option Addr) (ps : List Pap) (B cap : Nat) (f : Nat) (day : Int) (w : World) (hf : first.size ≤ maxLen) (hm : ps.length ≤ maxLen) (hok : PapsOk ps) (hR : RdN 3 encPap w B A ps) (hB : B ≤ w.heap.size)
    (hE : openE first ps f day = 0) (hf8 : f ≤ 8) (hp8 : ps.length ≤ 8) :
    Calls Try.prog 19 #[.agg #[.string first, .slice A ps.length cap, .int .i64 f], .int .i64 day] w (OwnersPost first ps f day w) := by
  have hop := fun w (hR : RdN 3 encPap w B A ps) (hB : B ≤ w.heap.size) => open_yes first A ps B cap f day w hf hm hok hR hB hE
  have hos : ∀ o s, (ownerL first ps o s).size ≤ maxLen := ownerL_size hf hok
  have HOS := Lib.hid hos
  have HOP := Lib.hid hop
  clear hop hE hos
  have hmm := @run_makeMap Try.prog
  refine (callsIn_wide (n := 0)).1 ?_
  refine callsIn_of_wp_marks Try.func19 rfl trivial ?_ rfl
  simp only [Try.ntmps19, List.size_toArray, List.length_cons, List.length_nil, Nat.reduceAdd, Nat.reduceSub, Array.replicate_succ, Array.replicate_zero, List.push_toArray, List.append_toArray, List.nil_append, List.cons_append]
  gi_wp2_with fail
  refine ⟨trivial, rfl, (callsIn_wide.2 (HOP.out _ (hR.below (B' := w.heap.size) (belowA (belowR _) _) hB) (by simp; omega))).mono ?_⟩
  rintro e w1 ⟨A', capO, o, hord, rfl, hO, hb⟩
  have hB1 := belowT (belowA (belowR _) _) hb
  have z1 : w.heap.size ≤ w1.heap.size := hB1.size
  have HORD := Lib.hid hord
  have HB1 := Lib.hid hB1
  have HO := Lib.hid hO
  have HX : Hid (RdN 3 encPap w B A ps ∧ B ≤ w.heap.size) := Lib.hid ⟨hR, hB⟩
  have hoid : ∀ x ∈ o, x < ps.length := fun x hx => ((HORD.out.mem x).1 hx).1
  have hol : o.length ≤ 8 := Nat.le_trans HORD.out.len hp8
  clear hord hB1 hO hb HOP hf hm hok
  gi_wp2_with fail
  refine ⟨trivial, rfl, (callsIn_wide.2 (sets_any first A A' ps.length cap o.length capO f _)).mono ?_⟩
  rintro e w2 ⟨rfl, rfl⟩
  gi_wp2
  obtain ⟨W0, hW0⟩ : ∃ W0, ((((w1.alloc (.cells #[.string first, .slice A ps.length cap, .int .i64 f, .slice A' o.length capO] 96)).alloc (.map #[] 0)).alloc (.cells #[.map (some (w1.heap.size + 1))] 99)).alloc
      (.cells #[.string first, .slice A ps.length cap, .int .i64 f, .slice A' o.length capO] 96)) = W0 := ⟨_, rfl⟩
  have s0 : W0.heap.size = w1.heap.size + 4 := by rw [← hW0]; simp
  have hI0 : OwI (H := Unit) first ps o #[.string first, .slice A ps.length cap, .int .i64 f, .slice A' o.length capO] w w1 [] W0 := by
    rw [← hW0]
    refine ⟨belowA (belowA (belowA (belowA HB1.out _) _) _) _, belowA (belowA (belowA (belowA (belowR _) _) _) _) _, (((Blk.new w1 96 _).alloc _).alloc _).alloc _, ?_, 0, .map [], ?_, Nat.le_refl _, fun x => ?_⟩
    · have := (Blk.new ((w1.alloc (.cells #[.string first, .slice A ps.length cap, .int .i64 f, .slice A' o.length capO] 96)).alloc (.map #[] 0)) 99 #[.map (some (w1.heap.size + 1))]).alloc (.cells #[.string first, .slice A ps.length cap, .int .i64 f, .slice A' o.length capO] 96)
      simpa using this
    · have := World.ownsMap_made (w1.alloc (.cells #[.string first, .slice A ps.length cap, .int .i64 f, .slice A' o.length capO] 96)) Try.prog 9 (plainElem (H := Unit) Try.prog 3)
      simp only [World.size_alloc] at this
      exact (this.alloc _).alloc _
    · simp [Maps.has, Seen]
  have hs0 : Blk W0 (w1.heap.size + 1 + 1 + 1) 96 #[.string first, .slice A ps.length cap, .int .i64 f, .slice A' o.length capO] := by
    rw [← hW0]
    have := Blk.new (((w1.alloc (.cells #[.string first, .slice A ps.length cap, .int .i64 f, .slice A' o.length capO] 96)).alloc (.map #[] 0)).alloc (.cells #[.map (some (w1.heap.size + 1))] 99)) 96 #[.string first, .slice A ps.length cap, .int .i64 f, .slice A' o.length capO]
    simpa using this
  rw [hW0]
  clear hW0 hmm
  have hsl0 := setsTo_len ps.length (min f ps.length + 1) hp8 (by omega)
  refine rangeFunc_sets _ (w1.heap.size + 1 + 1 + 1) ps.length f first A cap (.slice A' o.length capO) rfl hs0 hp8 hf8 (OwI (H := Unit) first ps o #[.string first, .slice A ps.length cap, .int .i64 f, .slice A' o.length capO] w w1) (fun _ _ => False) (fun pre X Y h hb => h.below hb (by omega) z1) (fun _ _ _ _ _ h _ => h) hI0 ?_ ?_ (fun _ _ _ h _ _ => h.elim)
  · intro m l pre s v W hI hH hpre hbw hsb
    gi_wp2
    refine ⟨trivial, ?_⟩
    clear hI hH hsb hbw W
    intro W hI hH hbw hsb
    obtain ⟨S, capS, rfl, hS⟩ := hH
    have hsl : s.length ≤ 1000 := by
      have hmem := hpre.subset (List.mem_append_right pre (List.mem_singleton.2 rfl))
      rw [mem_setsTo] at hmem
      omega
    have hmx : Try.prog.follows .mixedOrders = true := by kernel_rfl
    obtain ⟨h1, h2, b0, b7, n, D, hown, hn, hhas⟩ := hI
    have hnm : n < maxLen := by
      have := hpre.length_le
      simp only [List.length_append, List.length_singleton] at this
      unfold maxLen
      omega
    have c0 : W.drew.cell? ⟨w1.heap.size, 0, none⟩ = some (.string first) := b0.cell 0
    have c1 : W.drew.cell? ⟨w1.heap.size, 1, none⟩ = some (.slice A ps.length cap) := b0.cell 1
    have c2 : W.drew.cell? ⟨w1.heap.size, 2, none⟩ = some (.int .i64 f) := b0.cell 2
    have c3 : W.drew.cell? ⟨w1.heap.size, 3, none⟩ = some (.slice A' o.length capO) := b0.cell 3
    have c7 : W.drew.cell? ⟨w1.heap.size + 1 + 1, 0, none⟩ = some (.map (some (w1.heap.size + 1))) := b7.cell 0
    have hz0 := HX.out.2
    have HRW : Hid (RdN 3 encPap W.drew W.heap.size A ps) := Lib.hid ((HX.out.1.below h1 hz0).more (by have := h1.size; omega))
    have HOW : Hid (Rd1 nv W.drew W.heap.size A' o) := Lib.hid ((HO.out.below h2 (Nat.le_refl _)).more h2.size)
    have HSW : Hid (Rd1 nv W.drew W.heap.size S s) := Lib.hid hS
    have hkey := WideMaps.keyOf_string_mk (s := ownerL first ps o s) Try.underlying9 (HOS.out o s)
    clear hS
    gi_wp2
    gi_region_with_o (refine ⟨trivial, hdd _, (CallsIn.inRound l (callsIn_wide.2 (owner_any first A A' S ps o s W.heap.size cap capO capS f W.drew hol hsl hoid HRW.out HOW.out HSW.out (Nat.le_refl _)))).mono ?_⟩; rintro e w3 ⟨rfl, hb3⟩; have d0 := keepC hb3 c0; have d1 := keepC hb3 c1; have d2 := keepC hb3 c2; have d3 := keepC hb3 c3; have d7 := keepC hb3 c7; have hown3 := ownsMap_same hown ((undrew hb3).block _ hown.lt); obtain ⟨c, hrun, hat, hwc⟩ := hown3.lookup_int law9 Try.underlying99 Try.underlying3 (Try.zeroValue3 _) hkey; obtain ⟨w4, hupd, hown4, hg4⟩ := hown3.update law9 Try.underlying99 hnm hkey (plainElem_int (a := IntKind.i64.wrap (c + 1)) Try.underlying3 (wrapI_wf (c + 1))))
    all_goals gi_wp2
    all_goals
      obtain ⟨es, ck, hh, _⟩ := hown3
      have hb3' := undrew hb3
      have hK : KeepB W0.heap.size (w1.heap.size + 1 + 1 + 1) w3 w4 := ⟨hg4.size, fun k hk hlt => hg4.block k hlt (fun e => by injection e with e; omega)⟩
      refine ⟨(KeepB.of_below hb3').trans hK, ?_⟩
      have hz1 := h2.size
      have hz3 := hb3'.size
      refine ⟨(h1.trans (hb3'.mono h1.size)).grown hg4 (by omega) (fun j e => by injection e with e; omega), (h2.trans (hb3'.mono h2.size)).grown hg4 (by omega) (fun j e => by injection e with e; omega),
        (b0.same (hb3'.block _ b0.lt)).grown hg4 (fun e => by injection e with e; omega), (b7.same (hb3'.block _ b7.lt)).grown hg4 (fun e => by injection e with e; omega), n + 1, _, hown4, by simp; omega, fun x => ?_⟩
      have hmap : Maps.IsMap D := hown.keysOf.imp fun _ h => h.1
      by_cases hx : x = bs (ownerL first ps o s)
      · subst hx
        have := has_put_same (k := .string (bs (ownerL first ps o s))) hmap (by simp [WideAt.IsKeyLit]) (DataW.lit (Lit.int .i64 (IntKind.i64.wrap (c + 1))))
        exact ⟨fun _ => ⟨s, by simp, rfl⟩, fun _ => this⟩
      · have := has_put_other (D := D) (k' := .string x) (k := .string (bs (ownerL first ps o s))) (by simpa using hx) (DataW.lit (Lit.int .i64 (IntKind.i64.wrap (c + 1))))
        refine (show _ ↔ _ from by unfold bs at this; rw [this, hhas x]; exact ⟨fun ⟨t, ht, e⟩ => ⟨t, by simp [ht], e⟩, fun ⟨t, ht, e⟩ => ⟨t, (by
          rcases List.mem_append.1 ht with ht | ht
          · exact ht
          · rw [List.mem_singleton.1 ht] at e; exact absurd e.symm hx), e⟩⟩)
  · rintro W ⟨h1, h2, b0, b7, n, D, hown, hn, hhas⟩ hsz hD
    obtain ⟨i0, hi, hz0, hz1, hz2⟩ := info_parts Try.info9
    have hbl := hown.lt
    have hsize : Maps.size D ≤ 3486784401 := Nat.le_trans hown.size_le (Nat.le_trans hn hsl0)
    have c7 : W.cell? ⟨w1.heap.size + 1 + 1, 0, none⟩ = some (.map (some (w1.heap.size + 1))) := b7.cell 0
    have H1 := Lib.hid h1
    have HD := Lib.hid hD
    have HHAS := Lib.hid hhas
    have HW0 : Hid (W0.heap.size < W.heap.size) := Lib.hid (by omega)
    have hge : w.heap.size ≤ W0.heap.size := by omega
    clear h1 h2 b0 b7 hD hhas hI0 hs0 HO HB1 s0
    gi_wp2_with (first
      | (gi_at_range; refine wpListIn_range_own _ rfl _ 99 rfl 9 3 law9 Try.underlying99 _ (w1.heap.size + 1) n _ rfl hown ?_; intro w0 hrg0 hg0 hs0)
      | gi_in)
    go_frame
    gi_loopw [4] (fun v wr => ∃ (left : Lit → Bool) (cnt : Nat) (ss : List (List UInt8)), wr.ranges Try.prog 9 (plainElem Try.prog 3) (w1.heap.size + 1) W.heap.size n D left cnt ∧ ss.length + cnt ≤ Maps.size D ∧
        wr.ownsRow W.heap.size 9 1 v ss.length (ss.map encStr) ∧ Collected D left ss ∧ RowKit.Below W.heap.size W wr)
      (fun _ wr => wr.rangeLeft (w1.heap.size + 1) W.heap.size)
    case atStart =>
      exact ⟨_, _, [], hrg0, by simp, World.ownsRow_nil _ _ _ _, Collected.start D, (RowKit.Below.refl _ _).grown hg0 (Nat.le_refl _) (fun j hj => by cases hj)⟩
    case round =>
      obtain ⟨left, cnt, ss, hrg, hcs, hrow, hC, hnx⟩ := hrel
      gi_wp2_with (first
        | (gi_at_next; refine wpListIn_next_ranges _ rfl _ rfl 9 law9 (plainElem Try.prog 3) encStr (Value.int .i64) (fun key kl hk => by obtain ⟨x, hx, _⟩ := Maps.keyOf_str Try.underlying9 hk; exact ⟨x, hx⟩) (fun v y hv => by obtain ⟨c, rfl, _⟩ := plainElem_int_inv Try.underlying3 hv; exact ⟨c, rfl⟩) (w1.heap.size + 1) W.heap.size n _ _ _ rfl hrg ?_ ?_)
        | gi_in)
      · intro hc0 hl0
        have hperm := hC
        have hmem : ∀ x, x ∈ ss ↔ Seen first ps o (setsTo ps.length (min f ps.length + 1)) x := fun x => by
          rw [hC.2 x, hl0, ← HHAS.out x]; simp
        have hnd := hC.1
        have hlen : ∀ x ∈ ss, x.length ≤ maxLen := fun x hx => by
          obtain ⟨s, _, rfl⟩ := (hmem x).1 hx
          have := HOS.out o s
          simpa [bs] using this
        obtain ⟨os, hos⟩ : ∃ os, ss.mergeSort (fun x y => decide (x ≤ y)) = os := ⟨_, rfl⟩
        have tr : ∀ a b c : List UInt8, leB a b = true → leB b c = true → leB a c = true := fun a b c h1 h2 => by simp only [leB, decide_eq_true_eq] at *; exact List.le_trans h1 h2
        have to : ∀ a b : List UInt8, (leB a b || leB b a) = true := fun a b => by simp only [leB, Bool.or_eq_true, decide_eq_true_eq]; exact List.le_total a b
        have hpm : os.Perm ss := by rw [← hos]; exact List.mergeSort_perm ss _
        have hsorted : os.Pairwise (· < ·) := by
          have h3 : os.Pairwise (fun a b => leB a b = true) := by rw [← hos]; exact List.pairwise_mergeSort tr to ss
          have h4 : os.Pairwise (· ≠ ·) := hpm.symm.nodup hnd
          refine (h3.and h4).imp fun {a b} hab => ?_
          have := hab.1
          simp only [leB, decide_eq_true_eq] at this
          exact Std.lt_of_le_of_ne this hab.2
        have hpl := hpm.length_eq
        have HSORT := Lib.hid hsorted
        have HMEM : Hid (∀ x, x ∈ os ↔ Seen first ps o (setsTo ps.length (min f ps.length + 1)) x) := Lib.hid fun x => (hpm.mem_iff).trans (hmem x)
        have HLEN : Hid (∀ x ∈ os, x.length ≤ maxLen) := Lib.hid fun x hx => hlen x (hpm.mem_iff.1 hx)
        have HNX := Lib.hid hnx
        have HOSE := Lib.hid hos
        clear hperm hmem hnd hlen hpm hsorted hnx hos hC hrg
        rcases hrow.2 with ⟨hnil, h0⟩ | ⟨g, cap, cur, rfl, hbase, hb, g1, g2, g3, g4⟩
        · have hos0 : os = [] := by
            apply List.eq_nil_of_length_eq_zero
            omega
          subst hos0
          subst hnil
          have hc := Go.Proofs.Try.slices_Sort_string_none none 0 wr
          have HC := Lib.hid hc
          have hDX : wr.heap[W0.heap.size]? = some (.deferred (some [])) := (HNX.out.block _ HW0.out).trans HD.out
          have HDX := Lib.hid hDX
          have hBX : RowKit.Below w.heap.size w wr := H1.out.trans (HNX.out.mono H1.out.size)
          have HBX := Lib.hid hBX
          clear hc hDX hBX
          gi_wp2_with fail
          refine ⟨trivial, rfl, (callsIn_wide.2 HC.out).mono ?_⟩
          rintro e w5 ⟨rfl, rfl⟩
          gi_wp2
          refine ⟨by simp, .inl ⟨_, _, rfl, run_takeDeferred HDX.out, ?_⟩⟩
          exact ⟨_, results_tmp2 rfl _ _ _, HBX.out.trans (below_putObj _ hge _), o, [], none, 0, HORD.out, rfl, Rd1.nil, HSORT.out, HMEM.out, HLEN.out⟩
        · have hH : Holds encStr wr g 0 ss.toArray := holds_of_block hb (by simpa using g4)
          have hgl : g < wr.heap.size := (Array.getElem?_eq_some_iff.1 hb).1
          have hc := Go.Proofs.Try.slices_Sort_string g 0 cap ss wr hH hgl (by omega)
          rw [HOSE.out] at hc
          have HC := Lib.hid hc
          have HB := Lib.hid hb
          clear hc hH hb g4 hrow
          gi_wp2_with fail
          refine ⟨trivial, rfl, (callsIn_wide.2 HC.out).mono ?_⟩
          rintro e w5 ⟨rfl, nn, oss, rfl⟩
          have hrowX := ownsRow_sorted (n := nn) (os := oss) (ss := ss) (ts := os) hpl hbase HB.out g1 g2 g3
          have hBX : RowKit.Below W.heap.size W (grow (putRow encStr (Sort.ahead wr nn) g 0 os.toArray) oss) := HNX.out.grown (grownBy_sorted _) HNX.out.size (fun j e => by injection e with e; omega)
          obtain ⟨X, hX⟩ : ∃ X, grow (putRow encStr (Sort.ahead wr nn) g 0 os.toArray) oss = X := ⟨_, rfl⟩
          rw [hX] at hrowX hBX ⊢
          have hDX : X.heap[W0.heap.size]? = some (.deferred (some [])) := (hBX.block _ HW0.out).trans HD.out
          have HDX := Lib.hid hDX
          have hBX2 : RowKit.Below w.heap.size w X := H1.out.trans (hBX.mono H1.out.size)
          have HBX := Lib.hid hBX2
          rw [← hpl] at hrowX ⊢
          have HROW := Lib.hid hrowX
          clear hDX hBX2 hBX hX hrowX HC HB
          gi_wp2
          refine ⟨by simp, .inl ⟨_, _, rfl, run_takeDeferred HDX.out, ?_⟩⟩
          have hX2 := HROW.out.kept (grownBy_putObj' X W0.heap.size (.deferred none)) (.inr (fun e => by have := (HROW.out.lt _ e).1; have := HW0.out; omega))
          obtain ⟨A5, cap5, e5, hrd, _⟩ := own_rd1 hX2
          injection e5 with e51 e52 e53
          subst e51
          refine ⟨_, results_tmp2 rfl _ _ _, HBX.out.trans (below_putObj _ hge _), o, os, some ⟨g, 0, none⟩, cap, HORD.out, ?_, hrd, HSORT.out, HMEM.out, HLEN.out⟩
          rw [hpl]
          rfl
      · intro x c kl yd yp w2 cnt2 hkey hlk hv hat hrg2 hlt hg2 hs2 hen
        obtain ⟨x', ex, rfl, _⟩ := Maps.keyOf_str Try.underlying9 hkey
        obtain rfl : x = x' := encStr_inj ex
        have hrow2 := hrow.kept hg2 (Or.inr (row_ne_iter hrow hrg).symm)
        clear hs2
        gi_wp2_with (first
          | (gi_at_builtin; refine wpListIn_append_own _ rfl _ _ 28 rfl W.heap.size 9 i0 (.string ⟨#[]⟩) 1 16 Try.underlying28 hi hz0 hz1 hz2 rfl (by decide) _ _ _ rfl (hrow2.alloc _) ⟨w2.heap.size, 0, none⟩ 1 1 [encStr x] rfl rfl (cell_one_new _ _ _) (by simp [Value.oneCell', encStr]) (by unfold maxLen at *; omega) (by omega) (by have := hnx.size; have := hg2.size; simp; omega) ?_; intro v' w3 hown' hg3 hnil3; go_frame)
          | gi_in)
        have hrg3 := (hrg2.alloc _).kept hg3 (row_ne_low hrow2 hbl) (row_ne_iter hrow2 hrg2)
        go_roundw
        case rel =>
          have hbx := ((hnx.grown hg2 hnx.size (fun j hj => by cases hj; exact Nat.le_refl _)).alloc (by have := hnx.size; have := hg2.size; omega) _).grown hg3 (by have := hnx.size; have := hg2.size; simp; omega) (fun j hj => (hrow2.lt j hj).1)
          exact ⟨_, cnt2, ss ++ [x], hrg3, by simp; omega, by simpa using hown', hC.step hlk hat, hbx⟩
        case measure => rw [hrg3.left_eq, hrg.left_eq]; exact hlt
end Go.Proofs.Ytblbbhenmhkknaa
