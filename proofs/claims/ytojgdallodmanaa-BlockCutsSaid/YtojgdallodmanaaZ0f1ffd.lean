/- (*block.deck).most: what is known of sets of parts. up (how often a number goes into another, rounded up), (*block.deck).light. bits.OnesCount of a set of parts; the comparison of two nodes. -/
import Derived.Maps.OwnSet
import Derived.Maps.OwnOps
import Derived.Maps.Ext
import Derived.Laws.Shifts
import Derived.Laws.ShiftsVarLaws
import Derived.Test.YtojgdallodmanaaZac0b93
namespace Go.Proofs.Ytojgdallodmanaa
open Go.RowKit Go.Maps

theorem nodup_lt : ∀ (n : Nat) (l : List Nat), l.Nodup → (∀ x ∈ l, x < n) → l.length ≤ n := by
  intro n
  induction n with
  | zero =>
    intro l _ h
    cases l with
    | nil => simp
    | cons x l => exact absurd (h x (by simp)) (by omega)
  | succ n ih =>
    intro l hn h
    have h1 := ih (l.erase n) (hn.erase n) (fun x hx => by
      have h2 := h x (List.mem_of_mem_erase hx)
      have h3 : x ≠ n := fun e => by
        subst e
        exact (List.Nodup.not_mem_erase hn) hx
      omega)
    have h2 := List.length_erase_le (a := n) (l := l)
    have h3 : l.length ≤ (l.erase n).length + 1 := by
      rw [List.length_erase]
      split <;> omega
    omega

theorem law3 : Keyed Try.prog 3 := int_keyed Try.underlying3
theorem zero3 (w : World) : (zeroValue 3).run Try.prog w = .ok (.int .i64 0) w := Try.zeroValue3 w

/-- What the map at km knows is so: of sets of parts, what f says of them. -/
def KnownAt (w : World) (km : Nat) (f : Nat → Int) : Prop := ∃ (D : DataW Unit) (n : Nat), w.ownsMap Try.prog 3 (plainElem Try.prog 3) km n D ∧ ∀ kl, has D kl = true → ∃ s : Nat, s < 256 ∧ kl = .int .i64 (s : Int) ∧ D.atKey kl (.lit (.int .i64 0)) = .lit (.int .i64 (f s))

theorem KnownAt.few {w : World} {km : Nat} {f : Nat → Int} (h : KnownAt w km f) : ∃ D : DataW Unit, w.ownsMap Try.prog 3 (plainElem Try.prog 3) km 256 D ∧ ∀ kl, has D kl = true → ∃ s : Nat, s < 256 ∧ kl = .int .i64 (s : Int) ∧ D.atKey kl (.lit (.int .i64 0)) = .lit (.int .i64 (f s)) := by
  obtain ⟨D, n, ho, hk⟩ := h
  refine ⟨D, ?_, hk⟩
  have ht := ho.tidy law3
  have hc := ho.canon law3
  obtain ⟨es, clock, hb, F, hs, hD⟩ := ho
  refine ⟨es, clock, hb, F, ?_, hD⟩
  obtain ⟨l, hl, hp⟩ := ht
  have hlen : l.length = es.size := by
    rw [hD] at hl
    injection hl with hl
    rw [← hl]
    exact length_read es
  rw [← hlen]
  have hkl : ∀ p ∈ l, WideAt.IsKeyLit p.1 := by
    obtain ⟨l', e', _, h⟩ := hc
    rw [hl] at e'
    injection e' with e'
    subst e'
    exact h
  have hkeys : ∀ p ∈ l, ∃ s : Nat, s < 256 ∧ p.1 = .int .i64 (s : Int) := fun p hp' => by
    obtain ⟨s, h1, h2, _⟩ := hk p.1 (by
      rw [hl, has_eq, List.any_eq_true]
      exact ⟨p, hp', WideAt.sameKey_self (hkl p hp')⟩)
    exact ⟨s, h1, h2⟩
  have := nodup_lt 256 (l.map fun p => match p.1 with | .int _ n => n.toNat | _ => 0) (by
    rw [List.Nodup, List.pairwise_map]
    refine hp.imp_of_mem ?_
    intro p q hp1 hq1 hne
    obtain ⟨s, _, e1⟩ := hkeys p hp1
    obtain ⟨t, _, e2⟩ := hkeys q hq1
    rw [e1, e2] at hne ⊢
    simp only [Int.toNat_natCast]
    intro e
    subst e
    exact hne rfl) (fun x hx => by
    obtain ⟨p, hp1, rfl⟩ := List.mem_map.1 hx
    obtain ⟨s, h1, e1⟩ := hkeys p hp1
    rw [e1]
    simpa using h1)
  simpa using this

theorem wf_i64 {n : Int} (h0 : -9223372036854775808 ≤ n) (h1 : n ≤ 9223372036854775807) : (Lit.int .i64 n).wf = true := by
  simp [Lit.wf, IntKind.min, IntKind.max, IntKind.bits, IntKind.signed]
  omega

section
variable {w : World} {B g : Nat} {h : Hul} {A : Option Addr} {cap : Nat} {J : Option Addr} {capJ : Nat} {N : List Nd} {bs : List Nat} {br km : Nat}
set_option maxRecDepth 100000 in
set_option maxHeartbeats 2000000 in
theorem most1_any (H : DeckSt w B g h A cap J capJ N bs br km) (hT : TreeOk h.ps N) (set gd : Nat) (hs : set < 256) (hc : w.cell? ⟨gd, 0, none⟩ = some (ptr g)) :
    Calls Try.prog 107 #[.int .i64 set, ptr gd] w fun e w' => e = .returned (iv (mostV h N set)) ∧ Below w.heap.size w w' := by
  have hw := H.weigh hT hs
  have hlv : mostV h N set = (wgh h.ps N set).1.shi := rfl
  obtain ⟨M, hM⟩ : ∃ M, (wgh h.ps N set).1 = M := ⟨_, rfl⟩
  obtain ⟨V, hV⟩ : ∃ V, (wgh h.ps N set).2 = V := ⟨_, rfl⟩
  rw [hM] at hw hlv
  rw [hV] at hw
  rw [hlv]
  obtain ⟨ma, mb, mc, md⟩ := M
  have HW := Lib.hid hw
  clear hw hlv hM hV H
  go_enter Try.func107, Try.ntmps107
  go_wp2_with fail
  refine HW.out.mono ?_
  rintro e w1 ⟨rfl, hb⟩
  have HB := Lib.hid hb
  clear hb
  go_wp2
  go_ret
  exact ⟨rfl, belowA HB.out _⟩

def MostPost (v : Int) (km : Nat) (f : Nat → Int) (w : World) (e : Ending) (w' : World) : Prop := e = .returned (iv v) ∧ OnlyAt w w' km ∧ KnownAt w' km f

theorem KnownAt.below {w1 : World} {f : Nat → Int} (hk : KnownAt w km f) (hb : Below w.heap.size w w1) : KnownAt w1 km f := by
  obtain ⟨D, n, ho, h⟩ := hk
  refine ⟨D, n, ?_, h⟩
  have hlt := ho.lt
  obtain ⟨es, clock, hb', F, hs, hD⟩ := ho
  exact ⟨es, clock, (hb.block km hlt).trans hb', F, hs, hD⟩

set_option maxRecDepth 100000 in
set_option maxHeartbeats 4000000 in
theorem of_any (H : DeckSt w B g h A cap J capJ N bs br km) (hT : TreeOk h.ps N) (hK : KnownAt w km (mostV h N)) (set gd : Nat) (hs : set < 256) (hc : w.cell? ⟨gd, 0, none⟩ = some (ptr g)) :
    Calls Try.prog 106 #[.map (some km), .int .i64 set, .func (.func 107) #[] #[ptr gd]] w (MostPost (mostV h N set) km (mostV h N) w) := by
  have hf := most1_any H hT set gd hs hc
  have hbd := wgh_bd hT set
  have hwf : (Lit.int .i64 (mostV h N set)).wf = true := by
    obtain ⟨_, _, _, _, _, _, h1, h2⟩ := hbd
    exact wf_i64 (by unfold mostV; omega) (by unfold mostV; omega)
  have hkey : keyOf Try.prog 3 (.int .i64 (set : Int)) = some (.int .i64 (set : Int)) := keyOf_int_mk Try.underlying3 (wf_i64 (by omega) (by omega))
  obtain ⟨D, ho, hD⟩ := hK.few
  have hm := ho.tidy law3
  have HK := Lib.hid hK
  have HDD := Lib.hid hD
  have HO := Lib.hid ho
  have HF := Lib.hid hf
  have HT := Lib.hid hm
  obtain ⟨F, hF⟩ : ∃ F, mostV h N = F := ⟨_, rfl⟩
  rw [hF] at HK HDD HF hwf ⊢
  have HKEY := Lib.hid hkey
  have HWF := Lib.hid hwf
  clear hf hbd hwf hkey hK hD ho hm H hF
  cases hh : has D (.int .i64 (set : Int))
  · have HH := Lib.hid hh
    clear hh
    go_enter Try.func106, Try.ntmps106
    go_wp2_with (at_lookup; refine wpList_lookup_own_ok_int _ rfl _ _ 104 rfl 3 3 .i64 law3 Try.underlying104 Try.underlying3 (zero3 _) km 256 D rfl HO.out _ _ rfl HKEY.out ?_; intro c hat hwc; rw [HH.out]; clear hat hwc)
    go_wp2_with fail
    refine HF.out.mono ?_
    rintro e w1 ⟨rfl, hb⟩
    have ho1 : w1.ownsMap Try.prog 3 (plainElem Try.prog 3) km 256 D := HO.out.kept (row := none) ⟨hb.os, hb.tape, hb.output, hb.size, fun k hk _ => hb.block k hk⟩ (by simp)
    have HO1 := Lib.hid ho1
    have HB := Lib.hid hb
    clear hb ho1
    go_wp2_with (at_mapUpdate; refine wpList_mapUpdate_own _ rfl _ _ _ 104 rfl 3 3 law3 Try.underlying104 _ km 256 D rfl HO1.out (by unfold maxLen; omega) _ _ _ rfl rfl HKEY.out _ [] (plainElem_int Try.underlying3 HWF.out) ?_; intro w2 hown2 hgrow2)
    have HO2 := Lib.hid hown2
    have HG2 := Lib.hid hgrow2
    clear hown2 hgrow2
    go_wp2
    go_ret
    refine ⟨rfl, ?_, ⟨_, _, HO2.out, fun kl hkl => ?_⟩⟩
    · exact (OnlyAt.of_below HB.out km).trans ⟨HG2.out.os, HG2.out.tape, HG2.out.output, HG2.out.size, fun k hk hne => HG2.out.block k hk (by simpa using hne)⟩
    · by_cases hkk : kl = .int .i64 (set : Int)
      · subst hkk
        exact ⟨set, hs, rfl, atKey_put_same HT.out.isMap (show WideAt.IsKeyLit (.int .i64 (set : Int)) from trivial) _ _⟩
      · rw [has_put_other hkk] at hkl
        rw [atKey_put_other hkk]
        exact HDD.out kl hkl
  · obtain ⟨s, hs', hk', hat'⟩ := HDD.out _ hh
    have hss : s = set := by
      injection hk' with _ hk'
      omega
    subst hss
    have HH := Lib.hid hh
    have HAT := Lib.hid hat'
    clear hh hat' hk'
    go_enter Try.func106, Try.ntmps106
    go_wp2_with (at_lookup; refine wpList_lookup_own_ok_int _ rfl _ _ 104 rfl 3 3 .i64 law3 Try.underlying104 Try.underlying3 (zero3 _) km 256 D rfl HO.out _ _ rfl HKEY.out ?_; intro c hat hwc; rw [HH.out]; have hcf : c = F s := (by rw [HAT.out] at hat; injection hat with hat; injection hat with _ hat; exact hat.symm); subst hcf; clear hat hwc)
    go_ret
    exact ⟨rfl, OnlyAt.refl _ _, HK.out⟩

set_option maxRecDepth 100000 in
set_option maxHeartbeats 4000000 in
theorem most_any (H : DeckSt w B g h A cap J capJ N bs br km) (hT : TreeOk h.ps N) (hK : KnownAt w km (mostV h N)) (set : Nat) (hs : set < 256) :
    Calls Try.prog 65 #[ptr g, .int .i64 set] w (MostPost (mostV h N set) km (mostV h N) w) := by
  obtain ⟨W1, hW1⟩ : ∃ W1, w.alloc (.cells #[ptr g] 99) = W1 := ⟨_, rfl⟩
  have hb0 : Below w.heap.size w W1 := by rw [← hW1]; exact belowA (belowR _) _
  have c0 : W1.cell? ⟨w.heap.size, 0, none⟩ = some (ptr g) := by rw [← hW1]; clear hW1; go_simp
  have hof := of_any (H.below hb0) hT (hK.below hb0) set w.heap.size hs c0
  have c6 := (H.below hb0).c6
  have HOF := Lib.hid hof
  have HB0 := Lib.hid hb0
  obtain ⟨F, hF⟩ : ∃ F, mostV h N = F := ⟨_, rfl⟩
  rw [hF] at HOF ⊢
  clear hof hb0 H hK hT hF
  go_enter Try.func65, Try.ntmps65
  go_wp2_with fail
  refine HOF.out.mono ?_
  rintro e w1 ⟨rfl, ho, hk⟩
  have HO := Lib.hid ho
  have HK := Lib.hid hk
  clear ho hk hW1 c0 c6
  go_wp2
  go_ret
  exact ⟨rfl, (OnlyAt.of_below HB0.out km).trans HO.out, HK.out⟩
end
end Go.Proofs.Ytojgdallodmanaa

namespace Go.Proofs.Ytojgdallodmanaa
open Go.RowKit

set_option maxRecDepth 100000 in
set_option maxHeartbeats 2000000 in
theorem upDiv_any {w : World} (n b : Int) (h0 : 0 ≤ n) (h1 : n ≤ 4611686018427387904) (b0 : 0 < b) (b1 : b ≤ 1000000000) :
    Calls Try.prog 69 #[.int .i64 n, .int .i64 b] w fun e w' => e = .returned (iv ((n + b - 1).tdiv b)) ∧ Below w.heap.size w w' := by
  have hq : (n + b - 1).tdiv b ≤ n + b - 1 := by
    rw [Int.tdiv_eq_ediv_of_nonneg (by omega)]
    exact Int.ediv_le_self _ (by omega)
  have hq0 : 0 ≤ (n + b - 1).tdiv b := Int.tdiv_nonneg (by omega) (by omega)
  have hwr : ∀ x : Int, 0 ≤ x → x < 9223372036854775808 → wrap64 x = x := fun x h h2 => by unfold wrap64; omega
  have hw0 := hwr (n + b) (by omega) (by omega)
  have hw1 := hwr (n + b - 1) (by omega) (by omega)
  have hw2 := hwr ((n + b - 1).tdiv b) hq0 (by omega)
  have hb0 : (b == 0) = false := by simp; omega
  go_enter Try.func69, Try.ntmps69
  go_wp2
  go_ret
  exact ⟨rfl, belowR _⟩

section
variable {w : World} {B g : Nat} {h : Hul} {A : Option Addr} {cap : Nat} {J : Option Addr} {capJ : Nat} {N : List Nd} {bs : List Nat} {br km : Nat}

theorem KnownAt.drew {f : Nat → Int} (hk : KnownAt w km f) : KnownAt w.drew km f := hk.below (belowDr (belowR _))

def LightPost (v : Bool) (km : Nat) (f : Nat → Int) (w : World) (e : Ending) (w' : World) : Prop := e = .returned (.bool v) ∧ OnlyAt w w' km ∧ KnownAt w' km f

set_option maxRecDepth 100000 in
set_option maxHeartbeats 4000000 in
theorem light_any (H : DeckSt w B g h A cap J capJ N bs br km) (hT : TreeOk h.ps N) (hK : KnownAt w km (mostV h N)) (set : Nat) (hs : set < 256) (hsh : 1 ≤ h.shi ∧ h.shi ≤ 100000000) (hwi : 0 ≤ h.winch ∧ h.winch ≤ 100000000000000) (hbd : 0 ≤ mostV h N set ∧ mostV h N set ≤ 42949672960) :
    Calls Try.prog 81 #[ptr g, .int .i64 set] w (LightPost (decide (mostV h N set * h.shi ≤ 1000 * h.winch)) km (mostV h N) w) := by
  have hd : OnlyAt w w.drew km := (OnlyAt.refl w km).drew
  have hm := most_any (H.only hd (.inl rfl)) hT hK.drew set hs
  have HM := Lib.hid hm
  have HC : Hid (∀ W, OnlyAt w W km → W.cell? ⟨g, 3, none⟩ = some (.int .i64 h.shi) ∧ W.cell? ⟨g, 4, none⟩ = some (.int .i64 h.winch)) := Lib.hid fun W ho => ⟨(H.only ho (.inl rfl)).c3, (H.only ho (.inl rfl)).c4⟩
  have HD := Lib.hid hd
  have h3 := H.c3
  have h4 := H.c4
  obtain ⟨M, hM⟩ : ∃ M, mostV h N set = M := ⟨_, rfl⟩
  rw [hM] at hbd HM ⊢
  clear hm hM
  have hp0 : 0 ≤ M * h.shi := Int.mul_nonneg hbd.1 (by omega)
  have hp1 : M * h.shi ≤ 42949672960 * 100000000 := Int.mul_le_mul hbd.2 hsh.2 (by omega) (by omega)
  have hw1 : IntKind.i64.wrap (M * h.shi) = M * h.shi := wrap62 _ hp0 (by omega)
  have hw2 : IntKind.i64.wrap (1000 * h.winch) = 1000 * h.winch := wrap62 _ (by omega) (by omega)
  obtain ⟨F, hF⟩ : ∃ F, mostV h N = F := ⟨_, rfl⟩
  rw [hF] at HM ⊢
  clear hF H hK hT
  go_enter Try.func81, Try.ntmps81
  go_wp2
  go_region_held3 (fun W => W.cell? ⟨g, 3, none⟩ = some (.int .i64 h.shi) ∧ W.cell? ⟨g, 4, none⟩ = some (.int .i64 h.winch)) (first | exact HC.out w.drew HD.out | exact HC.out w1 ho) (((go_at_call 65; refine HM.out.mono ?_; rintro e w1 ⟨rfl, ho1, hk1⟩; have ho : OnlyAt w w1 km := HD.out.trans ho1)))
  go_wp2
  go_ret
  exact ⟨rfl, ho, hk1⟩
end
end Go.Proofs.Ytojgdallodmanaa

namespace Go.Proofs.Ytojgdallodmanaa
open Go.RowKit

/-- How many parts are in a set. -/
def onesN (x : Nat) : Nat := ((List.range 8).filter fun i => x.testBit i).length
theorem onesN_le (x : Nat) : onesN x ≤ 8 := by
  have := List.length_filter_le (fun i => x.testBit i) (List.range 8)
  simpa [onesN] using this

def os1 (x : Int) : Int := IntKind.u64.wrap (bits .and .u64 (x / 2) 6148914691236517205 + bits .and .u64 x 6148914691236517205)
def os2 (x : Int) : Int := IntKind.u64.wrap (bits .and .u64 (x / 4) 3689348814741910323 + bits .and .u64 x 3689348814741910323)
def os3 (x : Int) : Int := bits .and .u64 (IntKind.u64.wrap (x / 16 + x)) 1085102592571150095
def os4 (x : Int) : Int := IntKind.u64.wrap (x + x / 256)
def os5 (x : Int) : Int := IntKind.u64.wrap (x + x / 65536)
def os6 (x : Int) : Int := IntKind.u64.wrap (x + x / 4294967296)
theorem ones_key : ∀ x : Nat, x < 256 → bits .and .i64 (wrap64 (os6 (os5 (os4 (os3 (os2 (os1 (x : Int)))))))) 127 = (onesN x : Int) := by decide +kernel

set_option maxRecDepth 100000 in
set_option maxHeartbeats 2000000 in
theorem ones64_any {w : World} (x : Nat) (hx : x < 256) :
    Calls Try.prog 131 #[.int .u64 x] w fun e w' => e = .returned (iv (onesN x : Int)) ∧ w = w' := by
  have hk := ones_key x hx
  go_enter Try.func131, Try.ntmps131
  go_wp2
  go_ret
  exact ⟨by rw [← hk]; rfl, rfl⟩

theorem ones_any {w : World} (x : Nat) (hx : x < 256) :
    Calls Try.prog 125 #[.int .u64 x] w fun e w' => e = .returned (iv (onesN x : Int)) ∧ w = w' := by
  have hc := ones64_any (w := w) x hx
  go_enter Try.func125, Try.ntmps125
  go_wp2_with (go_at_call 131; refine hc.mono ?_; rintro e w1 ⟨rfl, rfl⟩)
  go_ret
  exact ⟨rfl, rfl⟩

set_option maxRecDepth 100000 in
set_option maxHeartbeats 2000000 in
theorem cmpNd_any (b1 b2 s1 s2 : Nat) (W : World) (h1 : s1 < 256) (h2 : s2 < 256) (c1 : W.cell? ⟨b1, 2, none⟩ = some (iv (s1 : Int))) (c2 : W.cell? ⟨b2, 2, none⟩ = some (iv (s2 : Int))) :
    Calls Try.prog 124 #[ptr b1, ptr b2] W fun e w' => e = .returned (iv ((onesN s1 : Int) - (onesN s2 : Int))) ∧ ∃ q, w' = W.drewN q := by
  have k1 : ∀ n, Calls Try.prog 125 #[.int .u64 s1] (W.drewN n) fun e w' => e = .returned (iv (onesN s1 : Int)) ∧ ∃ q, w' = (W.drewN n).drewN q := fun n => (ones_any s1 h1).mono (by rintro e w' ⟨rfl, rfl⟩; exact ⟨rfl, 0, rfl⟩)
  have k2 : ∀ n, Calls Try.prog 125 #[.int .u64 s2] (W.drewN n) fun e w' => e = .returned (iv (onesN s2 : Int)) ∧ ∃ q, w' = (W.drewN n).drewN q := fun n => (ones_any s2 h2).mono (by rintro e w' ⟨rfl, rfl⟩; exact ⟨rfl, 0, rfl⟩)
  have K1 := Lib.hid k1
  have K2 := Lib.hid k2
  have o1 := onesN_le s1
  have o2 := onesN_le s2
  have w1 : IntKind.u64.wrap (s1 : Int) = (s1 : Int) := by rw [IntKind.wrap_u64]; omega
  have w2 : IntKind.u64.wrap (s2 : Int) = (s2 : Int) := by rw [IntKind.wrap_u64]; omega
  clear k1 k2
  go_enter Try.func124, Try.ntmps124
  go_wp2
  go_quiet ((go_at_call 125; first | exact Calls.quiet_of (K1.out _) | exact Calls.quiet_of (K2.out _)))
  go_wp2
  go_ret
  exact ⟨rfl, _, rfl⟩
end Go.Proofs.Ytojgdallodmanaa
