/- (*block.deck).hangs and (*block.deck).block. -/
import Derived.Laws.Shifts
import Derived.Laws.ShiftsVarLaws
import Derived.Test.YtojgdallodmanaaZ8cbdad
import Derived.Test.YtojgdallodmanaaYB4
namespace Go.Proofs.Ytojgdallodmanaa
open Go.RowKit

set_option maxRecDepth 100000 in
set_option maxHeartbeats 4000000 in
theorem hangs_any (g s n : Nat) (J : Option Addr) (js : List (Int × Int)) (capJ B : Nat) (w : World) (hs : s < 256) (hn8 : n ≤ 8) (hj : JsOk n js) (hjl : js.length ≤ 12)
    (c1 : w.cell? ⟨g, 1, none⟩ = some (.slice J js.length capJ)) (hR : RdN 2 encSp w B J js) (hB : B ≤ w.heap.size) :
    Calls Try.prog 80 #[.pointer (some ⟨g, 0, none⟩), .int .i64 s] w fun e w' => e = .returned (.bool (hangsB js s)) ∧ Below w.heap.size w w' := by
  have hl := low64 s hs
  have hlt := low_lt s hs
  obtain ⟨L, hL⟩ : ∃ L, s &&& (256 - s) = L := ⟨_, rfl⟩
  rw [hL] at hl hlt
  have hst : hangsB js s = hangF js s 257 L := by unfold hangsB; rw [hL]
  obtain ⟨R, hR0⟩ : ∃ R, hangsB js s = R := ⟨_, rfl⟩
  rw [hR0] at hst ⊢
  have HST := Lib.hid hst.symm
  have HJ := Lib.hid hj
  have HR := Lib.hid hR
  have HC : Hid (∀ W, Below w.heap.size w W → W.cell? ⟨g, 1, none⟩ = some (.slice J js.length capJ)) := Lib.hid fun W hb => keepC hb c1
  clear hst hR0 hL hj hR
  have hg := lt_of_cell c1
  go_enter Try.func80, Try.ntmps80
  go_wp2
  go_loopw [5] (fun vm wr => ∃ m f : Nat, vm = .int .i64 m ∧ m < 256 ∧ 257 ≤ m + f ∧ Hid (hangF js s f m = R) ∧ Hid (Below w.heap.size w wr)) (fun vm _ => 256 - (intOf vm).toNat)
  case atStart => exact ⟨L, 257, rfl, hlt, by omega, HST, Lib.hid (belowR _)⟩
  case round =>
    clear HST c1
    obtain ⟨m, f, rfl, hm, hmf, HF, HBW⟩ := hrel
    have c1 := HC.out _ HBW.out
    have hzr : g < wr.heap.size := lt_of_cell c1
    go_wp2
    obtain ⟨wa, hwa⟩ : ∃ wa : World, wa = wr := ⟨_, rfl⟩
    subst hwa
    go_loopw [6, 21] (fun vn vi wr => ∃ k : Nat, ∃ x : Nat, k ≤ js.length ∧ vi = .int .i64 k ∧ vn = .int .i64 x ∧ x < 256 ∧ Hid ((js.take k).foldl (hstep s) m = x) ∧ Hid (Below w.heap.size w wr)) (fun _ vi _ => js.length - (intOf vi).toNat)
    case atStart => exact ⟨0, m, Nat.zero_le _, rfl, rfl, hm, Lib.hid rfl, HBW⟩
    case round =>
      clear HBW c1
      obtain ⟨k, x, hk, rfl, rfl, hx, HX, HBW⟩ := hrel
      have c1 := HC.out _ HBW.out
      have hzr : g < wr.heap.size := lt_of_cell c1
      by_cases hlt : k < js.length
      · obtain ⟨j, hjx⟩ : ∃ j, js[k]? = some j := ⟨_, List.getElem?_eq_getElem hlt⟩
        have hjo := HJ.out j (List.mem_of_getElem? hjx)
        have hsn := fold_snoc s js m k j hjx
        rw [HX.out] at hsn
        obtain ⟨bb, off, rfl, _, d0, d1⟩ := spAt (HR.out.below HBW.out hB) hjx
        obtain ⟨a, b⟩ := j
        simp only at d0 d1 hjo
        obtain ⟨a, rfl⟩ : ∃ n : Nat, a = n := ⟨a.toNat, by omega⟩
        obtain ⟨b, rfl⟩ : ∃ n : Nat, b = n := ⟨b.toNat, by omega⟩
        have ha8 : a < 8 := by omega
        have hb8 : b < 8 := by omega
        have hpa := shl1 a (by omega)
        have hpb := shl1 b (by omega)
        have hla := pow_lt ha8
        have hlb := pow_lt hb8
        have hpp : pairN ((a : Int), (b : Int)) = 2 ^ a ||| 2 ^ b := rfl
        have hor := or64 (a := 2 ^ a) (b := 2 ^ b) (by omega) (by omega)
        have hlp := or_lt hla hlb
        obtain ⟨pa, hpa'⟩ : ∃ p, (2 ^ a : Nat) = p := ⟨_, rfl⟩
        obtain ⟨pb, hpb'⟩ : ∃ p, (2 ^ b : Nat) = p := ⟨_, rfl⟩
        rw [hpa'] at hpa hor hlp hpp hla
        rw [hpb'] at hpb hor hlp hpp hlb
        obtain ⟨P, hP⟩ : ∃ P, pa ||| pb = P := ⟨_, rfl⟩
        rw [hP] at hor hlp hpp
        have ha1 := and64 (a := P) (b := s) (by omega) (by omega)
        have ha2 := and64 (a := P) (b := x) (by omega) (by omega)
        have ha3 := or64 (a := x) (b := P) (by omega) (by omega)
        have hxl := or_lt hx hlp
        have hkz : (k : Int) < (js.length : Int) := by omega
        have hk0 : (0 : Int) ≤ (k : Int) := by omega
        have hsn2 : (js.take (k + 1)).foldl (hstep s) m = if P &&& s = P ∧ P &&& x ≠ 0 then x ||| P else x := by rw [hsn]; unfold hstep; rw [hpp]
        have HSN := Lib.hid hsn2
        have HBS : Hid (Below w.heap.size w (wr.alloc (.cells #[.int .i64 (a : Int), .int .i64 (b : Int)] 79))) := Lib.hid (belowA HBW.out _)
        clear hsn hsn2 hjx hjo hP hpp hpa' hpb'
        have HA1 := Lib.hid ha1
        have HA2 := Lib.hid ha2
        have HA3 := Lib.hid ha3
        clear ha1 ha2 ha3
        go_wp2
        go_quiet (fail)
        have HBN := Lib.hid (belowN HBS.out nq)
        clear HBS
        generalize (wr.alloc (.cells #[.int .i64 (a : Int), .int .i64 (b : Int)] 79)).drewN nq = wn at *
        clear hpa hpb hor d0 d1 c1
        by_cases hq1 : P &&& s = P
        · have ha1 := HA1.out
          rw [hq1] at ha1
          by_cases hq2 : P &&& x = 0
          · have ha2 := HA2.out
            rw [hq2] at ha2
            have HS2 : Hid ((js.take (k + 1)).foldl (hstep s) m = x) := Lib.hid (by rw [HSN.out, if_neg (fun h => h.2 hq2)])
            clear hq1 hq2
            go_wp2
            go_roundw
            case rel => exact ⟨k + 1, x, by omega, by go_num, rfl, hx, HS2, HBN⟩
            case measure => simp [intOf]; omega
          · have HS2 : Hid ((js.take (k + 1)).foldl (hstep s) m = x ||| P) := Lib.hid (by rw [HSN.out, if_pos ⟨hq1, hq2⟩])
            have ha2 := HA2.out
            obtain ⟨M, hM⟩ : ∃ M, P &&& x = M := ⟨_, rfl⟩
            rw [hM] at hq2 ha2
            have hne : (((M : Nat) : Int) != 0) = true := by simpa using hq2
            have ha3 := HA3.out
            clear hq1 hM hq2
            go_wp2
            go_roundw
            case rel => exact ⟨k + 1, x ||| P, by omega, by go_num, rfl, hxl, HS2, HBN⟩
            case measure => simp [intOf]; omega
        · have HS2 : Hid ((js.take (k + 1)).foldl (hstep s) m = x) := Lib.hid (by rw [HSN.out, if_neg (fun h => hq1 h.1)])
          have ha1 := HA1.out
          obtain ⟨M, hM⟩ : ∃ M, P &&& s = M := ⟨_, rfl⟩
          rw [hM] at hq1 ha1
          have hne : (((M : Nat) : Int) == ((P : Nat) : Int)) = false := by rw [beq_eq_false_iff_ne]; omega
          clear hq1 hM
          go_wp2
          go_roundw
          case rel => exact ⟨k + 1, x, by omega, by go_num, rfl, hx, HS2, HBN⟩
          case measure => simp [intOf]; omega
      · obtain rfl : k = js.length := by omega
        have hxx := HX.out
        rw [List.take_length] at hxx
        have hge := fold_ge s js m
        rw [hxx] at hge
        have hhr : hround js s m = x := hxx
        obtain ⟨f, rfl⟩ : ∃ f', f = f' + 1 := ⟨f - 1, by omega⟩
        have hF := HF.out
        unfold hangF at hF
        rw [hhr] at hF
        have HFF := Lib.hid hF
        clear hxx hhr hF HX HF
        by_cases hxm : x = m
        · subst hxm
          have hres : (x == s) = R := by have := HFF.out; rwa [if_pos rfl] at this
          have HRS := Lib.hid hres
          clear hres
          go_wp2
          go_ret
          exact ⟨by rw [← HRS.out]; refine ret_bool ?_; rw [Bool.eq_iff_iff]; simp; omega, HBW.out⟩
        · have hres : hangF js s f x = R := by have := HFF.out; rwa [if_neg hxm] at this
          have HRS := Lib.hid hres
          have hne : (((x : Nat) : Int) == ((m : Nat) : Int)) = false := by rw [beq_eq_false_iff_ne]; omega
          clear hres HFF
          go_wp2
          go_roundw
          case rel => exact ⟨x, f, rfl, hx, by omega, HRS, HBW⟩
          case measure => simp [intOf]; omega

/-- The error of a block. -/
def blockE (n : Nat) (js : List (Int × Int)) (set : Int) : Int := if inB 1 ((2 : Int) ^ n - 1) set then (if hangsB js set.toNat then 0 else 6) else 4

set_option maxRecDepth 100000 in
set_option maxHeartbeats 4000000 in
theorem block_any (g n : Nat) (set : Int) (A J : Option Addr) (js : List (Int × Int)) (cap capJ B : Nat) (w : World) (hn1 : 1 ≤ n) (hn8 : n ≤ 8) (hj : JsOk n js) (hjl : js.length ≤ 12)
    (c0 : w.cell? ⟨g, 0, none⟩ = some (.slice A n cap)) (c1 : w.cell? ⟨g, 1, none⟩ = some (.slice J js.length capJ)) (hR : RdN 2 encSp w B J js) (hB : B ≤ w.heap.size) :
    Calls Try.prog 104 #[.pointer (some ⟨g, 0, none⟩), .int .i64 set] w fun e w' => e = .returned (iv (blockE n js set)) ∧ Below w.heap.size w w' := by
  have hg := lt_of_cell c1
  have hsh := shl1 n (by omega)
  have hp : 2 ≤ 2 ^ n ∧ 2 ^ n ≤ 256 := ⟨by
    have := Nat.pow_le_pow_right (show 0 < 2 by decide) hn1
    omega, by
    have := Nat.pow_le_pow_right (show 0 < 2 by decide) hn8
    omega⟩
  have hbe : blockE n js set = if inB 1 (((2 ^ n : Nat) : Int) - 1) set then (if hangsB js set.toNat then 0 else 6) else 4 := by unfold blockE; rw [Int.natCast_pow]; rfl
  obtain ⟨P, hP⟩ : ∃ P, (2 ^ n : Nat) = P := ⟨_, rfl⟩
  rw [hP] at hsh hp hbe
  obtain ⟨hp1, hp2⟩ := hp
  have HBE := Lib.hid hbe
  clear hbe hP
  have hhc := fun (s : Nat) (hs : s < 256) W (hb : Below w.heap.size w W) => hangs_any g s n J js capJ B W hs hn8 hj hjl (keepC hb c1) (hR.below hb hB) (Nat.le_trans hB hb.size)
  have HHC := Lib.hid hhc
  clear hhc hj hR
  cases h1 : inB 1 ((P : Int) - 1) set
  · have HO := Lib.hid (fun g W => out_oneB h1 g W)
    have HE : Hid (blockE n js set = 4) := Lib.hid (by rw [HBE.out, h1]; rfl)
    clear h1
    go_enter Try.func104, Try.ntmps104
    go_wp2_with fail
    refine (HO.out _ _ (by go_simp)).mono ?_
    rintro e w2 ⟨rfl, hb2⟩
    have HB2 := Lib.hid (belowT (belowA (belowR _) _) hb2)
    clear hb2
    go_wp2
    go_ret
    exact ⟨by rw [HE.out]; rfl, HB2.out⟩
  · have HO := Lib.hid (fun g W => out_oneB h1 g W)
    have hb := inB_t h1
    obtain ⟨s, rfl⟩ : ∃ s : Nat, set = s := ⟨set.toNat, by omega⟩
    have hs : s < 256 := by omega
    have hbe2 : blockE n js s = if hangsB js s then 0 else 6 := by rw [HBE.out, h1]; rfl
    have HE := Lib.hid hbe2
    clear h1 hbe2 HBE
    cases h2 : hangsB js s
    all_goals
      have HG := Lib.hid h2
      clear h2
      go_enter Try.func104, Try.ntmps104
      go_wp2_with fail
      refine (HO.out _ _ (by go_simp)).mono ?_
      rintro e w2 ⟨rfl, hb2⟩
      have hb2' := belowT (belowA (belowR w) (.cells #[.int .i64 (s : Int)] 3)) hb2
      have HB2 := Lib.hid hb2'
      clear hb2 hb2'
      go_wp2_with fail
      refine (HHC.out s hs w2 HB2.out).mono ?_
      rintro e w3 ⟨he, hb3⟩
      rw [HG.out] at he
      subst he
      have HB3 := Lib.hid (belowT HB2.out hb3)
      clear hb3
      go_wp2
      go_ret
      exact ⟨by rw [HE.out, HG.out]; rfl, HB3.out⟩
end Go.Proofs.Ytojgdallodmanaa
