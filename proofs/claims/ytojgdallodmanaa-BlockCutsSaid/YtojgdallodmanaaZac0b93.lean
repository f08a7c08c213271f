/- (*block.deck).weigh: the closure that goes up the tree. (*block.deck).weigh. (*block.deck).least, and what is found of a set that is not known. -/
import Derived.Test.YtojgdallodmanaaYB5
import Derived.Test.YtojgdallodmanaaYB6
namespace Go.Proofs.Ytojgdallodmanaa
open Go.RowKit

abbrev ptr (b : Nat) : Value := .pointer (some ⟨b, 0, none⟩)
abbrev upV (gd gs gu gi : Nat) : Value := .func (.func 111) #[] #[ptr gd, ptr gs, ptr gu, ptr gi]

section
variable {W w1 w2 : World} {g : Nat}
theorem keepAF {w : World} {b : Nat} (h : b < w.heap.size) (o : Nat) (ob : Obj) : (w.alloc ob).frozen? ⟨b, o, none⟩ = w.frozen? ⟨b, o, none⟩ :=
  (belowA (belowR w) ob).frozen (p := ⟨b, o, none⟩) h
theorem OnlyAt.refl (W : World) (g : Nat) : OnlyAt W W g := ⟨rfl, rfl, rfl, Nat.le_refl _, fun _ _ _ => rfl⟩
theorem OnlyAt.trans (h : OnlyAt W w1 g) (k : OnlyAt w1 w2 g) : OnlyAt W w2 g :=
  ⟨k.os.trans h.os, k.tape.trans h.tape, k.output.trans h.output, Nat.le_trans h.size k.size, fun i hi hne => (k.block i (Nat.lt_of_lt_of_le hi h.size) hne).trans (h.block i hi hne)⟩
theorem OnlyAt.alloc (h : OnlyAt W w1 g) (o : Obj) : OnlyAt W (w1.alloc o) g := h.trans (OnlyAt.of_below (belowA (belowR _) o) g)
theorem OnlyAt.new (h : OnlyAt W w1 g) {b : Nat} (hb : W.heap.size ≤ b) (k : Nat) (u : Value) : OnlyAt W (w1.setCell ⟨b, k, none⟩ u) g :=
  ⟨h.os, h.tape, h.output, by simp only [World.size_setCell]; exact h.size, fun i hi hne => (Below.heap_setCell w1 ⟨b, k, none⟩ u i (show i ≠ b by omega)).trans (h.block i hi hne)⟩
theorem OnlyAt.belowN' (h : OnlyAt W w1 g) (n : Nat) : OnlyAt W (w1.drewN n) g := ⟨h.os, h.tape, h.output, h.size, h.block⟩
end

/-- The nodes lie in blocks below B. -/
def TabAt (w : World) (B : Nat) (N : List Nd) (bs : List Nat) : Prop := ∀ (i : Nat) (nd : Nd), N[i]? = some nd → ∃ b, bs[i]? = some b ∧ b < B ∧ w.cell? ⟨b, 0, none⟩ = some (iv nd.lo) ∧ w.cell? ⟨b, 1, none⟩ = some (iv nd.hi) ∧ w.cell? ⟨b, 2, none⟩ = some (iv (nd.set : Int)) ∧ w.cell? ⟨b, 3, none⟩ = some (iv (nd.own : Int)) ∧
  ∃ A cap, w.cell? ⟨b, 4, none⟩ = some (.slice A nd.kids.length cap) ∧ ∀ (k j : Nat), nd.kids[k]? = some j → ∃ bb off bj, A = some ⟨bb, off, none⟩ ∧ bb < B ∧ bs[j]? = some bj ∧ w.cell? ⟨bb, off + k, none⟩ = some (ptr bj)
theorem TabAt.only {W w1 : World} {g B : Nat} {N : List Nd} {bs : List Nat} (h : TabAt W B N bs) (ho : OnlyAt W w1 g) (hB : B ≤ g) : TabAt w1 B N bs := by
  intro i nd hi
  obtain ⟨b, h1, h2, c0, c1, c2, c3, A, cap, c4, hk⟩ := h i nd hi
  refine ⟨b, h1, h2, ho.cell c0 (by omega), ho.cell c1 (by omega), ho.cell c2 (by omega), ho.cell c3 (by omega), A, cap, ho.cell c4 (by omega), fun k j hkj => ?_⟩
  obtain ⟨bb, off, bj, e, hb, hj, hc⟩ := hk k j hkj
  exact ⟨bb, off, bj, e, hb, hj, ho.cell hc (by omega)⟩

structure UpSt (w : World) (B g gd gs gu gi : Nat) (A : Option Addr) (cap : Nat) (ps : List Prt) (set : Nat) (N : List Nd) (bs : List Nat) : Prop where
  tab : TabAt w B N bs
  dk : w.cell? ⟨g, 0, none⟩ = some (.slice A ps.length cap)
  rd : RdN 3 encPrt w B A ps
  cd : w.cell? ⟨gd, 0, none⟩ = some (ptr g)
  cs : w.cell? ⟨gs, 0, none⟩ = some (iv (set : Int))
  cu : w.cell? ⟨gu, 0, none⟩ = some (upV gd gs gu gi)
  gB : g < B
  hB : B ≤ gi
  nd : gd ≠ gi
  ns : gs ≠ gi
  nu : gu ≠ gi
theorem UpSt.only {W w1 : World} {B g gd gs gu gi : Nat} {A : Option Addr} {cap : Nat} {ps : List Prt} {set : Nat} {N : List Nd} {bs : List Nat} (h : UpSt W B g gd gs gu gi A cap ps set N bs) (ho : OnlyAt W w1 gi) : UpSt w1 B g gd gs gu gi A cap ps set N bs :=
  ⟨h.tab.only ho h.hB, ho.cell h.dk (by have := h.gB; have := h.hB; omega), ho.rdN h.rd h.hB, ho.cell h.cd h.nd, ho.cell h.cs h.ns, ho.cell h.cu h.nu, h.gB, h.hB, h.nd, h.ns, h.nu⟩

structure MassAt (w : World) (b : Nat) (m : Mass) : Prop where
  c0 : w.cell? ⟨b, 0, none⟩ = some (.int .i64 m.alo)
  c1 : w.cell? ⟨b, 1, none⟩ = some (.int .i64 m.ahi)
  c2 : w.cell? ⟨b, 2, none⟩ = some (.int .i64 m.slo)
  c3 : w.cell? ⟨b, 3, none⟩ = some (.int .i64 m.shi)
  fz : ∀ o, w.frozen? ⟨b, o, none⟩ = false

abbrev massV (m : Mass) : Value := .agg #[iv m.alo, iv m.ahi, iv m.slo, iv m.shi]
def UpPost (m : Mass) (v : Bool) (gi : Nat) (w : World) (e : Ending) (w' : World) : Prop :=
  e = .returned (massV m) ∧ OnlyAt w w' gi ∧ w'.cell? ⟨gi, 0, none⟩ = some (.bool v) ∧ w'.frozen? ⟨gi, 0, none⟩ = false

set_option maxRecDepth 100000 in
set_option maxHeartbeats 8000000 in
theorem up_any (B g gd gs gu gi : Nat) (A : Option Addr) (cap : Nat) (ps : List Prt) (set : Nat) (N : List Nd) (bs : List Nat) (hp : PsOk ps) (hl : ps.length ≤ 8) (hN : NOk N) (hs : set < 256)
    (hk : ∀ (i : Nat) (nd : Nd), N[i]? = some nd → ∀ j ∈ nd.kids, j < i) : ∀ (f i : Nat), f ≤ 7 → i < f → i < N.length → ∀ (b : Nat) (v : Bool) (w : World), bs[i]? = some b → UpSt w B g gd gs gu gi A cap ps set N bs → w.cell? ⟨gi, 0, none⟩ = some (.bool v) → w.frozen? ⟨gi, 0, none⟩ = false →
    Calls Try.prog 111 #[ptr b, ptr gd, ptr gs, ptr gu, ptr gi] w (UpPost (upF N ps set f i).1 (v && (upF N ps set f i).2) gi w) := by
  intro f
  induction f with
  | zero => intro i _ h; omega
  | succ f ih =>
    intro i hf hif hiN b v w hb hst hv hvf
    obtain ⟨nd, hnd⟩ : ∃ nd, N[i]? = some nd := ⟨_, List.getElem?_eq_getElem hiN⟩
    obtain ⟨b', hb', hbB, n0, n1, n2, n3, A4, cap4, n4, hkid⟩ := hst.tab i nd hnd
    rw [hb] at hb'
    injection hb' with hb'
    subst hb'
    rw [upF_at hnd]
    have hno := hN nd (List.mem_of_getElem? hnd)
    have hkb := fun k hk => kidsTo_bd (N := N) (set := set) (nd := nd) hp hl (upF_bd hp hl hN f) k hk
    have hbf := bdF_mono (show f ≤ 8 by omega)
    rw [bdF_eight] at hbf
    obtain ⟨W1, hW1⟩ : ∃ W1, w.alloc (.cells #[.int .i64 0, .int .i64 0, .int .i64 0, .int .i64 0] 117) = W1 := ⟨_, rfl⟩
    have hb0 : Below w.heap.size w W1 := by rw [← hW1]; exact belowA (belowR _) _
    have hm0 : MassAt W1 w.heap.size ⟨0, 0, 0, 0⟩ := by rw [← hW1]; clear hW1; exact ⟨by go_simp, by go_simp, by go_simp, by go_simp, fun o => by go_simp⟩
    have hgi := lt_of_cell hv
    have HST := Lib.hid hst
    have d1 := keepC hb0 hst.cd
    have d2 := keepC hb0 hst.dk
    have s1 := keepC hb0 hst.cs
    have u1 := keepC hb0 hst.cu
    have n0 := keepC hb0 n0
    have n1 := keepC hb0 n1
    have n3 := keepC hb0 n3
    have n4 := keepC hb0 n4
    obtain ⟨gm, hgm⟩ : ∃ gm, w.heap.size = gm := ⟨_, rfl⟩
    have hne1 : gd ≠ gm := by rw [← hgm]; have := lt_of_cell hst.cd; omega
    have hne2 : g ≠ gm := by rw [← hgm]; have := lt_of_cell hst.dk; omega
    have hne3 : gs ≠ gm := by rw [← hgm]; have := lt_of_cell hst.cs; omega
    have hne4 : gu ≠ gm := by rw [← hgm]; have := lt_of_cell hst.cu; omega
    have hne5 : b ≠ gm := by rw [← hgm]; have := hst.hB; omega
    have hne6 : gi ≠ gm := by rw [← hgm]; omega
    have hBm : B ≤ gm := by rw [← hgm]; have := hst.hB; omega
    have hlm : gm < W1.heap.size := by rw [← hgm]; exact lt_of_cell hm0.c0
    have hRd := hst.rd.below hb0 (by have := hst.hB; omega)
    have v1 := keepC hb0 hv
    have hbg : b ≠ gi := by have := hst.hB; omega
    have HC : Hid (∀ W, OnlyAt W1 W gm → W.cell? ⟨gd, 0, none⟩ = some (ptr g) ∧ W.cell? ⟨g, 0, none⟩ = some (.slice A ps.length cap) ∧ W.cell? ⟨gs, 0, none⟩ = some (iv (set : Int)) ∧ W.cell? ⟨gu, 0, none⟩ = some (upV gd gs gu gi) ∧ W.cell? ⟨b, 0, none⟩ = some (iv nd.lo) ∧ W.cell? ⟨b, 1, none⟩ = some (iv nd.hi) ∧ W.cell? ⟨b, 3, none⟩ = some (iv (nd.own : Int)) ∧ W.cell? ⟨b, 4, none⟩ = some (.slice A4 nd.kids.length cap4) ∧ W.cell? ⟨gi, 0, none⟩ = some (.bool v)) := Lib.hid fun W h => ⟨h.cell d1 hne1, h.cell d2 hne2, h.cell s1 hne3, h.cell u1 hne4, h.cell n0 hne5, h.cell n1 hne5, h.cell n3 hne5, h.cell n4 hne5, h.cell v1 hne6⟩
    have HRD : Hid (∀ W, OnlyAt W1 W gm → RdN 3 encPrt W B A ps) := Lib.hid fun W h => h.rdN hRd hBm
    have HM0 : Hid (MassAt W1 gm (ownTo ps nd.own set 0)) := Lib.hid (by rw [← hgm]; exact hm0)
    have HIH := Lib.hid ih
    have HKB := Lib.hid hkb
    have HKID := Lib.hid hkid
    have HB0 := Lib.hid hb0
    have hob := fun k => ownTo_bd hp nd.own set k
    have HOB := Lib.hid hob
    have HP := Lib.hid hp
    have HNN := Lib.hid hN
    have HKK := Lib.hid (hk i nd hnd)
    have HNO := Lib.hid hno
    have HHV := Lib.hid (And.intro hv hvf)
    clear hob hb0 hm0 hkb hkid ih hst hRd hp hno hv hvf hb hN hk hbB hne1 hne2 hne4 hne5 hne6 v1
    go_enter Try.func111, Try.ntmps111
    go_wp2
    clear hW1 d1 d2 s1 u1 n0 n1 n2 n3 n4
    go_loopw [20] (fun vi wr => ∃ k : Nat, k ≤ ps.length ∧ vi = .int .i64 k ∧ Hid (MassAt wr gm (ownTo ps nd.own set k)) ∧ Hid (OnlyAt W1 wr gm)) (fun vi _ => ps.length - (intOf vi).toNat)
    case atStart => exact ⟨0, Nat.zero_le _, rfl, HM0, Lib.hid (OnlyAt.refl _ _)⟩
    case round =>
      clear HM0
      obtain ⟨k, hk, rfl, HM, HO⟩ := hrel
      obtain ⟨d1, d2, s1, u1, n0, n1, n3, n4, v1⟩ := HC.out _ HO.out
      by_cases hlt : k < ps.length
      · obtain ⟨x, hx⟩ : ∃ x, ps[k]? = some x := ⟨_, List.getElem?_eq_getElem hlt⟩
        obtain ⟨bb, off, rfl, hbb, e0, e1, e2⟩ := prtAt (HRD.out _ HO.out) hx
        have hxo := HP.out x (List.mem_of_getElem? hx)
        obtain ⟨name, lo, hi⟩ := x
        simp only at e0 e1 e2 hxo
        obtain ⟨m0, m1, m2, m3, mf⟩ := HM.out
        have hlr := lt_of_cell m0
        have hlb := lt_of_cell n3
        have hls := lt_of_cell s1
        have hmb := HOB.out k
        have hsn : ownTo ps nd.own set (k + 1) = partM nd.own set k ⟨name, lo, hi⟩ (ownTo ps nd.own set k) := by rw [ownTo, hx]
        obtain ⟨M, hM⟩ : ∃ M, ownTo ps nd.own set k = M := ⟨_, rfl⟩
        rw [hM] at hmb hsn m0 m1 m2 m3
        obtain ⟨ma, mb, mc, md⟩ := M
        simp only [MB] at hmb m0 m1 m2 m3
        obtain ⟨q1, q2, q3, q4, q5, q6, q7, q8⟩ := hmb
        have f0 := mf 0
        have f1 := mf 1
        have f2 := mf 2
        have f3 := mf 3
        have HMF := Lib.hid mf
        have HSN := Lib.hid hsn
        have hown := HNO.out.2.2.2.2.1
        have hkz : (k : Int) < (ps.length : Int) := by omega
        have hk0 : (0 : Int) ≤ (k : Int) := by omega
        clear mf hM hsn hx HM
        cases h1 : nd.own.testBit k
        · have hb1 := bit64_f hown h1
          have HS2 : Hid (ownTo ps nd.own set (k + 1) = ⟨ma, mb, mc, md⟩) := Lib.hid (by rw [HSN.out]; simp [partM, hasP, h1])
          clear h1
          go_wp2
          go_roundw
          case rel => exact ⟨k + 1, by omega, by go_num, Lib.hid (by rw [HS2.out]; exact ⟨keepA m0 _, keepA m1 _, keepA m2 _, keepA m3 _, fun o => (keepAF hlr o _).trans (HMF.out o)⟩), Lib.hid (HO.out.alloc _)⟩
          case measure => simp [intOf]; omega
        · have hb1 := bit64_t hown h1
          cases h2 : set.testBit k
          · have hb2 := bit64_f hs h2
            have HS2 : Hid (ownTo ps nd.own set (k + 1) = ⟨ma + lo, mb + hi, mc, md⟩) := Lib.hid (by rw [HSN.out]; simp [partM, hasP, h1, h2])
            clear h1 h2
            go_wp2
            go_roundw
            case rel => exact ⟨k + 1, by omega, by go_num, Lib.hid (by rw [HS2.out]; exact ⟨by go_simp, by go_simp, by go_simp, by go_simp, fun o => (keepAF (by simpa using hlr) o _).trans (by simp only [World.frozen?_setCell]; exact HMF.out o)⟩), Lib.hid (((HO.out.set _ _).set _ _).alloc _)⟩
            case measure => simp [intOf]; omega
          · have hb2 := bit64_t hs h2
            have HS2 : Hid (ownTo ps nd.own set (k + 1) = ⟨ma + lo, mb + hi, mc + lo, md + hi⟩) := Lib.hid (by rw [HSN.out]; simp [partM, hasP, h1, h2])
            clear h1 h2
            go_wp2
            go_roundw
            case rel => exact ⟨k + 1, by omega, by go_num, Lib.hid (by rw [HS2.out]; exact ⟨by go_simp, by go_simp, by go_simp, by go_simp, fun o => (keepAF (by simpa using hlr) o _).trans (by simp only [World.frozen?_setCell]; exact HMF.out o)⟩), Lib.hid (((((HO.out.set _ _).set _ _).set _ _).set _ _).alloc _)⟩
            case measure => simp [intOf]; omega
      · obtain rfl : k = ps.length := by omega
        obtain ⟨F, hF⟩ : ∃ F, bdF f = F := ⟨_, rfl⟩
        have hFp := bdF_pos f
        rw [hF] at hbf hFp
        have hkb2 : ∀ k, k ≤ nd.kids.length → MB (800000 + 7 * F) (kidsTo N ps set f nd k).1 := fun k hk => (HKB.out k hk).mono (by
          rw [hF]
          have h7 := HNO.out.2.2.2.2.2
          have := Int.mul_le_mul_of_nonneg_right (show (k : Int) ≤ 7 by omega) (show 0 ≤ F by omega)
          omega)
        have hub : ∀ j, MB F (upF N ps set f j).1 := fun j => by rw [← hF]; exact upF_bd HP.out hl HNN.out f j
        have HKB2 := Lib.hid hkb2
        have HUB := Lib.hid hub
        have hO2 : OnlyAt w wr gi := OnlyAt.of_below (HO.out.below HB0.out (by omega)) gi
        have HO2 := Lib.hid hO2
        have HV2 : Hid (wr.cell? ⟨gi, 0, none⟩ = some (.bool (v && (kidsTo N ps set f nd 0).2)) ∧ wr.frozen? ⟨gi, 0, none⟩ = false) := Lib.hid ⟨by rw [kidsTo_zero]; simpa using v1, (HO.out.below HB0.out (by omega)).frozen (p := ⟨gi, 0, none⟩) hgi |>.trans HHV.out.2⟩
        have HM2 : Hid (MassAt wr gm (kidsTo N ps set f nd 0).1) := Lib.hid HM.out
        have hkl := HNO.out.2.2.2.2.2
        clear hF hkb2 hub hO2 HM
        go_wp2
        clear d1 d2 s1 u1 n0 n1 n3 n4 v1
        obtain ⟨wa, hwa⟩ : ∃ wa : World, wa = wr := ⟨_, rfl⟩
        subst hwa
        go_loopw [80] (fun vi wr => ∃ k : Nat, k ≤ nd.kids.length ∧ vi = .int .i64 k ∧ Hid (MassAt wr gm (kidsTo N ps set f nd k).1) ∧ Hid (OnlyAt w wr gi) ∧ Hid (wr.cell? ⟨gi, 0, none⟩ = some (.bool (v && (kidsTo N ps set f nd k).2)) ∧ wr.frozen? ⟨gi, 0, none⟩ = false)) (fun vi _ => nd.kids.length - (intOf vi).toNat)
        case atStart => exact ⟨0, Nat.zero_le _, rfl, HM2, HO2, HV2⟩
        case round =>
          clear HM2 HO2 HV2
          obtain ⟨k, hk, rfl, HM, HO2, HV2⟩ := hrel
          have hst2 := HST.out.only HO2.out
          have u1 := hst2.cu
          have HST2 := Lib.hid hst2
          obtain ⟨m0, m1, m2, m3, mf⟩ := HM.out
          have HMF := Lib.hid mf
          have hmb := HKB2.out k hk
          clear mf hst2
          by_cases hlt : k < nd.kids.length
          · obtain ⟨j, hj⟩ : ∃ j, nd.kids[k]? = some j := ⟨_, List.getElem?_eq_getElem hlt⟩
            obtain ⟨bb, off, bj, rfl, hbb, hbj, hcp⟩ := HKID.out k j hj
            have hcp := HO2.out.cell hcp (by have := HST.out.hB; omega)
            have hji : j < i := HKK.out j (List.mem_of_getElem? hj)
            have hcall := HIH.out j (by omega) (by omega) (by omega) bj _ wr hbj HST2.out HV2.out.1 HV2.out.2
            have hsn := kidsTo_succ (N := N) (ps := ps) (set := set) (f := f) hj
            have hub := HUB.out j
            obtain ⟨V0, hV0⟩ : ∃ V, (v && (kidsTo N ps set f nd k).2) = V := ⟨_, rfl⟩
            have hV1 : (v && (kidsTo N ps set f nd (k + 1)).2) = (V0 && (upF N ps set f j).2) := by rw [hsn, ← hV0, Bool.and_assoc]
            have hsn1 : (kidsTo N ps set f nd (k + 1)).1 = addM (kidsTo N ps set f nd k).1 (upF N ps set f j).1 := by rw [hsn]
            rw [hV0] at hcall
            obtain ⟨K, hK⟩ : ∃ K, (kidsTo N ps set f nd k).1 = K := ⟨_, rfl⟩
            obtain ⟨Y, hY⟩ : ∃ Y, (upF N ps set f j).1 = Y := ⟨_, rfl⟩
            rw [hY] at hcall hsn1 hub
            rw [hK] at hsn1 hmb m0 m1 m2 m3
            obtain ⟨ka, kb, kc, kd⟩ := K
            obtain ⟨ya, yb, yc, yd⟩ := Y
            simp only [MB] at hmb hub m0 m1 m2 m3
            obtain ⟨q1, q2, q3, q4, q5, q6, q7, q8⟩ := hmb
            obtain ⟨r1, r2, r3, r4, r5, r6, r7, r8⟩ := hub
            have HCALL := Lib.hid hcall
            have HS1 := Lib.hid hsn1
            have HV1 := Lib.hid hV1
            have hgml := lt_of_cell m0
            have hgw : w.heap.size ≤ gm := by omega
            have hgg : gi ≠ gm := by omega
            have hkz : (k : Int) < (nd.kids.length : Int) := by omega
            have hk0 : (0 : Int) ≤ (k : Int) := by omega
            clear hcall hsn hsn1 hV1 hV0 hK hY hj hbj
            go_wp2_with fail
            refine HCALL.out.mono ?_
            rintro e w5 ⟨rfl, ho5, hv5, hf5⟩
            have m0 := ho5.cell m0 (by omega)
            have m1 := ho5.cell m1 (by omega)
            have m2 := ho5.cell m2 (by omega)
            have m3 := ho5.cell m3 (by omega)
            have hg5 := lt_of_cell m0
            have hMF5 : ∀ o, w5.frozen? ⟨gm, o, none⟩ = false := fun o => (ho5.frozen o hgml (by omega)).trans (HMF.out o)
            have f0 := hMF5 0
            have f1 := hMF5 1
            have f2 := hMF5 2
            have f3 := hMF5 3
            have HMF5 := Lib.hid hMF5
            have HO5 := Lib.hid (HO2.out.trans ho5)
            have HV5 := Lib.hid (And.intro hv5 hf5)
            have hgi5 := lt_of_cell hv5
            clear hMF5 ho5 hv5 hf5 HCALL u1 hcp
            go_wp2
            go_roundw
            case rel => exact ⟨k + 1, by omega, by go_num, Lib.hid (by rw [HS1.out]; exact ⟨by go_simp; rfl, by go_simp; rfl, by go_simp; rfl, by go_simp; rfl, fun o => (keepAF (by simpa using hg5) o _).trans (by simp only [World.frozen?_setCell]; exact HMF5.out o)⟩), Lib.hid (((((HO5.out.new hgw _ _).new hgw _ _).new hgw _ _).new hgw _ _).alloc _), Lib.hid ⟨by rw [HV1.out]; exact keepA (keepSet (keepSet (keepSet (keepSet HV5.out.1 hgg) hgg) hgg) hgg) _, (keepAF (by simpa using hgi5) 0 _).trans (by simp only [World.frozen?_setCell]; exact HV5.out.2)⟩⟩
            case measure => simp [intOf]; omega
          · obtain rfl : k = nd.kids.length := by omega
            obtain ⟨V0, hV0⟩ : ∃ V, (v && (kidsTo N ps set f nd nd.kids.length).2) = V := ⟨_, rfl⟩
            have hv2 := HV2.out
            rw [hV0] at hv2
            have hfin : ∀ (m : Mass) (vv : Bool) (w' : World), m = (capM nd.lo nd.hi (kidsTo N ps set f nd nd.kids.length).1).1 → vv = (V0 && (capM nd.lo nd.hi (kidsTo N ps set f nd nd.kids.length).1).2) → OnlyAt w w' gi → w'.cell? ⟨gi, 0, none⟩ = some (.bool vv) → w'.frozen? ⟨gi, 0, none⟩ = false →
                UpPost (capM nd.lo nd.hi (kidsTo N ps set f nd nd.kids.length).1).1 (v && ((kidsTo N ps set f nd nd.kids.length).2 && (capM nd.lo nd.hi (kidsTo N ps set f nd nd.kids.length).1).2)) gi w (.returned (massV m)) w' := by
              intro m vv w' h1 h2 h3 h4 h5
              subst h1 h2
              exact ⟨rfl, h3, by rw [h4, ← hV0, Bool.and_assoc], h5⟩
            have HFIN := Lib.hid hfin
            clear hfin
            obtain ⟨K, hK⟩ : ∃ K, (kidsTo N ps set f nd nd.kids.length).1 = K := ⟨_, rfl⟩
            rw [hK] at hmb m0 m1 m2 m3
            have HK := Lib.hid hK
            obtain ⟨ka, kb, kc, kd⟩ := K
            simp only [MB] at hmb m0 m1 m2 m3
            obtain ⟨q1, q2, q3, q4, q5, q6, q7, q8⟩ := hmb
            have hno := HNO.out
            obtain ⟨o1, o2, o3, o4, _, _⟩ := hno
            have n0 := HO2.out.cell n0 hbg
            have n1 := HO2.out.cell n1 hbg
            obtain ⟨hv2, hf2⟩ := hv2
            have hmax : (if ka < nd.lo then nd.lo else ka) = max ka nd.lo := by split <;> omega
            have hmin : (if nd.hi < kb then nd.hi else kb) = min kb nd.hi := by split <;> omega
            obtain ⟨L, hL⟩ : ∃ L, max ka nd.lo = L := ⟨_, rfl⟩
            obtain ⟨U, hU⟩ : ∃ U, min kb nd.hi = U := ⟨_, rfl⟩
            have l1 : 0 ≤ L ∧ L ≤ 400000000000000000 := by omega
            have l2 : 0 ≤ U ∧ U ≤ 400000000000000000 := by omega
            obtain ⟨l1, l1'⟩ := l1
            obtain ⟨l2, l2'⟩ := l2
            rw [hL] at hmax
            rw [hU] at hmin
            have hcap : (capM nd.lo nd.hi ⟨ka, kb, kc, kd⟩) = (⟨L, U, min kd (kc + L - ka), min kd (kc + U - ka)⟩, decide (L ≤ U)) := by unfold capM; simp only [hL, hU]
            have HCAP := Lib.hid hcap
            have q5' : -400000000000000000 ≤ kc := by omega
            have q6' : kc ≤ 400000000000000000 := by omega
            have q2' : ka ≤ 400000000000000000 := by omega
            have q7' : -400000000000000000 ≤ kd := by omega
            have q8' : kd ≤ 400000000000000000 := by omega
            have hmn1 : (if kc + L - ka < kd then kc + L - ka else kd) = min kd (kc + L - ka) := by split <;> omega
            have hmn2 : (if kc + U - ka < kd then kc + U - ka else kd) = min kd (kc + U - ka) := by split <;> omega
            clear hK hV0 hL hU hcap o1 o2 o3 o4 q3 q4 q5 q6 q2 q7 q8
            have f0 := HMF.out 0
            have f1 := HMF.out 1
            have f2 := HMF.out 2
            have f3 := HMF.out 3
            go_wp2
            go_quiet (fail)
            have HN := Lib.hid (HO2.out.belowN' nq)
            have m0 : (wr.drewN nq).cell? ⟨gm, 0, none⟩ = some (.int .i64 ka) := m0
            have m1 : (wr.drewN nq).cell? ⟨gm, 1, none⟩ = some (.int .i64 kb) := m1
            have m2 : (wr.drewN nq).cell? ⟨gm, 2, none⟩ = some (.int .i64 kc) := m2
            have m3 : (wr.drewN nq).cell? ⟨gm, 3, none⟩ = some (.int .i64 kd) := m3
            have f0 : (wr.drewN nq).frozen? ⟨gm, 0, none⟩ = false := f0
            have f1 : (wr.drewN nq).frozen? ⟨gm, 1, none⟩ = false := f1
            have f2 : (wr.drewN nq).frozen? ⟨gm, 2, none⟩ = false := f2
            have f3 : (wr.drewN nq).frozen? ⟨gm, 3, none⟩ = false := f3
            have hv2 : (wr.drewN nq).cell? ⟨gi, 0, none⟩ = some (.bool V0) := hv2
            have hf2 : (wr.drewN nq).frozen? ⟨gi, 0, none⟩ = false := hf2
            have HMF2 : Hid (∀ o, (wr.drewN nq).frozen? ⟨gm, o, none⟩ = false) := Lib.hid HMF.out
            have hgg : gi ≠ gm := by omega

            clear hmax hmin u1 HMF HM HO2 HV2 HST2 n0 n1
            generalize wr.drewN nq = wz at *
            have hgw : w.heap.size ≤ gm := by omega
            cases V0
            · go_wp2
              refine bodyPost_ret (v := massV ⟨L, U, min kd (kc + L - ka), min kd (kc + U - ka)⟩) (by simp [results, Try.results111, go_sem, m0, m1, m2, m3]) rfl ?_
              exact HFIN.out _ false _ (by rw [HK.out, HCAP.out]) (by rw [HK.out, HCAP.out]; rfl) (((((HN.out.set 0 _).new hgw 0 _).new hgw 1 _).new hgw 2 _).new hgw 3 _) (keepSet (keepSet (keepSet (keepSet (World.cell?_setCell_same _ ⟨gi, 0, none⟩ _ hv2) hgg) hgg) hgg) hgg) (by simp only [World.frozen?_setCell]; exact hf2)
            · go_wp2
              refine bodyPost_ret (v := massV ⟨L, U, min kd (kc + L - ka), min kd (kc + U - ka)⟩) (by simp [results, Try.results111, go_sem, m0, m1, m2, m3]) rfl ?_
              exact HFIN.out _ (decide (L ≤ U)) _ (by rw [HK.out, HCAP.out]) (by rw [HK.out, HCAP.out]; rfl) (((((HN.out.set 0 _).new hgw 0 _).new hgw 1 _).new hgw 2 _).new hgw 3 _) (keepSet (keepSet (keepSet (keepSet (World.cell?_setCell_same _ ⟨gi, 0, none⟩ _ hv2) hgg) hgg) hgg) hgg) (by simp only [World.frozen?_setCell]; exact hf2)
end Go.Proofs.Ytojgdallodmanaa

namespace Go.Proofs.Ytojgdallodmanaa
open Go.RowKit

set_option maxRecDepth 100000 in
set_option maxHeartbeats 2000000 in
theorem reg76_5 {Q : Exit → Act → World → Prop} {V : World} {gm gi : Nat} {ma mb mc md : Int} {v : Bool} {z0 z1 z2 z3 z6 z7 z8 z9 z10 z11 z12 z13 z14 z15 : Value} (hne : gm ≠ gi)
    (k0 : V.cell? ⟨gm, 0, none⟩ = some (.int .i64 ma)) (k1 : V.cell? ⟨gm, 1, none⟩ = some (.int .i64 mb)) (k2 : V.cell? ⟨gm, 2, none⟩ = some (.int .i64 mc)) (k3 : V.cell? ⟨gm, 3, none⟩ = some (.int .i64 md)) (kv : V.cell? ⟨gi, 0, none⟩ = some (.bool v))
    (f0 : V.frozen? ⟨gm, 0, none⟩ = false) (f1 : V.frozen? ⟨gm, 1, none⟩ = false) (f2 : V.frozen? ⟨gm, 2, none⟩ = false) (f3 : V.frozen? ⟨gm, 3, none⟩ = false) (kg : V.frozen? ⟨gi, 0, none⟩ = false)
    (hQ : ∀ u14 u15 wx, wx.cell? ⟨gm, 0, none⟩ = some (.int .i64 ma) → wx.cell? ⟨gm, 1, none⟩ = some (.int .i64 mb) → wx.cell? ⟨gm, 2, none⟩ = some (.int .i64 mc) → wx.cell? ⟨gm, 3, none⟩ = some (.int .i64 md) → wx.cell? ⟨gi, 0, none⟩ = some (.bool v) → (∀ n (a : World), n ≤ gm → n ≤ gi → Below n a V → Below n a wx) → Q .normal ⟨#[z0, z1, z2, z3, .pointer (some ⟨gm, 0, none⟩), .pointer (some ⟨gi, 0, none⟩), z6, z7, z8, z9, z10, z11, z12, z13, u14, u15], []⟩ wx) :
    (regionOf Try.f76 5).wp Try.prog Q ⟨#[z0, z1, z2, z3, .pointer (some ⟨gm, 0, none⟩), .pointer (some ⟨gi, 0, none⟩), z6, z7, z8, z9, z10, z11, z12, z13, z14, z15], []⟩ V := by
  have HQ := Lib.hid hQ
  have hne2 : gi ≠ gm := fun e => hne e.symm
  clear hQ
  conv => arg 2; whnf
  go_region_held3 (fun W => W.cell? ⟨gm, 0, none⟩ = some (.int .i64 ma) ∧ W.cell? ⟨gm, 1, none⟩ = some (.int .i64 mb) ∧ W.cell? ⟨gm, 2, none⟩ = some (.int .i64 mc) ∧ W.cell? ⟨gm, 3, none⟩ = some (.int .i64 md) ∧ W.cell? ⟨gi, 0, none⟩ = some (.bool v)) (refine ⟨?_, ?_, ?_, ?_, ?_⟩ <;> go_simp) (fail)
  exact HQ.out _ _ _ (by go_simp) (by go_simp) (by go_simp) (by go_simp) (by go_simp) (fun n a h1 h2 h => belowDr (((((h.setCell (p := ⟨gm, 0, none⟩) h1 _).setCell (p := ⟨gm, 1, none⟩) h1 _).setCell (p := ⟨gm, 2, none⟩) h1 _).setCell (p := ⟨gm, 3, none⟩) h1 _).setCell (p := ⟨gi, 0, none⟩) h2 _))

/-- What weighings say of a hull: its nodes, and where they lie; the root is the last one. -/
structure TreeOk (ps : List Prt) (N : List Nd) : Prop where
  po : PsOk ps
  pl : ps.length ≤ 8
  nd : NOk N
  n0 : 0 < N.length
  n7 : N.length ≤ 7
  kid : ∀ (i : Nat) (nd : Nd), N[i]? = some nd → ∀ j ∈ nd.kids, j < i
def wgh (ps : List Prt) (N : List Nd) (set : Nat) : Mass × Bool := upF N ps set N.length (N.length - 1)
def WeighPost (m : Mass) (v : Bool) (w : World) (e : Ending) (w' : World) : Prop := e = .returned (.tuple #[massV m, .bool v]) ∧ Below w.heap.size w w'

set_option maxRecDepth 100000 in
set_option maxHeartbeats 8000000 in
theorem weigh_any (B g : Nat) (A : Option Addr) (cap : Nat) (ps : List Prt) (set : Nat) (N : List Nd) (bs : List Nat) (br : Nat) (w : World) (hT : TreeOk ps N) (hs : set < 256)
    (hbr : bs[N.length - 1]? = some br) (htab : TabAt w B N bs) (d0 : w.cell? ⟨g, 0, none⟩ = some (.slice A ps.length cap)) (d5 : w.cell? ⟨g, 5, none⟩ = some (ptr br)) (hR : RdN 3 encPrt w B A ps) (hgB : g < B) (hB : B ≤ w.heap.size) :
    Calls Try.prog 76 #[ptr g, .int .i64 set] w (WeighPost (wgh ps N set).1 (wgh ps N set).2 w) := by
  obtain ⟨W1, hW1⟩ : ∃ W1, ((((w.alloc (.cells #[ptr g] 99)).alloc (.cells #[.int .i64 set] 3)).alloc (.cells #[.int .i64 0, .int .i64 0, .int .i64 0, .int .i64 0] 117)).alloc (.cells #[.bool true] 4)).alloc (.cells #[upV w.heap.size (w.heap.size + 1) (w.heap.size + 1 + 1 + 1 + 1) (w.heap.size + 1 + 1 + 1)] 152) = W1 := ⟨_, rfl⟩
  have hb0 : Below w.heap.size w W1 := by rw [← hW1]; exact belowA (belowA (belowA (belowA (belowA (belowR _) _) _) _) _) _
  have c0 : W1.cell? ⟨w.heap.size, 0, none⟩ = some (ptr g) := by rw [← hW1]; clear hW1; go_simp
  have c1 : W1.cell? ⟨w.heap.size + 1, 0, none⟩ = some (.int .i64 set) := by rw [← hW1]; clear hW1; go_simp
  have m0 : W1.cell? ⟨w.heap.size + 1 + 1, 0, none⟩ = some (.int .i64 0) := by rw [← hW1]; clear hW1; go_simp
  have mf : ∀ o, W1.frozen? ⟨w.heap.size + 1 + 1, o, none⟩ = false := by rw [← hW1]; clear hW1; intro o; go_simp
  have m1 : W1.cell? ⟨w.heap.size + 1 + 1, 1, none⟩ = some (.int .i64 0) := by rw [← hW1]; clear hW1; go_simp
  have m2 : W1.cell? ⟨w.heap.size + 1 + 1, 2, none⟩ = some (.int .i64 0) := by rw [← hW1]; clear hW1; go_simp
  have m3 : W1.cell? ⟨w.heap.size + 1 + 1, 3, none⟩ = some (.int .i64 0) := by rw [← hW1]; clear hW1; go_simp
  have c3 : W1.cell? ⟨w.heap.size + 1 + 1 + 1, 0, none⟩ = some (.bool true) := by rw [← hW1]; clear hW1; go_simp
  have c3f : W1.frozen? ⟨w.heap.size + 1 + 1 + 1, 0, none⟩ = false := by rw [← hW1]; clear hW1; go_simp
  have c4 : W1.cell? ⟨w.heap.size + 1 + 1 + 1 + 1, 0, none⟩ = some (upV w.heap.size (w.heap.size + 1) (w.heap.size + 1 + 1 + 1 + 1) (w.heap.size + 1 + 1 + 1)) := by rw [← hW1]; clear hW1; go_simp
  have d0 := keepC hb0 d0
  have d5 := keepC hb0 d5
  have htab1 : TabAt W1 B N bs := htab.only (OnlyAt.of_below hb0 w.heap.size) hB
  have hst : UpSt W1 B g w.heap.size (w.heap.size + 1) (w.heap.size + 1 + 1 + 1 + 1) (w.heap.size + 1 + 1 + 1) A cap ps set N bs :=
    ⟨htab1, d0, hR.below hb0 hB, c0, c1, c4, hgB, by omega, by omega, by omega, by omega⟩
  have hup := up_any B g w.heap.size (w.heap.size + 1) (w.heap.size + 1 + 1 + 1 + 1) (w.heap.size + 1 + 1 + 1) A cap ps set N bs hT.po hT.pl hT.nd hs hT.kid N.length (N.length - 1) hT.n7 (by have := hT.n0; omega) (by have := hT.n0; omega) br true W1.drew hbr
    ⟨fun i nd hi => htab1 i nd hi, d0, hst.rd, c0, c1, c4, hgB, by omega, by omega, by omega, by omega⟩ c3 c3f
  obtain ⟨M, hM⟩ : ∃ M, (upF N ps set N.length (N.length - 1)).1 = M := ⟨_, rfl⟩
  obtain ⟨V, hV⟩ : ∃ V, (upF N ps set N.length (N.length - 1)).2 = V := ⟨_, rfl⟩
  rw [hM, hV] at hup
  have hres : WeighPost (wgh ps N set).1 (wgh ps N set).2 w = WeighPost M V w := by unfold wgh; rw [hM, hV]
  rw [hres]
  have HUP := Lib.hid hup
  have HB0 := Lib.hid hb0
  clear hup hM hV hres hst htab htab1 hR hT hbr
  go_enter Try.func76, Try.ntmps76
  go_wp2
  clear hW1
  have HC : Hid (∀ W, OnlyAt W1 W (w.heap.size + 1 + 1 + 1) → W.cell? ⟨w.heap.size + 1 + 1 + 1 + 1, 0, none⟩ = some (upV w.heap.size (w.heap.size + 1) (w.heap.size + 1 + 1 + 1 + 1) (w.heap.size + 1 + 1 + 1)) ∧ W.cell? ⟨w.heap.size, 0, none⟩ = some (ptr g) ∧ W.cell? ⟨g, 5, none⟩ = some (ptr br)) := Lib.hid fun W h => ⟨h.cell c4 (by omega), h.cell c0 (by omega), h.cell d5 (by omega)⟩
  have HM : Hid (∀ W, OnlyAt W1 W (w.heap.size + 1 + 1 + 1) → W.cell? ⟨w.heap.size + 1 + 1, 0, none⟩ = some (.int .i64 0) ∧ W.cell? ⟨w.heap.size + 1 + 1, 1, none⟩ = some (.int .i64 0) ∧ W.cell? ⟨w.heap.size + 1 + 1, 2, none⟩ = some (.int .i64 0) ∧ W.cell? ⟨w.heap.size + 1 + 1, 3, none⟩ = some (.int .i64 0)) := Lib.hid fun W h => ⟨h.cell m0 (by omega), h.cell m1 (by omega), h.cell m2 (by omega), h.cell m3 (by omega)⟩
  have HMF : Hid (∀ W, OnlyAt W1 W (w.heap.size + 1 + 1 + 1) → ∀ o, W.frozen? ⟨w.heap.size + 1 + 1, o, none⟩ = false) := Lib.hid fun W h o => (h.frozen o (lt_of_cell m0) (by omega)).trans (mf o)
  clear c0 c1 m0 m1 m2 m3 mf c3 c3f c4 d0 d5
  obtain ⟨ma, mb, mc, md⟩ := M
  have HD0 : Hid (OnlyAt W1 W1.drew (w.heap.size + 1 + 1 + 1)) := Lib.hid ((OnlyAt.refl W1 _).drew)
  go_region_held3 (fun W => W.cell? ⟨w.heap.size + 1 + 1 + 1 + 1, 0, none⟩ = some (upV w.heap.size (w.heap.size + 1) (w.heap.size + 1 + 1 + 1 + 1) (w.heap.size + 1 + 1 + 1)) ∧ W.cell? ⟨w.heap.size, 0, none⟩ = some (ptr g) ∧ W.cell? ⟨g, 5, none⟩ = some (ptr br)) (first | exact HC.out W1.drew HD0.out | exact HC.out w1 ho | exact ⟨keepSet (keepSet (keepSet (keepSet (HC.out _ ho).1 (by omega)) (by omega)) (by omega)) (by omega), keepSet (keepSet (keepSet (keepSet (HC.out _ ho).2.1 (by omega)) (by omega)) (by omega)) (by omega), keepSet (keepSet (keepSet (keepSet (HC.out _ ho).2.2 (by omega)) (by omega)) (by omega)) (by omega)⟩) (((go_at_call 111; refine HUP.out.mono ?_; rintro e w1 ⟨rfl, ho1, hv1, hf1⟩; have ho : OnlyAt W1 w1 (w.heap.size + 1 + 1 + 1) := ⟨ho1.os, ho1.tape, ho1.output, ho1.size, ho1.block⟩; obtain ⟨m0, m1, m2, m3⟩ := HM.out _ ho; have f0 := HMF.out _ ho 0; have f1 := HMF.out _ ho 1; have f2 := HMF.out _ ho 2; have f3 := HMF.out _ ho 3)))
  have hb1 : Below w.heap.size w w1 := ho.below HB0.out (by omega)
  have hb2 : Below w.heap.size w ((((w1.setCell ⟨w.heap.size + 1 + 1, 0, none⟩ (.int .i64 ma)).setCell ⟨w.heap.size + 1 + 1, 1, none⟩ (.int .i64 mb)).setCell ⟨w.heap.size + 1 + 1, 2, none⟩ (.int .i64 mc)).setCell ⟨w.heap.size + 1 + 1, 3, none⟩ (.int .i64 md)) := belowS (belowS (belowS (belowS hb1 (by simp only; omega) _) (by simp only; omega) _) (by simp only; omega) _) (by simp only; omega) _
  obtain ⟨wx, hwx⟩ : ∃ wx, (((w1.setCell ⟨w.heap.size + 1 + 1, 0, none⟩ (.int .i64 ma)).setCell ⟨w.heap.size + 1 + 1, 1, none⟩ (.int .i64 mb)).setCell ⟨w.heap.size + 1 + 1, 2, none⟩ (.int .i64 mc)).setCell ⟨w.heap.size + 1 + 1, 3, none⟩ (.int .i64 md) = wx := ⟨_, rfl⟩
  have k0 : wx.cell? ⟨w.heap.size + 1 + 1, 0, none⟩ = some (.int .i64 ma) := by rw [← hwx]; clear hwx; go_simp
  have k1 : wx.cell? ⟨w.heap.size + 1 + 1, 1, none⟩ = some (.int .i64 mb) := by rw [← hwx]; clear hwx; go_simp
  have k2 : wx.cell? ⟨w.heap.size + 1 + 1, 2, none⟩ = some (.int .i64 mc) := by rw [← hwx]; clear hwx; go_simp
  have k3 : wx.cell? ⟨w.heap.size + 1 + 1, 3, none⟩ = some (.int .i64 md) := by rw [← hwx]; clear hwx; go_simp
  have kv : wx.cell? ⟨w.heap.size + 1 + 1 + 1, 0, none⟩ = some (.bool V) := by rw [← hwx]; rw [Bool.true_and] at hv1; exact keepSet (keepSet (keepSet (keepSet hv1 (by omega)) (by omega)) (by omega)) (by omega)
  have kf : ∀ o, wx.frozen? ⟨w.heap.size + 1 + 1, o, none⟩ = false := by rw [← hwx]; intro o; simp only [World.frozen?_setCell]; exact HMF.out _ ho o
  have kg : wx.frozen? ⟨w.heap.size + 1 + 1 + 1, 0, none⟩ = false := by rw [← hwx]; simp only [World.frozen?_setCell]; exact hf1
  have f0 := kf 0
  have f1 := kf 1
  have f2 := kf 2
  have f3 := kf 3
  rw [hwx] at hb2 ⊢
  have HBX := Lib.hid hb2
  rename_i hHeld
  rw [hwx] at hHeld
  clear hHeld hwx
  clear hb1 hb2 ho ho1 hv1 hf1 m0 m1 m2 m3 HC HM HMF HUP HD0
  go_upto_region 5 with fail
  refine reg76_5 (by omega) k0 k1 k2 k3 kv f0 f1 f2 f3 kg ?_
  intro u14 u15 wy y0 y1 y2 y3 yv hby
  have hb3 := hby w.heap.size w (by omega) (by omega) HBX.out
  have HB3 := Lib.hid hb3
  clear hby hb3 k0 k1 k2 k3 kv f0 f1 f2 f3 kf kg HBX
  go_wp2
  refine bodyPost_ret (v := .tuple #[massV ⟨ma, mb, mc, md⟩, .bool V]) (by simp [results, Try.results76, go_sem, y0, y1, y2, y3, yv]) rfl ?_
  exact ⟨rfl, HB3.out⟩
end Go.Proofs.Ytojgdallodmanaa

namespace Go.Proofs.Ytojgdallodmanaa
open Go.RowKit

/-- No cell of the tree lies in the block g. -/
def TabOff (w : World) (g : Nat) (N : List Nd) (bs : List Nat) : Prop := ∀ (i : Nat) (nd : Nd), N[i]? = some nd → ∀ b, bs[i]? = some b → b ≠ g ∧ ∀ (ad : Addr) (n cap : Nat), w.cell? ⟨b, 4, none⟩ = some (.slice (some ad) n cap) → ad.block ≠ g
theorem TabAt.only2 {W w1 : World} {g B : Nat} {N : List Nd} {bs : List Nat} (h : TabAt W B N bs) (hf : TabOff W g N bs) (ho : OnlyAt W w1 g) : TabAt w1 B N bs := by
  intro i nd hi
  obtain ⟨b, h1, h2, c0, c1, c2, c3, A, cap, c4, hk⟩ := h i nd hi
  obtain ⟨hbg, hs⟩ := hf i nd hi b h1
  refine ⟨b, h1, h2, ho.cell c0 hbg, ho.cell c1 hbg, ho.cell c2 hbg, ho.cell c3 hbg, A, cap, ho.cell c4 hbg, fun k j hkj => ?_⟩
  obtain ⟨bb, off, bj, e, hb, hj, hc⟩ := hk k j hkj
  subst e
  exact ⟨bb, off, bj, rfl, hb, hj, ho.cell hc (hs _ _ _ c4)⟩
theorem TabOff.keep {W w1 : World} {g B : Nat} {N : List Nd} {bs : List Nat} (h : TabAt W B N bs) (hf : TabOff W g N bs) (hk : ∀ b, b < B → ∀ v, W.cell? ⟨b, 4, none⟩ = some v → b ≠ g → w1.cell? ⟨b, 4, none⟩ = some v) : TabOff w1 g N bs := by
  intro i nd hi b hb
  obtain ⟨hbg, hs⟩ := hf i nd hi b hb
  refine ⟨hbg, fun ad n cap hc => ?_⟩
  obtain ⟨b', e', h2, _, _, _, _, A, cap', c4, _⟩ := h i nd hi
  rw [hb] at e'
  injection e' with e'
  subst e'
  have := hk b h2 _ c4 hbg
  rw [this] at hc
  injection hc with hc
  rw [hc] at c4
  exact hs ad n cap c4

/-- A deck that is looked at: its hull, the tree of its weighings; what is known lies apart, in the block km. -/
structure DeckSt (w : World) (B g : Nat) (h : Hul) (A : Option Addr) (cap : Nat) (J : Option Addr) (capJ : Nat) (N : List Nd) (bs : List Nat) (br km : Nat) : Prop where
  c0 : w.cell? ⟨g, 0, none⟩ = some (.slice A h.ps.length cap)
  c1 : w.cell? ⟨g, 1, none⟩ = some (.slice J h.js.length capJ)
  c2 : w.cell? ⟨g, 2, none⟩ = some (.int .i64 h.slo)
  c3 : w.cell? ⟨g, 3, none⟩ = some (.int .i64 h.shi)
  c4 : w.cell? ⟨g, 4, none⟩ = some (.int .i64 h.winch)
  c5 : w.cell? ⟨g, 5, none⟩ = some (ptr br)
  c6 : w.cell? ⟨g, 6, none⟩ = some (.map (some km))
  tab : TabAt w B N bs
  off : TabOff w km N bs
  root : bs[N.length - 1]? = some br
  rd : ∃ B0, B0 ≤ B ∧ B0 ≤ km ∧ RdN 3 encPrt w B0 A h.ps ∧ RdN 2 encSp w B0 J h.js
  gB : g < B
  gk : g ≠ km
  hB : B ≤ w.heap.size
section
variable {w w1 : World} {B g : Nat} {h : Hul} {A : Option Addr} {cap : Nat} {J : Option Addr} {capJ : Nat} {N : List Nd} {bs : List Nat} {br km x : Nat}
theorem DeckSt.rp (H : DeckSt w B g h A cap J capJ N bs br km) : RdN 3 encPrt w B A h.ps := by
  obtain ⟨B0, h1, _, h2, _⟩ := H.rd
  exact h2.more h1
theorem DeckSt.rj (H : DeckSt w B g h A cap J capJ N bs br km) : RdN 2 encSp w B J h.js := by
  obtain ⟨B0, h1, _, _, h2⟩ := H.rd
  exact h2.more h1
theorem DeckSt.only (H : DeckSt w B g h A cap J capJ N bs br km) (ho : OnlyAt w w1 x) (hx : x = km ∨ B ≤ x) : DeckSt w1 B g h A cap J capJ N bs br km := by
  have hg := H.gB
  have hgk := H.gk
  have hgx : g ≠ x := by omega
  obtain ⟨B0, r1, r2, r3, r4⟩ := H.rd
  have htab : TabAt w1 B N bs := by
    rcases hx with rfl | hx
    · exact H.tab.only2 H.off ho
    · exact H.tab.only ho hx
  exact ⟨ho.cell H.c0 hgx, ho.cell H.c1 hgx, ho.cell H.c2 hgx, ho.cell H.c3 hgx, ho.cell H.c4 hgx, ho.cell H.c5 hgx, ho.cell H.c6 hgx, htab, TabOff.keep H.tab H.off (fun b hb v hv hbk => ho.cell hv (by omega)), H.root, ⟨B0, r1, r2, ho.rdN r3 (by omega), ho.rdN r4 (by omega)⟩, H.gB, H.gk, Nat.le_trans H.hB ho.size⟩
theorem DeckSt.below (H : DeckSt w B g h A cap J capJ N bs br km) (hb : Below w.heap.size w w1) : DeckSt w1 B g h A cap J capJ N bs br km :=
  H.only (OnlyAt.of_below hb w.heap.size) (.inr H.hB)
end

theorem DeckSt.weigh {w : World} {B g : Nat} {h : Hul} {A : Option Addr} {cap : Nat} {J : Option Addr} {capJ : Nat} {N : List Nd} {bs : List Nat} {br km : Nat} (H : DeckSt w B g h A cap J capJ N bs br km) (hT : TreeOk h.ps N) {set : Nat} (hs : set < 256) : Calls Try.prog 76 #[ptr g, .int .i64 set] w (WeighPost (wgh h.ps N set).1 (wgh h.ps N set).2 w) :=
  weigh_any B g A cap h.ps set N bs br w hT hs H.root H.tab H.c0 H.c5 H.rp H.gB H.hB

def leastV (h : Hul) (N : List Nd) (set : Nat) : Int := (wgh h.ps N (2 ^ h.ps.length - 1 - set)).1.alo - (wgh h.ps N (2 ^ h.ps.length - 1 - set)).1.slo
def mostV (h : Hul) (N : List Nd) (set : Nat) : Int := (wgh h.ps N set).1.shi

theorem wgh_bd {ps : List Prt} {N : List Nd} (hT : TreeOk ps N) (set : Nat) : MB 42949672960000000 (wgh ps N set).1 := by
  have := (upF_bd (set := set) hT.po hT.pl hT.nd N.length (N.length - 1)).mono (bdF_mono (show N.length ≤ 8 by have := hT.n7; omega))
  rwa [bdF_eight] at this

set_option maxRecDepth 100000 in
set_option maxHeartbeats 2000000 in
theorem least_any {w : World} {B g : Nat} {h : Hul} {A : Option Addr} {cap : Nat} {J : Option Addr} {capJ : Nat} {N : List Nd} {bs : List Nat} {br km : Nat} (H : DeckSt w B g h A cap J capJ N bs br km) (hT : TreeOk h.ps N) (set : Nat) (hs : set < 2 ^ h.ps.length) :
    Calls Try.prog 64 #[ptr g, .int .i64 set] w fun e w' => e = .returned (iv (leastV h N set)) ∧ Below w.heap.size w w' := by
  have hp : 2 ^ h.ps.length ≤ 256 := by
    have := Nat.pow_le_pow_right (show 0 < 2 by decide) hT.pl
    omega
  have hpl := hT.pl
  have hsh := shl1 h.ps.length (by omega)
  have hw := H.weigh hT (set := 2 ^ h.ps.length - 1 - set) (by omega)
  have hbd := wgh_bd hT (2 ^ h.ps.length - 1 - set)
  have hlv : leastV h N set = (wgh h.ps N (2 ^ h.ps.length - 1 - set)).1.alo - (wgh h.ps N (2 ^ h.ps.length - 1 - set)).1.slo := rfl
  have hcast : (((2 ^ h.ps.length : Nat) : Int) - 1 - (set : Int)) = ((2 ^ h.ps.length - 1 - set : Nat) : Int) := by omega
  have c0 := H.c0
  obtain ⟨P, hP⟩ : ∃ P, (2 ^ h.ps.length : Nat) = P := ⟨_, rfl⟩
  rw [hP] at hsh hw hbd hlv hcast hp hs
  obtain ⟨S, hS⟩ : ∃ S, P - 1 - set = S := ⟨_, rfl⟩
  rw [hS] at hw hbd hlv hcast
  obtain ⟨M, hM⟩ : ∃ M, (wgh h.ps N S).1 = M := ⟨_, rfl⟩
  obtain ⟨V, hV⟩ : ∃ V, (wgh h.ps N S).2 = V := ⟨_, rfl⟩
  rw [hM] at hw hbd hlv
  rw [hV] at hw
  rw [hlv]
  obtain ⟨ma, mb, mc, md⟩ := M
  simp only [MB] at hbd ⊢
  obtain ⟨q1, q2, q3, q4, q5, q6, q7, q8⟩ := hbd
  have HW := Lib.hid hw
  clear hw hlv hP hS hM hV H
  go_enter Try.func64, Try.ntmps64
  go_wp2_with fail
  refine HW.out.mono ?_
  rintro e w1 ⟨rfl, hb⟩
  have HB := Lib.hid hb
  clear hb hcast
  go_wp2
  go_ret
  exact ⟨rfl, belowA HB.out _⟩
end Go.Proofs.Ytojgdallodmanaa
