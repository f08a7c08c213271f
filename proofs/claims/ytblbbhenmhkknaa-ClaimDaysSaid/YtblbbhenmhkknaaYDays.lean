/- ClaimDays: the law's function. -/
import Derived.Deep.DeepCutAuto
import Derived.Test.YtblbbhenmhkknaaZ3435f0
import Derived.Test.YtblbbhenmhkknaaYL5
import Derived.Test.YtblbbhenmhkknaaYD2
import Derived.Test.YtblbbhenmhkknaaYD4
namespace Go.Proofs.Ytblbbhenmhkknaa
open Go.RowKit Go.Sort

theorem papsOk_snoc {ps : List Pap} {p : Pap} (h : PapsOk ps) (h1 : p.src.size ≤ maxLen) (h2 : p.dst.size ≤ maxLen) : PapsOk (ps ++ [p]) :=
  ⟨fun q hq => by
    rcases List.mem_append.1 hq with hq | hq
    · exact h.src q hq
    · rw [List.mem_singleton] at hq; subst hq; exact h1,
   fun q hq => by
    rcases List.mem_append.1 hq with hq | hq
    · exact h.dst q hq
    · rw [List.mem_singleton] at hq; subst hq; exact h2⟩
theorem rd_more {w : World} {base g cap : Nat} {ps : List Pap} {p : Pap} (h : w.ownsRow base 72 3 (.slice (some ⟨g, 0, none⟩) (ps.length + 1) cap) (ps.length + 1) (ps.flatMap encPap ++ [.int .i64 p.day, .string p.src, .string p.dst])) : RdN 3 encPap w w.heap.size (some ⟨g, 0, none⟩) (ps ++ [p]) := by
  have e : ps.flatMap encPap ++ [.int .i64 p.day, .string p.src, .string p.dst] = (ps ++ [p]).flatMap encPap := by rw [List.flatMap_append]; rfl
  have hl : (ps ++ [p]).length = ps.length + 1 := by simp
  rw [e, ← hl] at h
  obtain ⟨A, cap2, e2, hrd, _⟩ := own_rdN encPap_len h
  injection e2 with e2 _ _
  subst e2
  exact hrd
theorem nodup_len {α : Type} [DecidableEq α] : ∀ {l m : List α}, l.Nodup → (∀ x ∈ l, x ∈ m) → l.length ≤ m.length := by
  intro l
  induction l with
  | nil => intro m _ _; simp
  | cons a l ih =>
    intro m h1 h2
    rw [List.nodup_cons] at h1
    have ha := h2 a (by simp)
    have := ih (m := m.erase a) h1.2 fun x hx => (List.mem_erase_of_ne (fun e => h1.1 (by rw [← e]; exact hx))).2 (h2 x (by simp [hx]))
    rw [List.length_erase_of_mem ha] at this
    have hp : 0 < m.length := List.length_pos_of_mem ha
    simp only [List.length_cons]
    omega
theorem owners_few {first : ByteArray} {ps : List Pap} {o : List Nat} {pre : List (List Nat)} {os : List (List UInt8)} (hs : os.Pairwise (· < ·)) (h : ∀ x, x ∈ os ↔ Seen first ps o pre x) : os.length ≤ ps.length + 1 := by
  have hn : os.Nodup := hs.imp fun {a b} hab e => by subst e; exact List.lt_irrefl _ hab
  have := nodup_len (m := bs first :: ps.map fun p => bs p.dst) hn fun x hx => by
    obtain ⟨s, _, e⟩ := (h x).1 hx
    rcases ownerL_cases first ps s o first (.inl rfl) with e2 | ⟨p, hp, e2⟩
    · rw [← e, e2]; simp
    · rw [← e, e2]; exact List.mem_cons_of_mem _ (List.mem_map.2 ⟨p, hp, rfl⟩)
  simpa using this
theorem shipOk_forged {first : ByteArray} {ps : List Pap} {f f' : Int} (h : ShipOk first ps f) (h' : inB 0 8 f' = true) : ShipOk first ps f' := ⟨h.first, h.len, h', h.paps⟩

set_option maxRecDepth 1000000 in
set_option maxHeartbeats 4000000 in
theorem daysLaw_no (first : ByteArray) (A : Option Addr) (ps : List Pap) (B cap : Nat) (forged : Int) (p : Pap) (xa xb xc : Nat) (w : World) (hf : first.size ≤ maxLen) (hm : ps.length ≤ cap) (hcm : cap ≤ maxLen) (hok : PapsOk ps) (hR : RdN 3 encPap w B A ps) (hB : B ≤ w.heap.size) (hs : sailB first ps forged = false) :
    Calls Try.prog 8 #[.agg #[.string first, .slice A ps.length cap, .int .i64 forged], .agg #[.int .i64 p.day, .string p.src, .string p.dst], .agg #[.int .u8 xa, .int .u8 xb, .int .u16 xc]] w fun e w' => e = .returned (.bool true) ∧ Below w.heap.size w w' := by
  obtain ⟨W1, hW1⟩ : ∃ W1, ((w.alloc (.cells #[.string first, .slice A ps.length cap, .int .i64 forged] 24)).alloc (.cells #[.int .i64 p.day, .string p.src, .string p.dst] 72)).alloc (.cells #[.int .u8 xa, .int .u8 xb, .int .u16 xc] 64) = W1 := ⟨_, rfl⟩
  have hb0 : Below w.heap.size w W1 := by rw [← hW1]; exact belowA (belowA (belowA (belowR _) _) _) _
  have p0 : W1.cell? ⟨w.heap.size, 0, none⟩ = some (.string first) := by rw [← hW1]; clear hW1; go_simp
  have p1 : W1.cell? ⟨w.heap.size, 1, none⟩ = some (.slice A ps.length cap) := by rw [← hW1]; clear hW1; go_simp
  have p2 : W1.cell? ⟨w.heap.size, 2, none⟩ = some (.int .i64 forged) := by rw [← hW1]; clear hW1; go_simp
  have HB0 := Lib.hid hb0
  have hz1 := hb0.size
  have hsa := sailing_any first A ps B cap forged W1 hf (Nat.le_trans hm hcm) hok (hR.below hb0 hB) (by omega)
  rw [hs] at hsa
  have HSA := Lib.hid hsa
  clear hsa hs hR hb0
  go_enter Try.func8, Try.ntmps8
  go_wp2_with fail
  refine HSA.out.mono ?_
  rintro e w1 ⟨rfl, hb1⟩
  have HB1 := Lib.hid hb1
  clear hb1 hW1
  go_wp2_with fail
  refine (awake_any _).mono ?_
  rintro e w2 ⟨rfl, hb2⟩
  go_wp2
  go_ret
  exact ⟨rfl, belowT (belowT HB0.out HB1.out) hb2⟩

set_option maxRecDepth 1000000 in
set_option maxHeartbeats 8000000 in
theorem daysLaw_yes (first : ByteArray) (A : Option Addr) (ps : List Pap) (B cap : Nat) (forged : Int) (p : Pap) (xa xb xc : Nat) (w : World) (hf : first.size ≤ maxLen) (hm : ps.length ≤ cap) (hcm : cap ≤ maxLen) (hok : PapsOk ps) (hps : p.src.size ≤ maxLen) (hpd : p.dst.size ≤ maxLen) (hR : RdN 3 encPap w B A ps) (hB : B ≤ w.heap.size) (hA : A = none → ps = [] ∧ cap = 0)
    (hxa : xa ≤ 255) (_hxb : xb ≤ 255) (hxc : xc ≤ 65535) (hs : sailB first ps forged = true) :
    Calls Try.prog 8 #[.agg #[.string first, .slice A ps.length cap, .int .i64 forged], .agg #[.int .i64 p.day, .string p.src, .string p.dst], .agg #[.int .u8 xa, .int .u8 xb, .int .u16 xc]] w fun e w' => e = .returned (.bool true) ∧ Below w.heap.size w w' := by
  have hE : shipErr first ps forged = 0 := by simpa [sailB] using hs
  have hship := shipErr_ok hE
  have hn8 := hship.len
  obtain ⟨hf0, hf8'⟩ := inB_t hship.forged
  obtain ⟨f, rfl⟩ : ∃ f : Nat, forged = f := ⟨forged.toNat, by omega⟩
  have hf8 : f ≤ 8 := by omega
  obtain ⟨W1, hW1⟩ : ∃ W1, ((w.alloc (.cells #[.string first, .slice A ps.length cap, .int .i64 f] 24)).alloc (.cells #[.int .i64 p.day, .string p.src, .string p.dst] 72)).alloc (.cells #[.int .u8 xa, .int .u8 xb, .int .u16 xc] 64) = W1 := ⟨_, rfl⟩
  have hb0 : Below w.heap.size w W1 := by rw [← hW1]; exact belowA (belowA (belowA (belowR _) _) _) _
  have p0 : W1.cell? ⟨w.heap.size, 0, none⟩ = some (.string first) := by rw [← hW1]; clear hW1; go_simp
  have p1 : W1.cell? ⟨w.heap.size, 1, none⟩ = some (.slice A ps.length cap) := by rw [← hW1]; clear hW1; go_simp
  have p2 : W1.cell? ⟨w.heap.size, 2, none⟩ = some (.int .i64 f) := by rw [← hW1]; clear hW1; go_simp
  have q0 : W1.cell? ⟨w.heap.size + 1, 0, none⟩ = some (.int .i64 p.day) := by rw [← hW1]; clear hW1; go_simp
  have q1 : W1.cell? ⟨w.heap.size + 1, 1, none⟩ = some (.string p.src) := by rw [← hW1]; clear hW1; go_simp
  have q2 : W1.cell? ⟨w.heap.size + 1, 2, none⟩ = some (.string p.dst) := by rw [← hW1]; clear hW1; go_simp
  have x0 : W1.cell? ⟨w.heap.size + 1 + 1, 0, none⟩ = some (.int .u8 xa) := by rw [← hW1]; clear hW1; go_simp
  have x2 : W1.cell? ⟨w.heap.size + 1 + 1, 2, none⟩ = some (.int .u16 xc) := by rw [← hW1]; clear hW1; go_simp
  have HB0 := Lib.hid hb0
  have hz1 : w.heap.size + 1 + 1 < W1.heap.size := lt_of_cell x0
  have hsa := sailing_any first A ps B cap f W1 hf (Nat.le_trans hm hcm) hok (hR.below hb0 hB) (by omega)
  rw [hs] at hsa
  -- the day
  have hday : xc % 40001 < 40001 := Nat.mod_lt _ (by omega)
  obtain ⟨dy, hdy⟩ : ∃ d, xc % 40001 = d := ⟨_, rfl⟩
  rw [hdy] at hday
  have hmod : (xc : Int) % 40001 = (dy : Int) := by rw [← hdy]; simp
  have hin : inB 0 40000 (dy : Int) = true := inB_mk (by omega) (by omega)
  have hwc : IntKind.i64.wrap (xc : Int) = (xc : Int) := by rw [IntKind.wrap_i64]; omega
  have hwa : IntKind.i64.wrap (xa : Int) = (xa : Int) := by rw [IntKind.wrap_i64]; omega
  have hmod3 : (xa : Int) % 3 = ((xa % 3 : Nat) : Int) := by simp
  have hm3 : xa % 3 < 3 := Nat.mod_lt _ (by omega)
  obtain ⟨y3, hy3⟩ : ∃ y, xa % 3 = y := ⟨_, rfl⟩
  rw [hy3] at hmod3 hm3
  have how := fun (g : Nat) (hg : g ≤ 8) W (hR : RdN 3 encPap W B A ps) (hB : B ≤ W.heap.size) => owners_yes first A ps B cap g dy W hf (Nat.le_trans hm hcm) hok hR hB (openE_mk (shipOk_forged hship (inB_mk (by omega) (by omega))) hin) hg hn8
  unfold OwnersPost at how
  have h0 := how 0 (by omega)
  simp only [show ((0 : Nat) : Int) = 0 from rfl] at h0
  have HSA := Lib.hid hsa
  have HOW := Lib.hid how
  have HOW0 := Lib.hid h0
  have HR1 := Lib.hid (hR.below hb0 hB)
  have HIN := Lib.hid hin
  have HA : Hid (A = none → ps.length = 0 ∧ cap = 0) := Lib.hid (fun h => ⟨by rw [(hA h).1]; rfl, (hA h).2⟩)
  have HPOK := Lib.hid (papsOk_snoc hok hps hpd)
  have HPL : Hid ((ps ++ [p]).length = ps.length + 1) := Lib.hid (by simp)
  clear hsa hs hR hb0 how h0 hship hE hdy hin hA hy3 hf0 hf8'
  go_enter Try.func8, Try.ntmps8
  go_wp2_with fail
  refine HSA.out.mono ?_
  rintro e w1 ⟨rfl, hb1⟩
  have p0 := keepC hb1 p0
  have p1 := keepC hb1 p1
  have p2 := keepC hb1 p2
  have q0 := keepC hb1 q0
  have q1 := keepC hb1 q1
  have q2 := keepC hb1 q2
  have x0 := keepC hb1 x0
  have x2 := keepC hb1 x2
  have hz2 := hb1.size
  have HB1 := Lib.hid hb1
  have HR2 := Lib.hid (HR1.out.below hb1 (by omega))
  clear hb1 hW1 HSA HR1
  go_wp2_with fail
  refine (HOW.out f hf8 w1 HR2.out (by omega)).mono ?_
  rintro e w2 ⟨hb2, o, os, A2, cap2, ho, rfl, hrd2, hsrt, hmem, hlen2⟩
  have p0 := keepC hb2 p0
  have p1 := keepC hb2 p1
  have p2 := keepC hb2 p2
  have q0 := keepC hb2 q0
  have q1 := keepC hb2 q1
  have q2 := keepC hb2 q2
  have x0 := keepC hb2 x0
  have x2 := keepC hb2 x2
  have hz3 := hb2.size
  have HB2 := Lib.hid (belowT HB1.out hb2)
  have HR3 := Lib.hid (HR2.out.below hb2 (by omega))
  have HO := Lib.hid ho
  have HS2 := Lib.hid hsrt
  have HM2 := Lib.hid hmem
  have HRD2 := Lib.hid hrd2
  clear hb2 ho hsrt hmem hlen2 hrd2 HR2 HB1
  go_upto_region 5 with fail
  refine days_reg5 p0 p1 p2 ?_
  intro g0 g1 g2 y34 y35 y36 W3 h3
  obtain ⟨h01, h02, h12, hg0, hg1, hg2, ⟨a0, a1, a2, af⟩, ⟨b0, b1, b2, bf⟩, ⟨c0, c1, c2, cf⟩, hb3⟩ := h3
  have p0 := keepC hb3 p0
  have p1 := keepC hb3 p1
  have p2 := keepC hb3 p2
  have q0 := keepC hb3 q0
  have q1 := keepC hb3 q1
  have q2 := keepC hb3 q2
  have x0 := keepC hb3 x0
  have hz4 := hb3.size
  have hl0 := lt_of_cell a0
  have hl1 := lt_of_cell b0
  have hl2 := lt_of_cell c0
  have HB3 := Lib.hid (belowT HB2.out hb3)
  have HR4 := Lib.hid (HR3.out.below hb3 (by omega))
  have HRD3 := Lib.hid (HRD2.out.below hb3 (Nat.le_refl _))
  have hf1 := af 1
  have HF1 := Lib.hid (bf 2)
  have HF2 := Lib.hid (cf 2)
  have nA0 : w.heap.size ≠ g0 := by omega
  have nA1 : w.heap.size ≠ g1 := by omega
  have nA2 : w.heap.size ≠ g2 := by omega
  have nF0 : w.heap.size + 1 ≠ g0 := by omega
  have nF1 : w.heap.size + 1 ≠ g1 := by omega
  have nF2 : w.heap.size + 1 ≠ g2 := by omega
  have nX0 : w.heap.size + 1 + 1 ≠ g0 := by omega
  have nX1 : w.heap.size + 1 + 1 ≠ g1 := by omega
  have nX2 : w.heap.size + 1 + 1 ≠ g2 := by omega
  clear hb3 af bf cf x2 HR3 HRD2 HB2
  go_upto_region 6 with fail
  refine days_reg6 ps p hn8 p1 q0 q1 q2 a1 hf1 nA0 nF0 HR4.out HA.out ?_
  intro y37 y38 y39 y40 y41 y42 y43 y44 W4 h4
  obtain ⟨h8, k8, e8, hown8, hon8, hk8⟩ := h4
  have a0 := hk8 0 _ (by omega) a0
  have a2 := hk8 2 _ (by omega) a2
  have b0 := hon8.cell b0 (Ne.symm h01)
  have b1 := hon8.cell b1 (Ne.symm h01)
  have b2 := hon8.cell b2 (Ne.symm h01)
  have c0 := hon8.cell c0 (Ne.symm h02)
  have c1 := hon8.cell c1 (Ne.symm h02)
  have c2 := hon8.cell c2 (Ne.symm h02)
  have p2 := hon8.cell p2 nA0
  have q0 := hon8.cell q0 nF0
  have x0 := hon8.cell x0 nX0
  have hz5 := hon8.size
  have f12 := (hon8.frozen 2 hl1 (Ne.symm h01)).trans HF1.out
  have f22 := (hon8.frozen 2 hl2 (Ne.symm h02)).trans HF2.out
  have HB4 := Lib.hid (hon8.below HB3.out (by omega))
  have HR5 := Lib.hid (hon8.rdN HR4.out (by omega))
  have HRD4 := Lib.hid (hon8.rd1 HRD3.out (by omega))
  have HO8 := Lib.hid hown8
  clear hown8 hon8 hk8 p0 p1 a1 q1 q2 hf1 HF1 HF2 HR4 HRD3 HB3
  obtain ⟨m, hm9⟩ : ∃ m : Nat, m = min 8 (f + y3) := ⟨_, rfl⟩
  have hmle : m ≤ 8 := by omega
  have hfm : f ≤ m := by omega
  have hws : IntKind.i64.wrap ((f : Int) + (xa : Int).tmod 3) = (f : Int) + (y3 : Int) := by
    rw [Int.tmod_eq_emod_of_nonneg (by omega), hmod3, IntKind.wrap_i64]; omega
  have hmin : min 8 ((f : Int) + (y3 : Int)) = (m : Int) := by omega
  clear hm9
  go_upto_region 7 with fail
  go_cut [52] (fun _ wx => wx = ((W4.setCell ⟨g1, 2, none⟩ (.int .i64 0)).setCell ⟨g2, 2, none⟩ (.int .i64 m)).drew)
  case first =>
    go_region_held3 (fun w' => w'.cell? ⟨w.heap.size, 2, none⟩ = some (.int .i64 f) ∧ w'.cell? ⟨w.heap.size + 1 + 1, 0, none⟩ = some (.int .u8 xa)) (first | exact ⟨p2, x0⟩ | exact ⟨keepSet p2 nA1, keepSet x0 nX1⟩ | exact ⟨keepSet (keepSet p2 nA1) nA2, keepSet (keepSet x0 nX1) nX2⟩) (fail)
    all_goals go_wp2_with fail
    all_goals go_meet
    all_goals rfl
  case rest =>
    obtain ⟨W5, hW5⟩ : ∃ W, W = wc := ⟨_, rfl⟩
    have hcw : W5 = ((W4.setCell ⟨g1, 2, none⟩ (.int .i64 0)).setCell ⟨g2, 2, none⟩ (.int .i64 m)).drew := hW5.trans hcut
    subst hW5
    clear hcut hws hmin
    have hk5 : ∀ b o v, b ≠ g1 → b ≠ g2 → W4.cell? ⟨b, o, none⟩ = some v → W5.cell? ⟨b, o, none⟩ = some v := fun b o v h1 h2 h => by rw [hcw]; exact keepSet (keepSet h h1) h2
    have b2' : W5.cell? ⟨g1, 2, none⟩ = some (.int .i64 0) := by
      rw [hcw]
      exact keepSet (World.cell?_setCell_same _ _ _ b2) h12
    have c2' : W5.cell? ⟨g2, 2, none⟩ = some (.int .i64 m) := by
      rw [hcw]
      exact World.cell?_setCell_same _ _ _ (keepSet c2 (Ne.symm h12))
    have b0 : W5.cell? ⟨g1, 0, none⟩ = some (.string first) := by
      rw [hcw]
      exact keepSet ((World.cell?_setCell_other W4 ⟨g1, 2, none⟩ ⟨g1, 0, none⟩ _ (by simp)).trans b0) h12
    have b1 : W5.cell? ⟨g1, 1, none⟩ = some (.slice A ps.length cap) := by
      rw [hcw]
      exact keepSet ((World.cell?_setCell_other W4 ⟨g1, 2, none⟩ ⟨g1, 1, none⟩ _ (by simp)).trans b1) h12
    have c0 : W5.cell? ⟨g2, 0, none⟩ = some (.string first) := by
      rw [hcw]
      exact (World.cell?_setCell_other _ ⟨g2, 2, none⟩ ⟨g2, 0, none⟩ _ (by simp)).trans (keepSet c0 (Ne.symm h12))
    have c1 : W5.cell? ⟨g2, 1, none⟩ = some (.slice A ps.length cap) := by
      rw [hcw]
      exact (World.cell?_setCell_other _ ⟨g2, 2, none⟩ ⟨g2, 1, none⟩ _ (by simp)).trans (keepSet c1 (Ne.symm h12))
    have a0 := hk5 _ _ _ h01 h02 a0
    have a1 := hk5 _ _ _ h01 h02 e8
    have a2 := hk5 _ _ _ h01 h02 a2
    have q0 := hk5 _ _ _ nF1 nF2 q0
    have hz6 : W4.heap.size ≤ W5.heap.size := by rw [hcw]; simp
    have HB5 : Hid (Below W1.heap.size W1 W5) := Lib.hid (by rw [hcw]; exact belowDq (belowS (belowS HB4.out (by simp; omega) _) (by simp; omega) _))
    have HR6 : Hid (RdN 3 encPap W5 B A ps) := Lib.hid (fun i x hx => by
      obtain ⟨b, off, e, hb, hc⟩ := HR5.out i x hx
      exact ⟨b, off, e, hb, fun j u hu => hk5 _ _ _ (by omega) (by omega) (hc j u hu)⟩)
    have HRD5 : Hid (Rd1 encStr W5 w2.heap.size A2 os) := Lib.hid (fun i x hx => by
      obtain ⟨b, off, e, hb, hc⟩ := HRD4.out i x hx
      exact ⟨b, off, e, hb, hk5 _ _ _ (by omega) (by omega) hc⟩)
    have hh8 : W3.heap.size ≤ h8 := (HO8.out.lt _ rfl).1
    have HO9 : Hid (W5.ownsRow W3.heap.size 72 3 (.slice (some ⟨h8, 0, none⟩) (ps.length + 1) k8) (ps.length + 1) (ps.flatMap encPap ++ [.int .i64 p.day, .string p.src, .string p.dst])) := Lib.hid (by
      rw [hcw]
      exact (ownsRow_setCell_below (ownsRow_setCell_below HO8.out (a := ⟨g1, 2, none⟩) hl1 _) (a := ⟨g2, 2, none⟩) hl2 _).drew)
    clear hcw hk5 b2 c2 e8 p2 x0 f12 f22 HB4 HR5 HRD4 HO8
    go_wp2_with fail
    refine (HOW0.out W5 HR6.out (by omega)).mono ?_
    rintro e w6 ⟨hb6, o6, os6, A6, cap6, ho6, rfl, hrd6, hsrt6, hmem6, _⟩
    have hone := seen_none hsrt6 hmem6
    obtain ⟨own, hown⟩ : ∃ x, bs (ownerL first ps o6 []) = x := ⟨_, rfl⟩
    rw [hown] at hone
    subst hone
    obtain rfl := ho6.unique HO.out
    have hsub6 : own ∈ os := (HM2.out own).2 (((hmem6 own).1 (by simp)).mono (setsTo_mono (by omega)))
    obtain ⟨b6, off6, rfl, _, d6⟩ := hrd6 0 own rfl
    have HS6 := Lib.hid hsub6
    have a0 := keepC hb6 a0
    have a1 := keepC hb6 a1
    have a2 := keepC hb6 a2
    have c0 := keepC hb6 c0
    have c1 := keepC hb6 c1
    have c2 := keepC hb6 c2'
    have q0 := keepC hb6 q0
    have hz7 := hb6.size
    have HB6 := Lib.hid (belowT HB5.out hb6)
    have HR7 := Lib.hid (HR6.out.below hb6 (by omega))
    have HRD6 := Lib.hid (HRD5.out.below hb6 (by omega))
    have HO10 := Lib.hid (own_below HO9.out hb6)
    clear hb6 ho6 hrd6 hsrt6 hmem6 hsub6 hown HB5 HR6 HRD5 HO9 HOW0 b0 b1 b2' c2'
    go_wp2_with fail
    refine (HOW.out m hmle w6 HR7.out (by omega)).mono ?_
    rintro e w7 ⟨hb7, o7, os7, A7, cap7, ho7, rfl, hrd7, hsrt7, hmem7, _⟩
    obtain rfl := ho7.unique HO.out
    have hsub7 : ∀ x ∈ os, x ∈ os7 := fun x hx => (hmem7 x).2 (((HM2.out x).1 hx).mono (setsTo_mono (by omega)))
    have hfew7 := owners_few hsrt7 hmem7
    have HSUB := Lib.hid hsub7
    have a0 := keepC hb7 a0
    have a1 := keepC hb7 a1
    have a2 := keepC hb7 a2
    have q0 := keepC hb7 q0
    have d6 := keepC hb7 d6
    have hz8 := hb7.size
    have HB7 := Lib.hid (belowT HB6.out hb7)
    have HRD7 := Lib.hid (HRD6.out.below hb7 (by omega))
    have HRC := Lib.hid hrd7
    have HO11 := Lib.hid (own_below HO10.out hb7)
    have HFEW := Lib.hid (owners_few HS2.out HM2.out)
    clear hb7 ho7 hrd7 hsrt7 hmem7 hsub7 HB6 HR7 HRD6 HO10 c0 c1 c2
    have hmore : RdN 3 encPap w7 w7.heap.size (some ⟨h8, 0, none⟩) (ps ++ [p]) := rd_more HO11.out
    have HMORE := Lib.hid hmore
    have hos99 : os.length ≤ 9 := by have := HFEW.out; omega
    have hos9 : os.length ≤ maxLen := by have := HFEW.out; unfold maxLen; omega
    have hos79 : os7.length ≤ maxLen := by unfold maxLen; omega
    have HFEW7 := Lib.hid hfew7
    clear hmore hfew7 HO11
    go_wp2
    go_loopw [17] (fun vi wr => ∃ i : Nat, i ≤ os.length ∧ vi = .int .i64 i ∧ Hid (Below w7.heap.size w7 wr)) (fun vi _ => os.length - (intOf vi).toNat)
    case atStart => exact ⟨0, Nat.zero_le _, rfl, Lib.hid (belowR _)⟩
    case round =>
      obtain ⟨i, hi, rfl, HBR⟩ := hrel
      have hzr := HBR.out.size
      by_cases hlt : i < os.length
      · obtain ⟨x, hx⟩ : ∃ x, os[i]? = some x := ⟨_, List.getElem?_eq_getElem hlt⟩
        obtain ⟨b9, o9, rfl, _, d9⟩ := (HRD7.out.below HBR.out (by omega)) i x hx
        have d9 : wr.cell? ⟨b9, o9 + i, none⟩ = some (.string ⟨x.toArray⟩) := d9
        have hin7 := HSUB.out x (List.mem_of_getElem? hx)
        have HIN7 := Lib.hid hin7
        have hiz : (i : Int) < (os.length : Int) := by omega
        have hi0 : (0 : Int) ≤ (i : Int) := by omega
        clear hx hin7
        go_wp2_with fail
        refine (named_yes A7 os7 w7.heap.size cap7 x _ hos79 (HRC.out.below HBR.out (Nat.le_refl _)) HIN7.out).mono ?_
        rintro e w8 ⟨rfl, rfl⟩
        go_wp2
        go_roundw
        case rel => exact ⟨i + 1, Nat.succ_le_of_lt hlt, by go_num, HBR⟩
        case measure => simp [intOf]; omega
      · obtain rfl : i = os.length := by omega
        have a0 := keepC HBR.out a0
        have a1 := keepC HBR.out a1
        have a2 := keepC HBR.out a2
        have q0 := keepC HBR.out q0
        have d6 := keepC HBR.out d6
        have HRDR := Lib.hid (HRD7.out.below HBR.out (by omega))
        have HMR := Lib.hid ((HMORE.out.below HBR.out (Nat.le_refl _)).more hzr)
        have hpl9 : (ps ++ [p]).length ≤ maxLen := by rw [HPL.out]; unfold maxLen; omega
        have hsa := sailing_any first (some ⟨h8, 0, none⟩) (ps ++ [p]) wr.heap.size k8 f wr hf hpl9 HPOK.out HMR.out (Nat.le_refl _)
        rw [HPL.out] at hsa
        cases hs : sailB first (ps ++ [p]) f
        · rw [hs] at hsa
          have HSA := Lib.hid hsa
          clear hsa hs
          go_wp2_with fail
          refine HSA.out.mono ?_
          rintro e w8 ⟨rfl, hb8⟩
          have d6 : w8.cell? ⟨b6, off6, none⟩ = some (.string ⟨own.toArray⟩) := keepC hb8 d6
          have HRDN := Lib.hid (HRDR.out.below hb8 (by omega))
          have HBF := Lib.hid (belowT (belowT (belowT HB0.out HB7.out) HBR.out) hb8)
          clear hb8 a0 a1 a2 q0
          go_wp2_with fail
          refine (named_yes A2 os w2.heap.size cap2 own _ hos9 HRDN.out HS6.out).mono ?_
          rintro e w9 ⟨rfl, rfl⟩
          go_wp2_with fail
          refine (awake_any _).mono ?_
          rintro e w10 ⟨rfl, hb10⟩
          go_wp2
          go_ret
          exact ⟨rfl, belowT HBF.out hb10⟩
        · rw [hs] at hsa
          have HSA := Lib.hid hsa
          have HS := Lib.hid hs
          clear hsa hs
          by_cases hpdy : (dy : Int) < p.day
          case neg =>
            have hdd : decide ((dy : Int) < p.day) = false := by simpa using hpdy
            have hdd2 : p.day ≤ (dy : Int) := by omega
            go_wp2_with fail
            refine HSA.out.mono ?_
            rintro e w8 ⟨rfl, hb8⟩
            have q0 := keepC hb8 q0
            have d6 : w8.cell? ⟨b6, off6, none⟩ = some (.string ⟨own.toArray⟩) := keepC hb8 d6
            have HRDN := Lib.hid (HRDR.out.below hb8 (by omega))
            have HBF := Lib.hid (belowT (belowT (belowT HB0.out HB7.out) HBR.out) hb8)
            clear hb8 a0 a1 a2
            go_wp2_with fail
            refine (named_yes A2 os w2.heap.size cap2 own _ hos9 HRDN.out HS6.out).mono ?_
            rintro e w9 ⟨rfl, rfl⟩
            go_wp2_with fail
            refine (awake_any _).mono ?_
            rintro e w10 ⟨rfl, hb10⟩
            go_wp2
            go_ret
            exact ⟨rfl, belowT HBF.out hb10⟩
          case pos =>
            have hdd : decide ((dy : Int) < p.day) = true := by simpa using hpdy
            have hE2 : shipErr first (ps ++ [p]) f = 0 := by simpa [sailB] using HS.out
            have hsh2 := shipErr_ok hE2
            have how := fun W (hR : RdN 3 encPap W W.heap.size (some ⟨h8, 0, none⟩) (ps ++ [p])) => owners_yes first (some ⟨h8, 0, none⟩) (ps ++ [p]) W.heap.size k8 f dy W hf hpl9 HPOK.out hR (Nat.le_refl _) (openE_mk hsh2 HIN.out) hf8 hsh2.len
            unfold OwnersPost at how
            rw [HPL.out] at how
            have HOW2 := Lib.hid how
            clear how hE2 hsh2
            go_wp2_with fail
            refine HSA.out.mono ?_
            rintro e w8 ⟨rfl, hb8⟩
            have q0 := keepC hb8 q0
            have a0 := keepC hb8 a0
            have a1 := keepC hb8 a1
            have a2 := keepC hb8 a2
            have d6 := keepC hb8 d6
            have HRD8 := Lib.hid (HRDR.out.below hb8 (by omega))
            have HM8 := Lib.hid (rdN_j HMR.out hb8)
            have hz9 := hb8.size
            have HBF := Lib.hid (belowT (belowT (belowT HB0.out HB7.out) HBR.out) hb8)
            clear hb8
            go_wp2_with fail
            refine (HOW2.out w8 HM8.out).mono ?_
            rintro e w9 ⟨hb9, o9, os9, A9, cap9, ho9, rfl, hrd9, hsrt9, hmem9, _⟩
            have ho9' := order_more ho9 hpdy
            obtain rfl := ho9'.unique HO.out
            have heq : os9 = os := sorted_unique hsrt9 HS2.out fun x => by
              rw [hmem9 x, HM2.out x]
              have := seen_more (first := first) (p := p) (f := f) ho9' x
              rw [HPL.out] at this
              exact this
            subst heq
            have hws := words_same A2 A9 (os9.map sb) w9.heap.size cap2 cap9 w9 (by rw [List.length_map]; have := HFEW.out; omega) (((HRD8.out.below hb9 (by omega)).more (by have := hb9.size; omega)).map_ sb (fun _ => rfl)) (hrd9.map_ sb (fun _ => rfl)) (Nat.le_refl _)
            rw [List.length_map] at hws
            have HWS := Lib.hid hws
            have d6 := keepC hb9 d6
            have HRD9 := Lib.hid (HRD8.out.below hb9 (by omega))
            have hz10 := hb9.size
            have HBG := Lib.hid (belowT HBF.out hb9)
            clear hb9 ho9 ho9' hrd9 hsrt9 hmem9 hws a0 a1 a2 q0 HRD8
            go_wp2_with fail
            refine HWS.out.mono ?_
            rintro e w10 ⟨rfl, hb10⟩
            have d6 : w10.cell? ⟨b6, off6, none⟩ = some (.string ⟨own.toArray⟩) := keepC hb10 d6
            have HRDN := Lib.hid (HRD9.out.below hb10 (by omega))
            have HBH := Lib.hid (belowT HBG.out hb10)
            clear hb10
            go_wp2_with fail
            refine (named_yes A2 os9 w2.heap.size cap2 own _ hos9 HRDN.out HS6.out).mono ?_
            rintro e w11 ⟨rfl, rfl⟩
            go_wp2_with fail
            refine (awake_any _).mono ?_
            rintro e w12 ⟨rfl, hb12⟩
            go_wp2
            go_ret
            exact ⟨rfl, belowT HBH.out hb12⟩

theorem daysLaw_any (first : ByteArray) (A : Option Addr) (ps : List Pap) (B cap : Nat) (forged : Int) (p : Pap) (xa xb xc : Nat) (w : World) (hf : first.size ≤ maxLen) (hm : ps.length ≤ cap) (hcm : cap ≤ maxLen) (hok : PapsOk ps) (hps : p.src.size ≤ maxLen) (hpd : p.dst.size ≤ maxLen) (hR : RdN 3 encPap w B A ps) (hB : B ≤ w.heap.size) (hA : A = none → ps = [] ∧ cap = 0)
    (hxa : xa ≤ 255) (hxb : xb ≤ 255) (hxc : xc ≤ 65535) :
    Calls Try.prog 8 #[.agg #[.string first, .slice A ps.length cap, .int .i64 forged], .agg #[.int .i64 p.day, .string p.src, .string p.dst], .agg #[.int .u8 xa, .int .u8 xb, .int .u16 xc]] w fun e w' => e = .returned (.bool true) ∧ Below w.heap.size w w' := by
  cases hs : sailB first ps forged
  · exact daysLaw_no first A ps B cap forged p xa xb xc w hf hm hcm hok hR hB hs
  · exact daysLaw_yes first A ps B cap forged p xa xb xc w hf hm hcm hok hps hpd hR hB hA hxa hxb hxc hs
end Go.Proofs.Ytblbbhenmhkknaa
