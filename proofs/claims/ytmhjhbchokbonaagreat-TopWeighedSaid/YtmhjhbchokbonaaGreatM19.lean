/- Heaviest. The law's own hull and weighing. Two rows alike. The law's own hull, truth and forces in memory; how they are compared (printed by mkT15.py). -/
import Derived.Test.YtmhjhbchokbonaaGreatM0
import Derived.Test.YtmhjhbchokbonaaGreatM17
import Derived.Test.YtmhjhbchokbonaaGreatM18
set_option maxRecDepth 1000000
set_option maxHeartbeats 16000000
namespace Go.Proofs.YtmhjhbchokbonaaGreat
open Go.RowKit Go.Shelf
attribute [local go_sem] Oper.semAt_some
def limV (N : List Nd) (s : Nat) (most : Int) (ps : List Prt) (i : Nat) : Int := match ps[i]? with
 | some p => p.lo + searchF (fun k => moreF N s most (ps.set i ⟨p.name, p.lo, p.lo + k⟩)) ((p.hi - p.lo).toNat + 1) 0 (p.hi - p.lo).toNat
 | none => 0
def limStep (ps : List Prt) (i : Nat) (v : Int) : List Prt := match ps[i]? with
 | some p => ps.set i ⟨p.name, v, v⟩
 | none => ps
def limTo (N : List Nd) (s : Nat) (most : Int) (ps : List Prt) : Nat → List Prt
 | 0 => ps
 | i + 1 => limStep (limTo N s most ps i) i (limV N s most (limTo N s most ps i) i)
def limL (N : List Nd) (s : Nat) (most : Int) (ps : List Prt) (n : Nat) : List Int := (List.range n).map fun i => limV N s most (limTo N s most ps i) i
theorem limL_succ (N : List Nd) (s : Nat) (most : Int) (ps : List Prt) (n : Nat) : limL N s most ps (n + 1) = limL N s most ps n ++ [limV N s most (limTo N s most ps n) n] := by
 unfold limL
 rw [List.range_succ, List.map_append]
 rfl
theorem limTo_len (N : List Nd) (s : Nat) (most : Int) (ps : List Prt) : ∀ i, (limTo N s most ps i).length = ps.length := by
 intro i
 induction i with
 | zero => rfl
 | succ i ih =>
  unfold limTo limStep
  split
  ·rw [List.length_set]; exact ih
  ·exact ih
theorem limTo_at (N : List Nd) (s : Nat) (most : Int) (ps : List Prt) : ∀ i j, i ≤ j → (limTo N s most ps i)[j]? = ps[j]? := by
 intro i
 induction i with
 | zero => intro j _; rfl
 | succ i ih =>
  intro j hj
  unfold limTo limStep
  split
  ·rw [List.getElem?_set_ne (by omega)]; exact ih j (by omega)
  ·exact ih j (by omega)
theorem psOk_set {ps : List Prt} (h : PsOk ps) (i : Nat) (p : Prt) (hp : 0 ≤ p.lo ∧ p.lo ≤ p.hi ∧ p.hi ≤ 100000) : PsOk (ps.set i p) := by
 intro q hq
 rcases List.mem_or_eq_of_mem_set hq with h1 | h1
 ·exact h q h1
 ·rw [h1]; exact hp
theorem limV_bd (N : List Nd) (s : Nat) (most : Int) {ps : List Prt} {i : Nat} {p : Prt} (hp : ps[i]? = some p) (h : p.lo ≤ p.hi) : p.lo ≤ limV N s most ps i ∧ limV N s most ps i ≤ p.hi := by
 unfold limV
 rw [hp]
 simp only
 have := (searchF_le (fun k => moreF N s most (ps.set i ⟨p.name, p.lo, p.lo + k⟩)) ((p.hi - p.lo).toNat + 1) 0 (p.hi - p.lo).toNat (Nat.zero_le _)).2
 omega
theorem limTo_ok (N : List Nd) (s : Nat) (most : Int) {ps : List Prt} (h : PsOk ps) : ∀ i, PsOk (limTo N s most ps i) := by
 intro i
 induction i with
 | zero => exact h
 | succ i ih =>
  unfold limTo limStep
  split
  ·rename_i p hp
   have hm := ih p (List.mem_of_getElem? hp)
   have := limV_bd N s most hp hm.2.1
   exact psOk_set ih i _ ⟨by simp only; omega, Int.le_refl _, by simp only; omega⟩
  ·exact ih
theorem TreeOk.ps {ps ps' : List Prt} {N : List Nd} (h : TreeOk ps N) (hp : PsOk ps') (hl : ps'.length = ps.length) : TreeOk ps' N := ⟨hp, by rw [hl]; exact h.pl, h.nd, h.n0, h.n7, h.kid⟩
def HeaviestPost (h : Hul) (l : List Wgh) (set : Int) (w : World) (e : Ending) (w' : World) : Prop :=
 BW w w' ∧ ((enterE h l set ≠ 0 ∧ e = .returned (.tuple #[.slice none 0 0, iv (enterE h l set)])) ∨ (enterE h l set = 0 ∧ openPre h l = 0 ∧ Feas h l ∧ blockE h.ps.length h.js set = 0 ∧ ∃ N A cap, IsTree h l N ∧ e = .returned (.tuple #[.slice A h.ps.length cap, iv 0]) ∧
  w'.ownsRow w.heap.size 3 1 (.slice A h.ps.length cap) h.ps.length ((limL N set.toNat (mostV h N set.toNat) h.ps h.ps.length).map iv)))
theorem PartsAt.same {w w' : World} {q : Nat} {ps : List Prt} (h : PartsAt w q ps) (hs : w'.heap[q]? = w.heap[q]?) (hz : q < w'.heap.size) : PartsAt w' q ps :=
 .of (fun i p hp => by
  obtain ⟨c0, c1, c2⟩ := h.cells hp
  exact ⟨(World.cell?_of_block (a := ⟨q, i * 3, none⟩) hs).trans c0, (World.cell?_of_block (a := ⟨q, i * 3 + 1, none⟩) hs).trans c1, (World.cell?_of_block (a := ⟨q, i * 3 + 2, none⟩) hs).trans c2⟩) (fun o => (World.frozen?_of_block (a := ⟨q, o, none⟩) hs).trans (h.fz o)) hz
theorem cutAt {H X : World → Nat → Nat → Prop} {R : Prop} (a : ∀ w5 q cq, H w5 q cq → X w5 q cq) (b : (∀ w5 q cq, H w5 q cq → X w5 q cq) → R) : R := b a
theorem cell_set_ne {w : World} {a p : Addr} {v : Value} (hc : w.cell? p = some v) (hne : a ≠ p) (u : Value) : (w.setCell a u).cell? p = some v := by rw [← hc]; exact World.cell?_setCell_other w a p u hne
theorem TabAt.setSlice {w : World} {B g n cap : Nat} {A : Option Addr} {N : List Nd} {bs : List Nat} (h : TabAt w B N bs) (hg : w.cell? ⟨g, 0, none⟩ = some (.slice A n cap)) (u : Value) : TabAt (w.setCell ⟨g, 0, none⟩ u) B N bs := by
 intro i nd hi
 obtain ⟨b, h1, h2, c0, c1, c2, c3, A', cap', c4, hk⟩ := h i nd hi
 have hbg : g ≠ b := fun e => by subst e; rw [hg] at c0; cases c0
 refine ⟨b, h1, h2, cell_set_ne c0 (fun e => by injection e with e; exact hbg e) u, cell_set_ne c1 (by simp) u, cell_set_ne c2 (by simp) u, cell_set_ne c3 (by simp) u, A', cap', cell_set_ne c4 (by simp) u, fun k j hkj => ?_⟩
 obtain ⟨bb, off, bj, e, hb, hj, hc⟩ := hk k j hkj
 exact ⟨bb, off, bj, e, hb, hj, cell_set_ne hc (fun e => by rw [← e, hg] at hc; cases hc) u⟩
theorem heaviest_any (h : Hul) (A J : Option Addr) (B cap capJ : Nat) (AL : Option Addr) (l : List Wgh) (capL : Nat) (set : Int) (w : World) (hH : HulRd w B h A cap J capJ) (hL : RdN 3 encWgh w B AL l) (hlc : l.length ≤ capL) (hB : B ≤ w.heap.size) :
  Calls Tryz.prog 34 #[hv h A cap J capJ, .slice AL l.length capL, iv set] w (HeaviestPost h l set w) := by
 obtain ⟨i0, hi0, hz0, hzz1, hzz2⟩ := info_parts Tryz.info3
 obtain ⟨W1, hW1, hb0, hz1, p0, p1, p2, p3, p4⟩ := hulBox w h A cap J capJ
 obtain ⟨W2, hW2⟩ := ex (W1.alloc (.cells #[iv set] 3))
 have hb1 : BW w W2 := by rw [← hW2]; exact belowA hb0 _
 have hz2 : W2.heap.size = w.heap.size + 2 := by rw [← hW2]; simp [hz1]
 have hb12 : BW W1 W2 := by rw [← hW2]; exact belowA (belowR _) _
 have p0 := keepC hb12 p0
 have p1 := keepC hb12 p1
 have p2 := keepC hb12 p2
 have p3 := keepC hb12 p3
 have p4 := keepC hb12 p4
 have q0 : W2.cell? ⟨W1.heap.size, 0, none⟩ = some (iv set) := by rw [← hW2]; clear hW2 hz1 hz2; go_simp
 have hen := enter_any h A J B cap capJ AL l capL set W2 (hH.below hb1 hB) (hL.below hb1 hB) hlc (Nat.le_trans hB hb1.size)
 have HEN := Lq hen
 have HB1 := Lq hb1
 have hz3 : W1.heap.size < W2.heap.size := by omega
 have hz4 : w.heap.size ≤ W1.heap.size := by omega
 clear hen hb1 hb0 hb12 hH hL hz2 hz1
 go_enter Tryz.func34, Tryz.ntmps34
 go_wp2_with fail
 refine HEN.out.mono ?_
 rintro e w1 ⟨hb2, hpost⟩
 have q0 := keepC hb2 q0
 have HB2 := Lq (belowT HB1.out hb2)
 have hz5 := hb2.size
 clear hb2 HEN hW1 hW2 HB1 p0 p1 p2 p3 p4
 rcases hpost with ⟨hne, d, rfl⟩ | ⟨h0, hp, hf, hbl, N, g, bs, br, km, BD, hN, rfl, HD⟩
 ·obtain ⟨E, hE⟩ := ex (enterE h l set)
  have HE := Lq hE
  rw [hE] at hne ⊢
  have hcb : (E == 0) = false := by simpa using hne
  clear hE
  go_wp2_with fail
  go_ret2
  exact ⟨belowA HB2.out _, .inl ⟨by rw [HE.out]; exact hne, by rw [HE.out]; rfl⟩⟩
 ·have hk := hulOk (openPre_zero hp).1
  obtain ⟨s, hs, _, hs2, rfl, _⟩ := blockE_zero hk.n8 hbl
  have hT := treeOk_isTree hp hN
  have hn8 := hk.n8
  have hn1 := hk.n1
  obtain ⟨w2, hw2⟩ := ex (w1.alloc (.cells #[ptr g] 110))
  have hbw2 : BW w1 w2 := by rw [← hw2]; exact belowA (belowR _) _
  have b8 : Blk w2 w1.heap.size 110 #[ptr g] := by rw [← hw2]; exact Blk.new w1 110 _
  have hz6 : w2.heap.size = w1.heap.size + 1 := by rw [← hw2]; simp
  have HD2 : Hid (DeckHere W2 w2 h A cap J capJ N g bs br km BD) := Lq (HD.below hbw2)
  have hmo := most_any HD2.out.st hT HD2.out.kn s hs
  have hg0 := HD.g0
  have hk0 := HD.k0
  obtain ⟨f8, hf8⟩ := ex w1.heap.size
  obtain ⟨f5, hf5⟩ := ex W1.heap.size
  have y5 : w2.cell? ⟨f5, 0, none⟩ = some (iv s) := by rw [← hf5]; exact keepC hbw2 q0
  rw [hf8] at b8 hz6
  have HB3 : Hid (BW w w2) := Lq (belowT HB2.out hbw2)
  have hkl := HD.kn.lt
  have hgl : g < w1.heap.size := Nat.lt_of_lt_of_le HD.st.gB HD.st.hB
  have hord : f5 < f8 ∧ W2.heap.size ≤ f8 ∧ w.heap.size ≤ f5 ∧ f5 < W2.heap.size ∧ w.heap.size + 1 ≤ W2.heap.size := by omega
  have HFC : Hid (∀ e w', BW w w' → (∃ A cap, e = .returned (.tuple #[.slice A h.ps.length cap, iv 0]) ∧ w'.ownsRow w.heap.size 3 1 (.slice A h.ps.length cap) h.ps.length ((limL N s (mostV h N s) h.ps h.ps.length).map iv)) → HeaviestPost h l s w e w') := Lq fun e w' a ⟨A, cap, b⟩ => ⟨a, .inr ⟨h0, hp, hf, hbl, N, A, cap, hN, b⟩⟩
  obtain ⟨most, hmost⟩ := ex (mostV h N s)
  rw [hmost] at hmo HFC
  have HMO := Lq hmo
  have HT := Lq hT
  have HPO := Lq hT.po
  have B8 := Lq b8
  have Y5 := Lq y5
  rw [hf5] at q0
  have q0w := q0
  clear hmo hp hf hbl h0 hN hT HD hmost hk HB2 b8 y5 hbw2
  have y8 : w2.cell? ⟨f8, 0, none⟩ = some (ptr g) := B8.out.cell 0
  have y5 := Y5.out
  go_wp2_with fail
  refine HMO.out.mono ?_
  rintro e w3 ⟨rfl, ho3, hk3⟩
  have hz7 := ho3.size
  have HD3 : Hid (DeckHere W2 w3 h A cap J capJ N g bs br km BD) := Lq (HD2.out.only ho3 hk3)
  have hnk : f8 ≠ km ∧ f5 ≠ km := by omega
  obtain ⟨w4, hw4⟩ := ex (w3.alloc (.cells #[iv most] 3))
  obtain ⟨f9, hf9⟩ := ex w3.heap.size
  have hb34 : BW w3 w4 := by rw [← hw4]; exact belowA (belowR _) _
  have ho4 : OnlyAt w2 w4 km := ho3.trans (OnlyAt.of_below hb34 km)
  have x9 : w4.cell? ⟨f9, 0, none⟩ = some (iv most) := by rw [← hw4, ← hf9]; exact (Blk.new w3 3 #[iv most]).cell 0
  have HD4 : Hid (DeckHere W2 w4 h A cap J capJ N g bs br km BD) := Lq (HD3.out.below hb34)
  have x8 : w4.cell? ⟨f8, 0, none⟩ = some (ptr g) := ho4.cell y8 hnk.1
  have x5 : w4.cell? ⟨f5, 0, none⟩ = some (iv s) := ho4.cell y5 hnk.2
  have xg : w4.cell? ⟨g, 0, none⟩ = some (.slice A h.ps.length cap) := HD4.out.st.c0
  have fg := HD4.out.fz 0
  have hz8 : w4.heap.size = f9 + 1 := by rw [← hw4, ← hf9]; simp
  have hBD4 := HD4.out.st.hB
  have hcl := cloneP_any A h.ps BD cap w4.drew hn8 (HD4.out.st.rp.below (belowDq (belowR w4)) hBD4)
  have HCL := Lq hcl
  have HB4 : Hid (BW w w4) := Lq (ho4.below HB3.out (by omega))
  have hgn : g ≠ f8 ∧ g < f9 := by omega
  clear hcl hb34 ho4 ho3 hk3 HD3 HD2 HB3 y8 y5 B8 Y5 q0 q0w hw2 HMO
  go_wp2_with fail
  refine' cutAt (H := fun w5 q cq => BW w4 w5 ∧ w4.heap.size ≤ q ∧ h.ps.length ≤ cq ∧ PartsAt w5 q h.ps) ?main ?reg
  case reg =>
   intro KEY
   have HKEY := Lq KEY
   clear KEY
   go_region_with (go_at_call 71; (with_reducible refine HCL.out.mono ?_); rintro e w5 ⟨v5, rfl, hown5, hb5⟩; obtain ⟨q, cq, rfl, hq1, hq2, hq3⟩ := PartsAt.own hown5 hn1; have u8 := keepC (undrew0 hb5) x8; have ug := keepC (undrew0 hb5) xg; have vg : w5.frozen? ⟨g, 0, none⟩ = false := (keepF (undrew0 hb5) xg).trans fg)
   all_goals exact HKEY.out w5 q cq ⟨undrew0 hb5, hq1, hq2, hq3⟩
  case main =>
   intro w5 q cq ⟨hb5, hq1, hq2, hq3⟩
   (try dsimp only)
   obtain ⟨W6, hW6⟩ := ex (w5.setCell ⟨g, 0, none⟩ (.slice (some ⟨q, 0, none⟩) h.ps.length cq))
   have ho56 : OnlyAt w5 W6 g := by rw [← hW6]; exact ⟨rfl, rfl, rfl, by simp, fun k _ hne => Below.heap_setCell _ _ _ _ hne⟩
   have hz9 := hb5.size
   have hz10 := ho56.size
   have HD5 := HD4.out.st.below hb5
   have hql := hq3.lt
   have hPA : PartsAt W6 q h.ps := .of (fun i p hp => by
    obtain ⟨c0, c1, c2⟩ := hq3.cells hp
    exact ⟨ho56.cell c0 (by omega), ho56.cell c1 (by omega), ho56.cell c2 (by omega)⟩) (fun o => (ho56.frozen o hq3.lt (by omega)).trans (hq3.fz o)) (by omega)
   have hg6 : W6.cell? ⟨g, 0, none⟩ = some (.slice (some ⟨q, 0, none⟩) h.ps.length cq) := by rw [← hW6]; exact World.cell?_setCell_same _ _ _ HD5.c0
   have hE : LimE W6 BD g q cq h.ps.length N bs br s most f8 f5 f9 := by
    refine ⟨HD5.root, ?_, hg6, ?_, HD5.gB, by omega, ho56.cell (keepC hb5 x8) (by omega), ho56.cell (keepC hb5 x5) (by omega), ho56.cell (keepC hb5 x9) (by omega), by omega, by omega, by omega⟩
    ·rw [← hW6]; exact HD5.tab.setSlice HD5.c0 _
    ·rw [← hW6]; exact cell_set_ne HD5.c5 (by simp) _
   have HB6 : Hid (BW w W6) := Lq (by
    have := belowT HB4.out hb5
    rw [← hW6]
    exact belowS this (show w.heap.size ≤ g by omega) _)
   have HE := Lq hE
   have HPA := Lq hPA
   have e8 := hE.e8
   have e5 := hE.e5
   rw [hW6]
   clear hq3 HD5 ho56 hb5 hW6 hPA hE HB4 HD4 x8 x5 x9 xg fg HCL hw4
   go_wp2_with fail
   have hq6 : q < W6.heap.size := by omega
   have hord2 : f8 < f9 ∧ f9 < q ∧ w.heap.size ≤ q := by omega
   clear hg6 e8 e5 hql hz9 hz10 hq1 hz8 hf9 hz7 hBD4 hgn
   go_loopw [6, 43] (fun vv vi wr => ∃ (k : Nat) (vo : Value), k ≤ h.ps.length ∧ vi = iv k ∧ vo = vv ∧ Hid (wr.ownsRow W6.heap.size 3 1 vo k ((limL N s most h.ps k).map iv)) ∧ Hid (OnlyAt W6 wr q) ∧ Hid (PartsAt wr q (limTo N s most h.ps k))) (fun _ vi _ => h.ps.length - (intOf vi).toNat)
   case atStart => exact ⟨0, _, Nat.zero_le _, rfl, rfl, Lq (World.ownsRow_nil _ _ _ _), Lq (OnlyAt.refl W6 q), HPA⟩
   case round =>
    obtain ⟨k, vo, hkk, rfl, rfl, HO, HA, HP⟩ := hrel
    have hzr := HA.out.size
    by_cases hlt : k < h.ps.length
    ·obtain ⟨p, hp⟩ : ∃ p, h.ps[k]? = some p := ⟨_, List.getElem?_eq_getElem hlt⟩
     have hpk : (limTo N s most h.ps k)[k]? = some p := (limTo_at N s most h.ps k k (Nat.le_refl k)).trans hp
     have hpo := HPO.out p (List.mem_of_getElem? hp)
     have hsn := limL_succ N s most h.ps k
     have htn : limTo N s most h.ps (k + 1) = (limTo N s most h.ps k).set k ⟨p.name, limV N s most (limTo N s most h.ps k) k, limV N s most (limTo N s most h.ps k) k⟩ := by
      rw [limTo, limStep, hpk]
     have hvb := limV_bd N s most hpk hpo.2.1
     have hlen := limTo_len N s most h.ps k
     have hTk := HT.out.ps (limTo_ok N s most HPO.out k) hlen
     have hvv : limV N s most (limTo N s most h.ps k) k = p.lo + searchF (fun j => moreF N s most ((limTo N s most h.ps k).set k ⟨p.name, p.lo, p.lo + j⟩)) ((p.hi - p.lo).toNat + 1) 0 (p.hi - p.lo).toNat := by
      conv => lhs; unfold limV
      rw [hpk]
     obtain ⟨pk, hpkk⟩ := ex (limTo N s most h.ps k)
     rw [hpkk] at hpk hsn htn hvb hlen hTk hvv HP
     obtain ⟨v, hv⟩ := ex (limV N s most pk k)
     rw [hv] at hsn htn hvb hvv
     obtain ⟨c0, c1, c2⟩ := HP.out.cells hpk
     have E := HE.out.only HA.out
     have x8 := E.e8
     have xg := E.c0
     have HSN := Lq hsn
     have HTN := Lq htn
     have HVV := Lq hvv
     clear hsn htn hvv hv hpkk
     have x8a : (wr.alloc (.cells #[.string p.name, iv p.lo, iv p.hi] 44)).cell? ⟨f8, 0, none⟩ = some (ptr g) := keepA x8 _
     have xga : (wr.alloc (.cells #[.string p.name, iv p.lo, iv p.hi] 44)).cell? ⟨g, 0, none⟩ = some (.slice (some ⟨q, 0, none⟩) h.ps.length cq) := keepA xg _
     have l8 := lt_of_cell x8
     have lg := lt_of_cell xg
     have lq := HP.out.lt
     obtain ⟨f11, hf11⟩ := ex wr.heap.size
     obtain ⟨wa, hwa⟩ := ex ((wr.alloc (.cells #[.string p.name, iv p.lo, iv p.hi] 44)).alloc (.cells #[pT q (k * 3 + 1)] 147))
     have hba : BW wr wa := by rw [← hwa]; exact belowA (belowA (belowR _) _) _
     have b11 : Blk wa f11 44 #[.string p.name, iv p.lo, iv p.hi] := by rw [← hwa, ← hf11]; exact (Blk.new wr 44 _).alloc _
     have b12 : Blk wa (f11 + 1) 147 #[pT q (k * 3 + 1)] := by
      rw [← hwa, ← hf11]
      have := Blk.new (wr.alloc (.cells #[.string p.name, iv p.lo, iv p.hi] 44)) 147 #[pT q (k * 3 + 1)]
      rwa [World.size_alloc] at this
     have hza : wa.heap.size = f11 + 2 := by rw [← hwa, ← hf11]; simp
     have od : OnlyAt wr wa.drew q := (OnlyAt.of_below hba q).drew
     have Ea := E.only od
     have Pa := HP.out.below (belowDq hba)
     have n11 : f11 ≠ q := by omega
     have n12 : f11 + 1 ≠ q := by omega
     obtain ⟨d, hd⟩ : ∃ d : Nat, (p.hi - p.lo).toNat = d := ⟨_, rfl⟩
     have hsub : IntKind.i64.wrap (p.hi - p.lo) = (d : Int) := by
      have : p.hi - p.lo = (d : Int) := by omega
      rw [this]; exact wrap62 _ (by omega) (by omega)
     have hse := search75_any (ptr f11) (ptr (f11 + 1)) (ptr f8) (ptr f5) (ptr f9) (fun j => moreF N s most (pk.set k ⟨p.name, p.lo, p.lo + j⟩)) (fun X => OnlyAt wa.drew X q ∧ ∃ v, PartsAt X q (pk.set k ⟨p.name, p.lo, v⟩)) d wa.drew (by omega)
      ⟨OnlyAt.refl _ _, p.hi, by
       have : pk.set k ⟨p.name, p.lo, p.hi⟩ = pk := List.ext_getElem? (fun j => by
        by_cases hj : k = j
        ·subst hj; rw [List.getElem?_set_self (by omega), hpk]
        ·rw [List.getElem?_set_ne hj])
       rw [this]; exact Pa⟩
      (fun W j hW hj => by
       obtain ⟨hWo, v', hW⟩ := hW
       have hEW := Ea.only hWo
       have hat : (pk.set k ⟨p.name, p.lo, v'⟩)[k]? = some ⟨p.name, p.lo, v'⟩ := List.getElem?_set_self (by omega)
       have hlw : (pk.set k (⟨p.name, p.lo, v'⟩ : Prt)).length = h.ps.length := by rw [List.length_set, hlen]
       have hTj : TreeOk ((pk.set k ⟨p.name, p.lo, v'⟩).set k ⟨p.name, p.lo, p.lo + j⟩) N := by
        rw [List.set_set]
        exact hTk.ps (psOk_set hTk.po k _ ⟨hpo.1, by simp only; omega, by simp only; omega⟩) (by rw [List.length_set])
       have := more_any (cap := cq) (ps := pk.set k ⟨p.name, p.lo, v'⟩) (by rw [hlw]; exact hEW) hW hat j (by simp only; omega) hpo.1 hTj hs f11 (f11 + 1) (hWo.cell (b11.cell 1) n11) (hWo.cell (b12.cell 0) n12)
       rw [List.set_set] at this
       exact this.mono (fun e w' hp => ⟨hp.1, hWo.trans hp.2.1, _, hp.2.2⟩))
     rw [hd] at HVV
     obtain ⟨R, hR⟩ := ex (searchF (fun j => moreF N s most (pk.set k ⟨p.name, p.lo, p.lo + j⟩)) (d + 1) 0 d)
     rw [hR] at hse HVV
     have hvR := HVV.out
     have hadd : IntKind.i64.wrap (p.lo + (R : Int)) = v := by rw [← hvR]; exact wrap62 _ (by omega) (by omega)
     have HSE := Lq hse
     have HC : Hid (∀ W, OnlyAt wa.drew W q → W.cell? ⟨f11, 1, none⟩ = some (iv p.lo) ∧ W.cell? ⟨f11, 2, none⟩ = some (iv p.hi)) := Lq fun W ho => ⟨ho.cell (b11.cell 1) n11, ho.cell (b11.cell 2) n11⟩
     have HEA := Lq Ea
     have HBA := Lq hba
     have HPS := Lq hp
     have B12 := Lq b12
     have HOR := Lq (OnlyAt.refl wa.drew q)
     have hkl8 : k < pk.length := by omega
     clear hse hR hvR Ea E Pa od b11 b12 hba HVV hp hpk hTk
     go_wp2_with fail
     go_region_held3 (fun W => W.cell? ⟨f11, 1, none⟩ = some (iv p.lo) ∧ W.cell? ⟨f11, 2, none⟩ = some (iv p.hi)) (first | exact HC.out wa.drew HOR.out | exact HC.out w7 ho7) ((go_at_call 72; (with_reducible refine HSE.out.mono ?_); rintro e w7 ⟨rfl, ho7, v7, hp7⟩))
     have hat7 : (pk.set k (⟨p.name, p.lo, v7⟩ : Prt))[k]? = some ⟨p.name, p.lo, v7⟩ := List.getElem?_set_self hkl8
     obtain ⟨d0, d1, d2⟩ := hp7.cells hat7
     have df1 := hp7.fz (k * 3 + 1)
     have df2 := hp7.fz (k * 3 + 2)
     have hp8 := (hp7.setLo hat7 v)
     rw [List.set_set] at hp8
     have hp9 := (hp8.setHi (List.getElem?_set_self hkl8) v)
     rw [List.set_set] at hp9
     obtain ⟨w9, hw9⟩ := ex ((w7.setCell ⟨q, k * 3 + 1, none⟩ (iv v)).setCell ⟨q, k * 3 + 2, none⟩ (iv v))
     rw [hw9] at hp9
     have ho79 : OnlyAt w7 w9 q := by
      rw [← hw9]
      exact ⟨rfl, rfl, rfl, by simp, fun j _ hne => (Below.heap_setCell _ _ _ _ hne).trans (Below.heap_setCell _ _ _ _ hne)⟩
     have y12 : w7.cell? ⟨f11 + 1, 0, none⟩ = some (pT q (k * 3 + 1)) := ho7.cell (B12.out.cell 0) n12
     have HA9 : Hid (OnlyAt W6 w9 q) := Lq (HA.out.trans (((OnlyAt.of_below HBA.out q).drew).trans (ho7.trans ho79)))
     have HO9 : Hid (w9.ownsRow W6.heap.size 3 1 vo k ((limL N s most h.ps k).map iv)) := Lq (own_only (own_below HO.out HBA.out) ((OnlyAt.refl wa q).drew.trans (ho7.trans ho79)) hq6)
     have HP9 := Lq hp9
     have hz9 : W6.heap.size ≤ w9.heap.size := HA9.out.size
     clear ho7 ho79 hp7 hp8 hp9 hat7 HA HO HP HC HSE HEA HOR HBA x8 xg x8a xga c0 c1 c2
     have HAL := Lq (HO9.out.alloc (.cells #[iv v] 3))
     go_wp2_with (at_builtin; refine wpList_append_own _ rfl _ _ 47 rfl W6.heap.size 3 i0 (iv 0) 1 8 Tryz.underlying47 hi0 hz0 hzz1 hzz2 rfl (by decide) _ _ _ rfl HAL.out ⟨w9.heap.size, 0, none⟩ 1 1 [iv v] rfl rfl ?d1 ?d2 ?d3 ?d4 ?d5 ?_)
     case d2 => simp [Value.oneCell']
     case d3 => unfold maxLen; omega
     case d4 => omega
     case d5 => first | omega | (simp; omega)
     intro v10 w10 hown10 hg10 _
     have hq9 : q < w9.heap.size := HP9.out.lt
     have hA10 : OnlyAt W6 w10 q := (HA9.out.trans (OnlyAt.of_below (belowA (belowR w9) _) q)).grown HAL.out hg10 (Nat.le_refl _)
     have hP10 : PartsAt w10 q (pk.set k ⟨p.name, v, v⟩) := (HP9.out.below (belowA (belowR w9) _)).same (hg10.block q (by simp only [World.size_alloc]; omega) (fun e => by have := (HAL.out.lt q e.symm).1; omega)) (by have := hg10.size; simp only [World.size_alloc] at this; omega)
     have HO10 := Lq hown10
     have HA10 := Lq hA10
     have HP10 := Lq hP10
     clear hown10 hg10 hA10 hP10 HAL hw9 d0 d1 d2 df1 df2 y12
     go_wp2_with fail
     exact ⟨⟨k + 1, _, by omega, by go_num, rfl, Lq (by rw [HSN.out, List.map_append]; exact HO10.out), HA10, Lq (by rw [HTN.out]; exact HP10.out)⟩, by simp [intOf]; omega⟩
    ·obtain rfl : k = h.ps.length := by omega
     obtain ⟨gg, cc, rfl, _, _, _⟩ := own_form HO.out (by omega)
     go_wp2_with fail
     go_ret2
     exact HFC.out _ _ (HA.out.below HB6.out (by omega)) ⟨_, cc, rfl, own_base HO.out HB6.out.size⟩
attribute [local go_sem] Oper.semAt_some
theorem flat_atG {α : Type} {k : Nat} {encs : α → List Value} (he : ∀ x, (encs x).length = k) : ∀ (xs : List α) (i : Nat) (x : α), xs[i]? = some x → ∀ j, j < k → (xs.flatMap encs)[i * k + j]? = (encs x)[j]?
 | [], i, p, hp, j, hj => by simp at hp
 | a :: l, 0, p, hp, j, hj => by
  simp only [List.getElem?_cons_zero, Option.some.injEq] at hp
  subst hp
  rw [List.flatMap_cons, List.getElem?_append_left (by rw [he]; omega), Nat.zero_mul, Nat.zero_add]
 | a :: l, i + 1, p, hp, j, hj => by
  simp only [List.getElem?_cons_succ] at hp
  have e : (i + 1) * k + j = k + (i * k + j) := by rw [Nat.succ_mul]; omega
  rw [List.flatMap_cons, List.getElem?_append_right (by rw [he]; omega), ← flat_atG he l i p hp j hj, he, e, Nat.add_sub_cancel_left]
theorem Blk.rdN {α : Type} {k : Nat} {encs : α → List Value} (he : ∀ x, (encs x).length = k) {w : World} {b B : Nat} {t : TypeId} {xs : List α} (h : Blk w b t (xs.flatMap encs).toArray) (hB : b < B) : RdN k encs w B (some ⟨b, 0, none⟩) xs := by
 intro i x hx
 refine ⟨b, 0, rfl, hB, fun j u hu => ?_⟩
 have hj : j < k := by rw [← he x]; exact (List.getElem?_eq_some_iff.1 hu).1
 rw [Nat.zero_add, h.cell]
 have := flat_atG he xs i x hx j hj
 rw [← hu, ← this]
 simp
def hul7 : Hul := ⟨[⟨⟨#[97]⟩, 100, 120⟩, ⟨⟨#[98]⟩, 200, 220⟩, ⟨⟨#[99]⟩, 50, 60⟩, ⟨⟨#[100]⟩, 300, 330⟩], [(0, 1), (1, 2), (2, 3)], 500, 600, 220⟩
def wgh7 : List Wgh := [⟨12, 350, 360⟩]
theorem weighed_any (w : World) : Calls Tryz.prog 32 #[] w fun e w' => Below w.heap.size w w' ∧ ∃ A, e = .returned (.slice A 1 1) ∧ RdN 3 encWgh w' w'.heap.size A wgh7 := by
 have HS := Lq fun (W : World) => span_any 350 360 W
 go_enter Tryz.func32, Tryz.ntmps32
 go_wp2_with fail
 refine (HS.out w).mono ?_
 rintro e w1 ⟨rfl, hb⟩
 have HB := Lq hb
 clear hb HS
 go_wp2_with fail
 go_ret
 refine ⟨belowA HB.out _, some ⟨w1.heap.size, 0, none⟩, rfl, ?_⟩
 exact Blk.rdN encWgh_len (xs := wgh7) (Blk.new w1 54 _) (by simp)
theorem hull_any (w : World) : Calls Tryz.prog 31 #[] w fun e w' => Below w.heap.size w w' ∧ ∃ A J, e = .returned (hv hul7 A 4 J 3) ∧ HulRd w' w'.heap.size hul7 A 4 J 3 := by
 have HS := Lq span_any
 go_enter Tryz.func31, Tryz.ntmps31
 obtain ⟨W0, hW0⟩ := ex (w.alloc (.cells #[.slice none 0 0, .slice none 0 0, iv 0, iv 0, iv 0] 40))
 have b0 : Blk W0 w.heap.size 40 #[.slice none 0 0, .slice none 0 0, iv 0, iv 0, iv 0] := by rw [← hW0]; exact Blk.new w 40 _
 have B0 := Lq b0
 have HBW : Hid (Below w.heap.size w W0) := Lq (by rw [← hW0]; exact belowA (belowR w) _)
 have hz0 : W0.heap.size = w.heap.size + 1 := by rw [← hW0]; simp
 clear b0
 go_wp2_with fail
 refine (HS.out _ _ _).mono ?_
 rintro e w1 ⟨rfl, hb1⟩
 have HB1 := Lq hb1
 have k1 := hb1.size
 clear hb1 hW0
 go_wp2_with fail
 refine (HS.out _ _ _).mono ?_
 rintro e w2 ⟨rfl, hb2⟩
 have HB2 := Lq (belowT HB1.out hb2)
 have k2 := hb2.size
 clear hb2
 go_wp2_with fail
 refine (HS.out _ _ _).mono ?_
 rintro e w3 ⟨rfl, hb3⟩
 have HB3 := Lq (belowT HB2.out hb3)
 have k3 := hb3.size
 clear hb3
 go_wp2_with fail
 refine (HS.out _ _ _).mono ?_
 rintro e w4 ⟨rfl, hb4⟩
 have HB4 := Lq (belowT HB3.out hb4)
 have k4 := hb4.size
 clear hb4
 obtain ⟨W5, hW5⟩ := ex ((w4.alloc (.cells #[.string ⟨#[97]⟩, iv 100, iv 120, .string ⟨#[98]⟩, iv 200, iv 220, .string ⟨#[99]⟩, iv 50, iv 60, .string ⟨#[100]⟩, iv 300, iv 330] 44)).alloc (.cells #[iv 0, iv 1, iv 1, iv 2, iv 2, iv 3] 45))
 have bp : Blk W5 w4.heap.size 44 (hul7.ps.flatMap encPrt).toArray := by rw [← hW5]; exact (Blk.new w4 44 _).alloc _
 have bj : Blk W5 (w4.heap.size + 1) 45 (hul7.js.flatMap encSp).toArray := by
  rw [← hW5]
  have := Blk.new (w4.alloc (.cells #[.string ⟨#[97]⟩, iv 100, iv 120, .string ⟨#[98]⟩, iv 200, iv 220, .string ⟨#[99]⟩, iv 50, iv 60, .string ⟨#[100]⟩, iv 300, iv 330] 44)) 45 (hul7.js.flatMap encSp).toArray
  rwa [World.size_alloc] at this
 have hb45 : Below w4.heap.size w4 W5 := by rw [← hW5]; exact belowA (belowA (belowR w4) _) _
 have hz5 : W5.heap.size = w4.heap.size + 2 := by rw [← hW5]; simp
 have HB5 := Lq (belowT HB4.out hb45)
 have BP := Lq bp
 have BJ := Lq bj
 clear hb45 bp bj
 go_wp2_with fail
 refine (HS.out _ _ _).mono ?_
 rintro e w6 ⟨rfl, hb6⟩
 have b0 : Blk w6 w.heap.size 40 #[.slice none 0 0, .slice none 0 0, iv 0, iv 0, iv 0] := (B0.out.same (HB5.out.block _ B0.out.lt)).same (hb6.block _ (by omega))
 have bp := BP.out.same (hb6.block _ BP.out.lt)
 have bj := BJ.out.same (hb6.block _ BJ.out.lt)
 have hb := belowT (belowT HBW.out HB5.out) hb6
 have hz6 := hb6.size
 have d0 := b0.cell 0
 have d1 := b0.cell 1
 have d2 := b0.cell 2
 have d3 := b0.cell 3
 have d4 := b0.cell 4
 have f0 := b0.frozen 0
 have f1 := b0.frozen 1
 have f2 := b0.frozen 2
 have f3 := b0.frozen 3
 have f4 := b0.frozen 4
 have BP := Lq bp
 have BJ := Lq bj
 have HB := Lq hb
 have B6 := Lq b0
 clear hb6 b0 bp bj hb hW5 HS HB1 HB2 HB3 HB4 HB5
 go_wp2_with fail
 obtain ⟨pb, hpb⟩ := ex w4.heap.size
 obtain ⟨tb, htb⟩ := ex w.heap.size
 rw [hpb, htb]
 have hl1 : w.heap.size < pb := by omega
 rw [hpb] at BP BJ
 have HB' : Below w.heap.size w _ := HB.out
 have B6' := B6.out
 rw [htb] at HB' B6' hl1
 obtain ⟨wx, hwx⟩ := ex ((((((w6.setCell ⟨tb, 0, none⟩ (.slice (some ⟨pb, 0, none⟩) 4 4)).setCell ⟨tb, 1, none⟩ (.slice (some ⟨pb + 1, 0, none⟩) 3 3)).setCell ⟨tb, 2, none⟩ (iv 500)).setCell ⟨tb, 3, none⟩ (iv 600)).setCell ⟨tb, 4, none⟩ (iv 220)))
 have bx : Blk wx tb 40 #[.slice (some ⟨pb, 0, none⟩) 4 4, .slice (some ⟨pb + 1, 0, none⟩) 3 3, iv 500, iv 600, iv 220] := by
  rw [← hwx]
  exact ((((B6'.set_ 0 _).set_ 1 _).set_ 2 _).set_ 3 _).set_ 4 _
 have bp : Blk wx pb 44 (hul7.ps.flatMap encPrt).toArray := by
  rw [← hwx]
  exact ((((BP.out.far (by simp only; omega) _).far (by simp only; omega) _).far (by simp only; omega) _).far (by simp only; omega) _).far (by simp only; omega) _
 have bj : Blk wx (pb + 1) 45 (hul7.js.flatMap encSp).toArray := by
  rw [← hwx]
  exact ((((BJ.out.far (by simp only; omega) _).far (by simp only; omega) _).far (by simp only; omega) _).far (by simp only; omega) _).far (by simp only; omega) _
 have hbx : Below tb w wx := by
  rw [← hwx]
  have hle : ∀ o, tb ≤ (⟨tb, o, none⟩ : Addr).block := fun _ => Nat.le_refl _
  exact ((((HB'.setCell (hle 0) _).setCell (hle 1) _).setCell (hle 2) _).setCell (hle 3) _).setCell (hle 4) _
 have y0 : wx.cell? ⟨tb, 0, none⟩ = some (.slice (some ⟨pb, 0, none⟩) 4 4) := bx.cell 0
 have y1 : wx.cell? ⟨tb, 1, none⟩ = some (.slice (some ⟨pb + 1, 0, none⟩) 3 3) := bx.cell 1
 have y2 : wx.cell? ⟨tb, 2, none⟩ = some (iv 500) := bx.cell 2
 have y3 : wx.cell? ⟨tb, 3, none⟩ = some (iv 600) := bx.cell 3
 have y4 : wx.cell? ⟨tb, 4, none⟩ = some (iv 220) := bx.cell 4
 rw [hwx]
 clear hwx
 refine bodyPost_ret (v := hv hul7 (some ⟨pb, 0, none⟩) 4 (some ⟨pb + 1, 0, none⟩) 3) (by simp [results, Tryz.results31, go_sem, y0, y1, y2, y3, y4, hul7]) rfl ?_
 refine ⟨hbx, _, _, rfl, Blk.rdN encPrt_len bp bp.lt, Blk.rdN encSp_len bj bj.lt, by decide, by decide, by decide, by decide, ?_⟩
 intro p hp
 simp only [hul7, List.mem_cons, List.not_mem_nil, or_false] at hp
 rcases hp with rfl | rfl | rfl | rfl <;> decide
attribute [local go_sem] Oper.semAt_some
section
variable {α : Type} [DecidableEq α]
def eqTo (l l' : List α) (i : Nat) : Bool := decide (l.length = l'.length) && decide (l.take i = l'.take i)
theorem eqTo_zero (l l' : List α) : eqTo l l' 0 = decide (l.length = l'.length) := by simp [eqTo]
theorem eqTo_false {l l' : List α} {i : Nat} (h : eqTo l l' i = false) : decide (l = l') = false := by
 rw [decide_eq_false_iff_not]
 rintro rfl
 simp [eqTo] at h
theorem eqTo_full {l l' : List α} (h : eqTo l l' l.length = true) : decide (l = l') = true := by
 simp only [eqTo, Bool.and_eq_true, decide_eq_true_eq] at h
 obtain ⟨h1, h2⟩ := h
 rw [List.take_length, h1, List.take_length] at h2
 rw [decide_eq_true_eq]
 exact h2
theorem eqTo_len {l l' : List α} {i : Nat} (h : eqTo l l' i = true) : l.length = l'.length := by
 simp only [eqTo, Bool.and_eq_true, decide_eq_true_eq] at h
 exact h.1
theorem eqTo_step {l l' : List α} {i : Nat} {x y : α} (h : eqTo l l' i = true) (hx : l[i]? = some x) (hy : l'[i]? = some y) : eqTo l l' (i + 1) = decide (x = y) := by
 simp only [eqTo, Bool.and_eq_true, decide_eq_true_eq] at h
 obtain ⟨h1, h2⟩ := h
 have e1 : l.take (i + 1) = l.take i ++ [x] := by rw [List.take_add_one, hx]; rfl
 have e2 : l'.take (i + 1) = l'.take i ++ [y] := by rw [List.take_add_one, hy]; rfl
 unfold eqTo
 rw [e1, e2, h2, h1]
 simp
end
@[go_sem] theorem eq25 (a b c d : Int) (w : World) : (Op.equalIn 10000 36 (.agg #[iv a, iv b]) (.agg #[iv c, iv d])).run Tryz.prog w = .ok (a == c && b == d) w := by
 have u3 := Tryz.underlying3
 have a3 := Tryz.isAgg3
 have z3 := Tryz.sizeOf3
 have hS : Tryz.prog.underlying 36 = some (.struct (Tryz.prog.fieldsOf 36)) := by kernel_rfl
 have hp : Tryz.prog.stoodInHeld 36 = false := by kernel_rfl
 rw [show (10000 : Nat) = 9999 + 1 from rfl, run_equalIn_agg w 9999 36 _ _ hS hp]
 simp only [Program.fieldsOf, Tryz.underlying36]
 go_simp
 by_cases h1 : a = c <;> by_cases h2 : b = d <;> simp [h1, h2]
theorem ints_any (A A' : Option Addr) (l l' : List Int) (B cap cap' : Nat) (w : World) (hR : Rd1 iv w B A l) (hR' : Rd1 iv w B A' l') (hl : l.length ≤ 1000) (_hl' : l'.length ≤ 1000) (hB : B ≤ w.heap.size) :
  Calls Tryz.prog 41 #[.slice A l.length cap, .slice A' l'.length cap'] w (Rt w (.bool (decide (l = l')))) := by
 have HR := Lq (And.intro hR hR')
 obtain ⟨R, hRR⟩ := ex (decide (l = l'))
 have HRR := Lq hRR
 have HZ := Lq (eqTo_zero l l')
 obtain ⟨z, hz⟩ := ex (eqTo l l' 0)
 rw [hz] at HZ
 have HZZ := Lq hz
 have hzi : ((l.length : Int) == (l'.length : Int)) = z := by
  rw [HZ.out]
  rw [Bool.eq_iff_iff]
  simp
  omega
 rw [hRR]
 clear hRR hR hR' hz
 go_enter Tryz.func41, Tryz.ntmps41
 go_wp2_with fail
 clear hzi
 go_loopw [5, 6] (fun vs vi wr => ∃ (q : Bool) (i : Nat), i ≤ l.length ∧ vi = iv i ∧ vs = .bool q ∧ Hid (eqTo l l' i = q) ∧ Hid (BW w wr)) (fun _ vi _ => l.length - (intOf vi).toNat)
 case atStart => exact ⟨z, 0, Nat.zero_le _, rfl, rfl, HZZ, Lq (belowR w)⟩
 case round =>
  obtain ⟨q, i, hi, rfl, rfl, HQ, HW⟩ := hrel
  by_cases hlt : i < l.length
  ·cases q
   ·go_wp2_with fail
    go_ret
    exact ⟨by rw [← HRR.out, eqTo_false HQ.out]; rfl, HW.out⟩
   ·have hle := eqTo_len HQ.out
    obtain ⟨x, hx⟩ : ∃ x, l[i]? = some x := ⟨_, List.getElem?_eq_getElem hlt⟩
    obtain ⟨y, hy⟩ : ∃ y, l'[i]? = some y := ⟨_, List.getElem?_eq_getElem (by omega)⟩
    have hst := eqTo_step HQ.out hx hy
    have hlt' : i < l'.length := by omega
    have hwr := HW.out.size
    obtain ⟨b1, o1, rfl, hb1, c1⟩ := HR.out.1 i x hx
    obtain ⟨b2, o2, rfl, hb2, c2⟩ := HR.out.2 i y hy
    have c1 := (HW.out.cell (p := ⟨b1, o1 + i, none⟩) (by simp only; omega)).trans c1
    have c2 := (HW.out.cell (p := ⟨b2, o2 + i, none⟩) (by simp only; omega)).trans c2
    have d1 : wr.drew.cell? ⟨b1, o1 + i, none⟩ = some (iv x) := c1
    have d2 : wr.drew.cell? ⟨b2, o2 + i, none⟩ = some (iv y) := c2
    have hxy : (x == y) = decide (x = y) := by rw [Bool.eq_iff_iff]; simp
    obtain ⟨q, hq⟩ := ex (decide (x = y))
    rw [hq] at hst hxy
    have HST := Lq hst
    clear hst hq hx hy c1 c2 hle
    go_wp2_with fail
    go_region_held3 (fun W => W.cell? ⟨b1, o1 + i, none⟩ = some (iv x) ∧ W.cell? ⟨b2, o2 + i, none⟩ = some (iv y)) (exact ⟨d1, d2⟩) (fail)
    go_wp2_with fail
    exact ⟨⟨q, i + 1, by omega, by go_num, rfl, HST, Lq (belowDq HW.out)⟩, by simp [intOf]; omega⟩
  ·obtain rfl : i = l.length := by omega
   have hr : q = R := by
    rw [← HRR.out]
    cases q
    ·exact (eqTo_false HQ.out).symm
    ·exact (eqTo_full HQ.out).symm
   go_wp2_with fail
   go_ret
   exact ⟨by rw [hr]; rfl, HW.out⟩
theorem spans_any (A A' : Option Addr) (l l' : List (Int × Int)) (B cap cap' : Nat) (w : World) (hR : RdN 2 encSp w B A l) (hR' : RdN 2 encSp w B A' l') (hl : l.length ≤ 1000) (_hl' : l'.length ≤ 1000) (hB : B ≤ w.heap.size) :
  Calls Tryz.prog 39 #[.slice A l.length cap, .slice A' l'.length cap'] w (Rt w (.bool (decide (l = l')))) := by
 have HR := Lq (And.intro hR hR')
 obtain ⟨R, hRR⟩ := ex (decide (l = l'))
 have HRR := Lq hRR
 have HZ := Lq (eqTo_zero l l')
 obtain ⟨z, hz⟩ := ex (eqTo l l' 0)
 rw [hz] at HZ
 have HZZ := Lq hz
 have hzi : ((l.length : Int) == (l'.length : Int)) = z := by
  rw [HZ.out]
  rw [Bool.eq_iff_iff]
  simp
  omega
 rw [hRR]
 clear hRR hR hR' hz
 have gm : Tryz.prog.eqGuardType Tryz.prog.depth 25 = false := by kernel_rfl
 have hbo : ∀ (a b c d : Int) (w : World), (binOp .eql 36 (.agg #[iv a, iv b]) (.agg #[iv c, iv d])).run Tryz.prog w = .ok (.bool (a == c && b == d)) w := fun a b c d w => by rw [run_eql_struct, eq25]; rfl
 go_enter Tryz.func39, Tryz.ntmps39
 go_wp2_with fail
 clear hzi
 go_loopw [5, 6] (fun vs vi wr => ∃ (q : Bool) (i : Nat), i ≤ l.length ∧ vi = iv i ∧ vs = .bool q ∧ Hid (eqTo l l' i = q) ∧ Hid (BW w wr)) (fun _ vi _ => l.length - (intOf vi).toNat)
 case atStart => exact ⟨z, 0, Nat.zero_le _, rfl, rfl, HZZ, Lq (belowR w)⟩
 case round =>
  obtain ⟨q, i, hi, rfl, rfl, HQ, HW⟩ := hrel
  by_cases hlt : i < l.length
  ·cases q
   ·go_wp2_with fail
    go_ret
    exact ⟨by rw [← HRR.out, eqTo_false HQ.out]; rfl, HW.out⟩
   ·have hle := eqTo_len HQ.out
    obtain ⟨x, hx⟩ : ∃ x, l[i]? = some x := ⟨_, List.getElem?_eq_getElem hlt⟩
    obtain ⟨y, hy⟩ : ∃ y, l'[i]? = some y := ⟨_, List.getElem?_eq_getElem (by omega)⟩
    have hst := eqTo_step HQ.out hx hy
    have hlt' : i < l'.length := by omega
    have hwr := HW.out.size
    obtain ⟨b1, o1, rfl, hb1, c1⟩ := HR.out.1 i x hx
    obtain ⟨b2, o2, rfl, hb2, c2⟩ := HR.out.2 i y hy
    obtain ⟨x1, x2⟩ := x
    obtain ⟨y1, y2⟩ := y
    have d1 : wr.drew.cell? ⟨b1, o1 + i * 2, none⟩ = some (iv x1) := (HW.out.cell (p := ⟨b1, _, none⟩) (by simp only; omega)).trans (c1 0 _ rfl)
    have d2 : wr.drew.cell? ⟨b1, o1 + i * 2 + 1, none⟩ = some (iv x2) := (HW.out.cell (p := ⟨b1, _, none⟩) (by simp only; omega)).trans (c1 1 _ rfl)
    have d3 : wr.drew.cell? ⟨b2, o2 + i * 2, none⟩ = some (iv y1) := (HW.out.cell (p := ⟨b2, _, none⟩) (by simp only; omega)).trans (c2 0 _ rfl)
    have d4 : wr.drew.cell? ⟨b2, o2 + i * 2 + 1, none⟩ = some (iv y2) := (HW.out.cell (p := ⟨b2, _, none⟩) (by simp only; omega)).trans (c2 1 _ rfl)
    have hxy : (x1 == y1 && x2 == y2) = decide ((x1, x2) = (y1, y2)) := by rw [Bool.eq_iff_iff]; simp
    obtain ⟨q, hq⟩ := ex (decide ((x1, x2) = (y1, y2)))
    rw [hq] at hst hxy
    have HST := Lq hst
    clear hst hq hx hy c1 c2 hle
    go_wp2_with fail
    go_region_held3 (fun W => W.cell? ⟨b1, o1 + i * 2, none⟩ = some (iv x1) ∧ W.cell? ⟨b1, o1 + i * 2 + 1, none⟩ = some (iv x2) ∧ W.cell? ⟨b2, o2 + i * 2, none⟩ = some (iv y1) ∧ W.cell? ⟨b2, o2 + i * 2 + 1, none⟩ = some (iv y2)) (exact ⟨d1, d2, d3, d4⟩) (fail)
    go_wp2_with fail
    exact ⟨⟨q, i + 1, by omega, by go_num, rfl, HST, Lq (belowDq HW.out)⟩, by simp [intOf]; omega⟩
  ·obtain rfl : i = l.length := by omega
   have hr : q = R := by
    rw [← HRR.out]
    cases q
    ·exact (eqTo_false HQ.out).symm
    ·exact (eqTo_full HQ.out).symm
   go_wp2_with fail
   go_ret
   exact ⟨by rw [hr]; rfl, HW.out⟩
end Go.Proofs.YtmhjhbchokbonaaGreat
namespace Go.Proofs.YtmhjhbchokbonaaGreat
open Go.RowKit
@[go_sem] theorem eq89 (a b c d : Int) (w : World) : (Op.equalIn 10000 89 (.agg #[iv a, iv b]) (.agg #[iv c, iv d])).run Tryz.prog w = .ok (a == c && b == d) w := by
 have u3 := Tryz.underlying3
 have a3 := Tryz.isAgg3
 have z3 := Tryz.sizeOf3
 have hS : Tryz.prog.underlying 89 = some (.struct (Tryz.prog.fieldsOf 89)) := by kernel_rfl
 have hp : Tryz.prog.stoodInHeld 89 = false := by kernel_rfl
 rw [show (10000 : Nat) = 9999 + 1 from rfl, run_equalIn_agg w 9999 89 _ _ hS hp]
 simp only [Program.fieldsOf, Tryz.underlying89]
 go_simp
 by_cases h1 : a = c <;> by_cases h2 : b = d <;> simp [h1, h2]
theorem alike_any (A A' : Option Addr) (l l' : List (Int × Int)) (B cap cap' : Nat) (w : World) (hR : RdN 2 encSp w B A l) (hR' : RdN 2 encSp w B A' l') (hl : l.length ≤ 1000) (_hl' : l'.length ≤ 1000) (hB : B ≤ w.heap.size) :
  Calls Tryz.prog 30 #[.slice A l.length cap, .slice A' l'.length cap'] w (Rt w (.bool (decide (l = l')))) := by
 have HR := Lq (And.intro hR hR')
 obtain ⟨R, hRR⟩ := ex (decide (l = l'))
 have HRR := Lq hRR
 have HZ := Lq (eqTo_zero l l')
 obtain ⟨z, hz⟩ := ex (eqTo l l' 0)
 rw [hz] at HZ
 have HZZ := Lq hz
 have hzi : ((l.length : Int) == (l'.length : Int)) = z := by
  rw [HZ.out]
  rw [Bool.eq_iff_iff]
  simp
  omega
 rw [hRR]
 clear hRR hR hR' hz
 have gm : Tryz.prog.eqGuardType Tryz.prog.depth 89 = false := by kernel_rfl
 have hbo : ∀ (a b c d : Int) (w : World), (binOp .eql 89 (.agg #[iv a, iv b]) (.agg #[iv c, iv d])).run Tryz.prog w = .ok (.bool (a == c && b == d)) w := fun a b c d w => by rw [run_eql_struct, eq89]; rfl
 go_enter Tryz.func30, Tryz.ntmps30
 go_wp2_with fail
 clear hzi
 go_loopw [5, 6] (fun vs vi wr => ∃ (q : Bool) (i : Nat), i ≤ l.length ∧ vi = iv i ∧ vs = .bool q ∧ Hid (eqTo l l' i = q) ∧ Hid (BW w wr)) (fun _ vi _ => l.length - (intOf vi).toNat)
 case atStart => exact ⟨z, 0, Nat.zero_le _, rfl, rfl, HZZ, Lq (belowR w)⟩
 case round =>
  obtain ⟨q, i, hi, rfl, rfl, HQ, HW⟩ := hrel
  by_cases hlt : i < l.length
  ·cases q
   ·go_wp2_with fail
    go_ret
    exact ⟨by rw [← HRR.out, eqTo_false HQ.out]; rfl, HW.out⟩
   ·have hle := eqTo_len HQ.out
    obtain ⟨x, hx⟩ : ∃ x, l[i]? = some x := ⟨_, List.getElem?_eq_getElem hlt⟩
    obtain ⟨y, hy⟩ : ∃ y, l'[i]? = some y := ⟨_, List.getElem?_eq_getElem (by omega)⟩
    have hst := eqTo_step HQ.out hx hy
    have hlt' : i < l'.length := by omega
    have hwr := HW.out.size
    obtain ⟨b1, o1, rfl, hb1, c1⟩ := HR.out.1 i x hx
    obtain ⟨b2, o2, rfl, hb2, c2⟩ := HR.out.2 i y hy
    obtain ⟨x1, x2⟩ := x
    obtain ⟨y1, y2⟩ := y
    have d1 : wr.drew.cell? ⟨b1, o1 + i * 2, none⟩ = some (iv x1) := (HW.out.cell (p := ⟨b1, _, none⟩) (by simp only; omega)).trans (c1 0 _ rfl)
    have d2 : wr.drew.cell? ⟨b1, o1 + i * 2 + 1, none⟩ = some (iv x2) := (HW.out.cell (p := ⟨b1, _, none⟩) (by simp only; omega)).trans (c1 1 _ rfl)
    have d3 : wr.drew.cell? ⟨b2, o2 + i * 2, none⟩ = some (iv y1) := (HW.out.cell (p := ⟨b2, _, none⟩) (by simp only; omega)).trans (c2 0 _ rfl)
    have d4 : wr.drew.cell? ⟨b2, o2 + i * 2 + 1, none⟩ = some (iv y2) := (HW.out.cell (p := ⟨b2, _, none⟩) (by simp only; omega)).trans (c2 1 _ rfl)
    have hxy : (x1 == y1 && x2 == y2) = decide ((x1, x2) = (y1, y2)) := by rw [Bool.eq_iff_iff]; simp
    obtain ⟨q, hq⟩ := ex (decide ((x1, x2) = (y1, y2)))
    rw [hq] at hst hxy
    have HST := Lq hst
    clear hst hq hx hy c1 c2 hle
    go_wp2_with fail
    go_region_held3 (fun W => W.cell? ⟨b1, o1 + i * 2, none⟩ = some (iv x1) ∧ W.cell? ⟨b1, o1 + i * 2 + 1, none⟩ = some (iv x2) ∧ W.cell? ⟨b2, o2 + i * 2, none⟩ = some (iv y1) ∧ W.cell? ⟨b2, o2 + i * 2 + 1, none⟩ = some (iv y2)) (exact ⟨d1, d2, d3, d4⟩) (fail)
    go_wp2_with fail
    exact ⟨⟨q, i + 1, by omega, by go_num, rfl, HST, Lq (belowDq HW.out)⟩, by simp [intOf]; omega⟩
  ·obtain rfl : i = l.length := by omega
   have hr : q = R := by
    rw [← HRR.out]
    cases q
    ·exact (eqTo_false HQ.out).symm
    ·exact (eqTo_full HQ.out).symm
   go_wp2_with fail
   go_ret
   exact ⟨by rw [hr]; rfl, HW.out⟩
theorem span23_any (lo hi : Int) (w : World) : Calls Tryz.prog 23 #[iv lo, iv hi] w (Rt w (.agg #[iv lo, iv hi])) := by
 go_enter Tryz.func23, Tryz.ntmps23
 go_wp2
 exact bodyPost_ret (v := .agg #[iv lo, iv hi]) (by simp [results, Tryz.results23, go_sem]) rfl ⟨rfl, (Below.refl _ _).alloc (Nat.le_refl _) _⟩
theorem hull21_any (w : World) : Calls Tryz.prog 21 #[] w fun e w' => BW w w' ∧ ∃ A, e = .returned (.agg #[.slice A 3 3, iv 200, iv 800]) ∧ H5Rd w' w'.heap.size hull5 A 3 := by
 have HS := Lq span23_any
 obtain ⟨W1, hW1⟩ := ex ((w.alloc (.cells #[.slice none 0 0, iv 0, iv 0] 24)))
 have hbW1 : BW w W1 := by rw [← hW1]; exact (belowA (belowR _) _)
 have hzW1 : W1.heap.size = w.heap.size + 1 := by rw [← hW1]; simp
 have k0 : Blk W1 w.heap.size 24 #[.slice none 0 0, iv 0, iv 0] := by
  rw [← hW1]
  exact Blk.new w 24 #[.slice none 0 0, iv 0, iv 0]
 have K0 := Lq k0
 have HB0 := Lq hbW1
 clear k0 hbW1
 go_enter Tryz.func21, Tryz.ntmps21
 go_wp2_with fail
 refine (HS.out _ _ _).mono ?_
 rintro e w1 ⟨rfl, hb⟩
 have HB1 := Lq (hb)
 have kk1 := hb.size
 clear hb
 go_wp2_with fail
 refine (HS.out _ _ _).mono ?_
 rintro e w2 ⟨rfl, hb⟩
 have HB2 := Lq (belowT HB1.out hb)
 have kk2 := hb.size
 clear hb
 go_wp2_with fail
 refine (HS.out _ _ _).mono ?_
 rintro e w3 ⟨rfl, hb⟩
 have HB3 := Lq (belowT HB2.out hb)
 have kk3 := hb.size
 clear hb
 go_wp2_with fail
 refine (HS.out _ _ _).mono ?_
 rintro e w4 ⟨rfl, hb⟩
 have HB4 := Lq (belowT HB3.out hb)
 have kk4 := hb.size
 clear hb
 go_wp2_with fail
 refine (HS.out _ _ _).mono ?_
 rintro e w5 ⟨rfl, hb⟩
 have HB5 := Lq (belowT HB4.out hb)
 have kk5 := hb.size
 clear hb
 go_wp2_with fail
 refine (HS.out _ _ _).mono ?_
 rintro e w6 ⟨rfl, hb⟩
 have HB6 := Lq (belowT HB5.out hb)
 have kk6 := hb.size
 clear hb
 clear hW1 HS
 obtain ⟨gp, hgp⟩ := ex w6.heap.size
 obtain ⟨W9, hW9⟩ := ex (w6.alloc (.cells #[.string ⟨#[98, 111, 119]⟩, iv 100, iv 1000, iv 1200, iv 50, iv 10, iv 12, .string ⟨#[109, 105, 100]⟩, iv 400, iv 500, iv 600, iv 100, iv 4, iv 5, .string ⟨#[115, 116, 101, 114, 110]⟩, iv 900, iv 2000, iv 2000, iv 100, iv 20, iv 20] 42))
 have hb9 : BW w6 W9 := by rw [← hW9]; exact belowA (belowR _) _
 have kp : Blk W9 gp 42 (hull5.ps.flatMap encS).toArray := by rw [← hW9, ← hgp]; exact Blk.new w6 42 _
 have hbx : BW W1 W9 := belowT HB6.out hb9
 have k9 := K0.out.same (hbx.block _ K0.out.lt)
 have KP := Lq kp
 have K9 := Lq k9
 have HBX := Lq (belowT HB0.out hbx)
 have f0 := k9.frozen 0
 have f1 := k9.frozen 1
 have f2 := k9.frozen 2
 have hl := k9.lt
 have hgw : gp ≠ w.heap.size := by omega
 have q0 := k9.c 0
 have q1 := k9.c 1
 have q2 := k9.c 2
 clear k9 hbx hb9 kp
 go_wp2_with fail
 obtain ⟨wx, hwx⟩ := ex (((W9.setCell ⟨w.heap.size, 0, none⟩ (.slice (some ⟨gp, 0, none⟩) 3 3)).setCell ⟨w.heap.size, 1, none⟩ (iv 200)).setCell ⟨w.heap.size, 2, none⟩ (iv 800))
 have kx : Blk wx w.heap.size 24 #[.slice (some ⟨gp, 0, none⟩) 3 3, iv 200, iv 800] := by
  rw [← hwx]
  exact ((K9.out.set_ 0 _).set_ 1 _).set_ 2 _
 have kp : Blk wx gp 42 (hull5.ps.flatMap encS).toArray := by
  rw [← hwx]
  exact ((KP.out.far hgw _).far hgw _).far hgw _
 have hbw : BW w wx := by
  rw [← hwx]
  exact belowS (belowS (belowS HBX.out (by dsimp only; omega) _) (by dsimp only; omega) _) (by dsimp only; omega) _
 rw [hwx]
 have y0 := kx.c 0
 have y1 := kx.c 1
 have y2 := kx.c 2
 clear hwx f0 f1 f2 q0 q1 q2 hW9
 refine bodyPost_ret (v := .agg #[.slice (some ⟨gp, 0, none⟩) 3 3, iv 200, iv 800]) (by simp [results, Tryz.results21, go_sem, y0, y1, y2]) rfl ?_
 refine ⟨hbw, some ⟨gp, 0, none⟩, rfl, Blk.rdN encS_len kp kp.lt, by simp [hull5], by simp [maxLen], fun p hp => ?_⟩
 simp only [hull5, List.mem_cons, List.not_mem_nil, or_false] at hp
 rcases hp with rfl | rfl | rfl <;> simp [maxLen, ByteArray.size]
theorem heavy22_any (w : World) : Calls Tryz.prog 22 #[] w fun e w' => BW w w' ∧ ∃ A1 A2, e = .returned (.agg #[.slice A1 3 3, .slice A2 3 3]) ∧ T5Rd w' w'.heap.size heavyW heavyL A1 A2 := by
 obtain ⟨g1, hg1⟩ := ex (w.heap.size + 1)
 obtain ⟨g2, hg2⟩ := ex (g1 + 1)
 obtain ⟨W1, hW1⟩ := ex ((((w.alloc (.cells #[.slice none 0 0, .slice none 0 0] 49)).alloc (.cells #[iv 1000, iv 500, iv 2000] 3)).alloc (.cells #[iv 12, iv 5, iv 20] 3)))
 have hbW1 : BW w W1 := by rw [← hW1]; exact (belowA (belowA (belowA (belowR _) _) _) _)
 have hzW1 : W1.heap.size = w.heap.size + 3 := by rw [← hW1]; simp
 have k0 : Blk W1 w.heap.size 49 #[.slice none 0 0, .slice none 0 0] := by
  rw [← hW1]
  exact ((Blk.new w 49 #[.slice none 0 0, .slice none 0 0]).alloc (.cells #[iv 1000, iv 500, iv 2000] 3)).alloc (.cells #[iv 12, iv 5, iv 20] 3)
 have k1 : Blk W1 g1 3 #[iv 1000, iv 500, iv 2000] := by
  rw [← hW1, ← hg1]
  have := (Blk.new (w.alloc (.cells #[.slice none 0 0, .slice none 0 0] 49)) 3 #[iv 1000, iv 500, iv 2000]).alloc (.cells #[iv 12, iv 5, iv 20] 3)
  rw [World.size_alloc] at this
  exact this
 have k2 : Blk W1 g2 3 #[iv 12, iv 5, iv 20] := by
  rw [← hW1, ← hg2, ← hg1]
  have := Blk.new ((w.alloc (.cells #[.slice none 0 0, .slice none 0 0] 49)).alloc (.cells #[iv 1000, iv 500, iv 2000] 3)) 3 #[iv 12, iv 5, iv 20]
  rw [World.size_alloc, World.size_alloc] at this
  exact this
 have K0 := Lq k0
 have K1 := Lq k1
 have K2 := Lq k2
 have HB0 := Lq hbW1
 have f0 := k0.frozen 0
 have f1 := k0.frozen 1
 have hl := k0.lt
 have q0 := k0.c 0
 have q1 := k0.c 1
 clear k0 k1 k2 hbW1
 go_enter Tryz.func22, Tryz.ntmps22
 go_wp2_with fail
 obtain ⟨wx, hwx⟩ := ex ((W1.setCell ⟨w.heap.size, 0, none⟩ (.slice (some ⟨g1, 0, none⟩) 3 3)).setCell ⟨w.heap.size, 1, none⟩ (.slice (some ⟨g2, 0, none⟩) 3 3))
 have kx : Blk wx w.heap.size 49 #[.slice (some ⟨g1, 0, none⟩) 3 3, .slice (some ⟨g2, 0, none⟩) 3 3] := by
  rw [← hwx]
  exact (K0.out.set_ 0 _).set_ 1 _
 have h1w : g1 ≠ w.heap.size := by omega
 have h2w : g2 ≠ w.heap.size := by omega
 have k1 : Blk wx g1 3 #[iv 1000, iv 500, iv 2000] := by
  rw [← hwx]
  exact (K1.out.far h1w _).far h1w _
 have k2 : Blk wx g2 3 #[iv 12, iv 5, iv 20] := by
  rw [← hwx]
  exact (K2.out.far h2w _).far h2w _
 have hbw : BW w wx := by
  rw [← hwx]
  exact belowS (belowS HB0.out (by dsimp only; omega) _) (by dsimp only; omega) _
 rw [hwx]
 have y0 := kx.c 0
 have y1 := kx.c 1
 clear hwx f0 f1 q0 q1 hW1
 refine bodyPost_ret (v := .agg #[.slice (some ⟨g1, 0, none⟩) 3 3, .slice (some ⟨g2, 0, none⟩) 3 3]) (by simp [results, Tryz.results22, go_sem, y0, y1]) rfl ?_
 refine ⟨hbw, some ⟨g1, 0, none⟩, some ⟨g2, 0, none⟩, rfl, fun i x hx => ⟨g1, 0, rfl, k1.lt, ?_⟩, fun i x hx => ⟨g2, 0, rfl, k2.lt, ?_⟩⟩
 ·rw [Nat.zero_add, k1.cell]
  match i, hx with
  | 0, hx => simp [heavyW] at hx; subst hx; rfl
  | 1, hx => simp [heavyW] at hx; subst hx; rfl
  | 2, hx => simp [heavyW] at hx; subst hx; rfl
  | i + 3, hx => simp [heavyW] at hx
 ·rw [Nat.zero_add, k2.cell]
  match i, hx with
  | 0, hx => simp [heavyL] at hx; subst hx; rfl
  | 1, hx => simp [heavyL] at hx; subst hx; rfl
  | 2, hx => simp [heavyL] at hx; subst hx; rfl
  | i + 3, hx => simp [heavyL] at hx
theorem two26_any (w : World) : Calls Tryz.prog 26 #[] w fun e w' => e = .returned (.slice (some ⟨w.heap.size, 0, none⟩) 2 2) ∧ w' = w.alloc (.cells #[iv 300, iv 525000, iv 700, iv 1575000] 89) := by
 go_enter Tryz.func26, Tryz.ntmps26
 go_wp2
 go_ret
 exact ⟨rfl, rfl⟩
theorem same29_any (a1 b1 a2 b2 : List Int) (A1 B1 A2 B2 : Option Addr) (B c1 c2 c3 c4 : Nat) (w : World) (h1 : Rd1 iv w B A1 a1) (h2 : Rd1 iv w B B1 b1) (h3 : Rd1 iv w B A2 a2) (h4 : Rd1 iv w B B2 b2) (l1 : a1.length ≤ 1000) (l3 : a2.length ≤ 1000) (e1 : a1 = a2) (e2 : b1 = b2) (l2 : b1.length ≤ 1000) (hB : B ≤ w.heap.size) :
  Calls Tryz.prog 29 #[.agg #[.slice A1 a1.length c1, .slice B1 b1.length c2], .agg #[.slice A2 a2.length c3, .slice B2 b2.length c4]] w (Rt w (.bool true)) := by
 obtain ⟨g1, hg1⟩ := ex (w.heap.size + 1)
 obtain ⟨W1, hW1⟩ := ex (((w.alloc (.cells #[.slice A1 a1.length c1, .slice B1 b1.length c2] 49)).alloc (.cells #[.slice A2 a2.length c3, .slice B2 b2.length c4] 49)))
 have hbW1 : BW w W1 := by rw [← hW1]; exact (belowA (belowA (belowR _) _) _)
 have hzW1 : W1.heap.size = w.heap.size + 2 := by rw [← hW1]; simp
 have k0 : Blk W1 w.heap.size 49 #[.slice A1 a1.length c1, .slice B1 b1.length c2] := by
  rw [← hW1]
  exact (Blk.new w 49 #[.slice A1 a1.length c1, .slice B1 b1.length c2]).alloc (.cells #[.slice A2 a2.length c3, .slice B2 b2.length c4] 49)
 have k1 : Blk W1 g1 49 #[.slice A2 a2.length c3, .slice B2 b2.length c4] := by
  rw [← hW1, ← hg1]
  have := Blk.new (w.alloc (.cells #[.slice A1 a1.length c1, .slice B1 b1.length c2] 49)) 49 #[.slice A2 a2.length c3, .slice B2 b2.length c4]
  rw [World.size_alloc] at this
  exact this
 have hi1 := fun V (hb : BW W1 V) => ints_any A1 A2 a1 a2 B c1 c3 V ((h1.below hbW1 hB).below hb (by omega)) ((h3.below hbW1 hB).below hb (by omega)) l1 l3 (by have := hb.size; omega)
 have hi2 := fun V (hb : BW W1 V) => ints_any B1 B2 b1 b2 B c2 c4 V ((h2.below hbW1 hB).below hb (by omega)) ((h4.below hbW1 hB).below hb (by omega)) l2 (by rw [← e2]; exact l2) (by have := hb.size; omega)
 rw [decide_eq_true e1] at hi1
 rw [decide_eq_true e2] at hi2
 have HI1 := Lq hi1
 have HI2 := Lq hi2
 have HB1 := Lq hbW1
 have HC : Hid (∀ V, BW W1 V → V.cell? ⟨w.heap.size, 1, none⟩ = some (.slice B1 b1.length c2) ∧ V.cell? ⟨g1, 1, none⟩ = some (.slice B2 b2.length c4)) := Lq fun V hb => ⟨keepC hb (k0.cell 1), keepC hb (k1.cell 1)⟩
 have p0 := k0.c 0
 have p1 := k0.c 1
 have q0 := k1.c 0
 have q1 := k1.c 1
 clear h1 h2 h3 h4 hi1 hi2 hbW1 k0 k1 e1 e2
 go_enter Tryz.func29, Tryz.ntmps29
 go_wp2_with fail
 refine (HI1.out _ (belowR _)).mono ?_
 rintro e w2 ⟨rfl, hb⟩
 have X2 := Lq hb
 obtain ⟨y0, y1⟩ := HC.out _ hb
 clear hb p0 p1 q0 q1 hW1
 go_wp2_with fail
 refine (HI2.out _ X2.out).mono ?_
 rintro e w3 ⟨rfl, hb⟩
 have X3 := Lq (belowT X2.out hb)
 clear hb y0 y1
 go_wp2_with fail
 go_ret
 exact ⟨rfl, belowT HB1.out X3.out⟩
end Go.Proofs.YtmhjhbchokbonaaGreat
